/- The loops of the laws 'RingActs' and 'RingCopies': each round is run by Lean's kernel from a shape of numbers that are not known; the induction over the rounds speaks of those numbers alone. Conditions: those that each theorem names. -/
import Derived.Test.YtlbehjagidopkaaRows
import Derived.KernelRfl
import Derived.Test.YtlbehjagidopkaaAbsE
open Go
namespace Go.Proofs.Ytlbehjagidopkaa.rings
noncomputable section
open Go.Abs

def I (n : Int) : AV := .val (.int .i64 n)
def X (i : Nat) : AV := .sx .i64 (.var i)
def row (l : List AV) : Blk := .cells (Tr.fill l 0 .lf) l.length none
def T1 (a : Nat) (n : SE) : Blk := .arr [.i .i64] (.tab a) n false
def T1r (a : Nat) (n : SE) : Blk := .arr [.i .i64] (.tab a) n true
def aTab (n : SE) : Blk := .arr [.i .i64, .i .i64] (.tab 32) n true
def nilS : AV := .val (.slice none 0 0)
def roRing (b : Nat) : Blk := .ro (Tr.fill [.ss (b + 1) 1 (.lit 0) (.var 0), X 4, X 5] 0 .lf) 3

/-! ### Find, Remove, Ints -/

def shF (G : Nat) : Nat → Shape
  | 0 => ⟨[(0, .ptr G 0), (1, X 7), (7, X 5), (8, X 6)], [roRing G, T1r 33 (.var 0)]⟩
  | 1 => ⟨[(4, X 6)], [roRing G, T1r 33 (.var 0)]⟩
  | _ => ⟨[], [roRing G, T1r 33 (.var 0)]⟩
def shM (G : Nat) : Nat → Shape
  | 0 => ⟨[(1, X 7), (10, .ss G 1 (.lit 0) (.var 5)), (11, X 5), (12, X 6)], [T1r 34 (.var 5)]⟩
  | 1 => ⟨[(4, X 6)], [T1r 34 (.var 5)]⟩
  | _ => ⟨[], [T1r 34 (.var 5)]⟩
def shS (G : Nat) : Nat → Shape
  | 0 => ⟨[(0, .ptr G 0), (5, X 6)], [roRing G, T1 33 (.var 0)]⟩
  | _ => ⟨[(0, .ptr G 0)], [roRing G, T1 33 (.var 0)]⟩
def shI (G : Nat) : Nat → Shape
  | 0 => ⟨[(0, .ss G 1 (.lit 0) (.var 5)), (1, .ss (G + 1) 1 (.lit 0) (.var 5)), (12, X 5), (13, X 6)], [T1r 33 (.var 5), T1r 34 (.var 5)]⟩
  | _ => ⟨[], [T1r 33 (.var 5), T1r 34 (.var 5)]⟩

/-! ### All -/

def rfCode : Code → Option (Code × Code)
  | .rangeFunc _ _ a b => some (a, b)
  | .seq a b => (rfCode a).or (rfCode b)
  | .block _ b => rfCode b
  | .cond _ a b => (rfCode a).or (rfCode b)
  | .scope b => rfCode b
  | _ => none
def loopB (ab : Code × Code) (G : Nat) : Blk := .loop .ready none 17 (tmps [(5, .ptr (G + 3) 0)]) 18 #[12] ab.1 ab.2 (G + 5)
def blsA (ab : Code × Code) (G : Nat) (l : Bool) : List Blk := [roRing G, T1r 33 (.var 0), .ro (Tr.fill [.ptr G 0] 0 .lf) 1, row [bif l then .ss (G + 6) 1 (.lit 0) (.var 6) else nilS], loopB ab G, .dfr] ++ (bif l then [T1 34 (.var 6)] else [])
def shA (ab : Code × Code) (G : Nat) : Nat → Shape
  | 0 => ⟨[(0, .yl (G + 4)), (1, .ptr (G + 2) 0), (3, I 0)], blsA ab G false⟩
  | 1 => ⟨[(0, .yl (G + 4)), (1, .ptr (G + 2) 0), (3, X 6)], blsA ab G true⟩
  | _ => ⟨[], blsA ab G true⟩

/-! ### Names -/

def ssOf : Option AV → List Nat
  | some (.ss b _ _ _) => [b]
  | _ => []
def cellOf (s : HS) (r i : Nat) : Option AV := match s.h.get r with
    | some (_, .cells c _ _) => c.get i
    | some (_, .ro c _) => c.get i
    | _ => none
def ringOf (s : HS) : Option AV → List Nat
  | some (.ptr r 0) => r :: ssOf (cellOf s r 0)
  | _ => []
def modelOf (s : HS) : Option AV → List Nat
  | some (.ptr r 0) => r :: ssOf (cellOf s r 1)
  | _ => []
def ptrOf : Option AV → List Nat
  | some (.ptr b _) => [b]
  | _ => []
def nmR (t : Nat) (st : St) (s : HS) : List Nat := ringOf s (st.t.get t)
def nmM (st : St) (_ : HS) : List Nat := ssOf (st.t.get 10)
def nmI (st : St) (_ : HS) : List Nat := ssOf (st.t.get 0) ++ ssOf (st.t.get 1)
def nmA (st : St) (s : HS) : List Nat := match st.t.get 0, st.t.get 1 with
  | some (.yl l), some (.ptr b 0) => ringOf s (cellOf s b 0) ++ [b] ++ (match s.h.get l with
    | some (_, .loop _ _ _ env _ _ _ _ d) => ptrOf (env.get 5) ++ [l, d] ++ (match env.get 5 with
      | some (.ptr c 0) => ssOf (cellOf s c 0)
      | _ => [])
    | _ => [])
  | _, _ => []

/-! ### Summaries -/

def z3 (N f n i x : SE) : List SE := [N, .lit 0, .lit 0, .lit 0, f, n, i, x]
/-- Find, of the queue: at p, if it is there. -/
def FR (G : Nat) (N f n x R p : SE) (found : Bool) : LoopSpec :=
  ⟨21, 3, 24, shF G, z3 N f n (.lit 0) x, [.tab 32, R], nmR 0, [⟨bif found then .ret else .exit 0, bif found then 1 else 2, z3 N f n (bif found then p else n) x, [.tab 32, R]⟩], 2⟩
/-- Find, of the document's. -/
def FM (G : Nat) (n x L p : SE) (found : Bool) : LoopSpec :=
  ⟨22, 3, 22, shM G, z3 (.lit 1) (.lit 0) n (.lit 0) x, [.tab 32, .tab 33, L], nmM, [⟨bif found then .ret else .exit 0, bif found then 1 else 2, z3 (.lit 1) (.lit 0) n (bif found then p else n) x, [.tab 32, .tab 33, L]⟩], 1⟩
/-- What Remove makes of the queue's row. -/
def SH (G : Nat) (N f n p R R' : SE) : LoopSpec :=
  ⟨24, 5, 45, shS G, z3 N f n p (.lit 0), [.tab 32, R], nmR 0, [⟨.exit 0, 1, z3 N f n (.add n (.lit (-1))) (.lit 0), [.tab 32, R']⟩], 2⟩
/-- All, of at least one. -/
def AS (ab : Code × Code) (G : Nat) (N f n R T : SE) : LoopSpec :=
  ⟨35, 2, 22, shA ab G, z3 N f n (.lit 0) (.lit 0), [.tab 32, R], nmA, [⟨.exit 0, 2, z3 N f n n (.lit 0), [.tab 32, R, T]⟩], 6⟩
/-- The very same. -/
def IS (G : Nat) (n A B : SE) : LoopSpec :=
  ⟨20, 5, 26, shI G, z3 (.lit 1) (.lit 0) n (.lit 0) (.lit 0), [.tab 32, A, B], nmI, [⟨.exit 0, 1, z3 (.lit 1) (.lit 0) n n (.lit 0), [.tab 32, A, B]⟩], 2⟩

/-! ### Acts -/

/-- A loop of acts: in which function, what is kept beside it, in which temporaries the queue, the document's, and the acts are. -/
structure AL where
  fn : Nat
  key : Nat
  nt : Nat
  pre : List Blk
  keep : Nat → List (Nat × AV)
  tr : Nat
  tm : Nat
  ts : Nat
  tl : Nat
  ti : Nat
  ex : Nat

def AL.o (A : AL) : Nat := A.pre.length
def ringB (b : Nat) (l : Bool) : List Blk := [row [.ss (b + 1) 1 (.lit 0) (.var 0), X 4, bif l then X 5 else I 0], T1 33 (.var 0), row [X 0, bif l then .ss (b + 3) 1 (.lit 0) (.var 5) else nilS]] ++ (bif l then [T1 34 (.var 5)] else [])
def AL.bl (A : AL) (G : Nat) (l : Bool) : List Blk := A.pre ++ (aTab (.var 2) :: ringB (G + A.o + 1) l)
def AL.ptrs (A : AL) (G : Nat) : List (Nat × AV) := A.keep G ++ [(A.tr, .ptr (G + A.o + 1) 0), (A.tm, .ptr (G + A.o + 3) 0)]
def AL.sh (A : AL) (G : Nat) : Nat → Shape
  | 0 => ⟨A.ptrs G ++ [(A.ts, .ss (G + A.o) 2 (.lit 0) (.var 2)), (A.tl, X 2), (A.ti, X 3)], A.bl G false⟩
  | 1 => ⟨A.ptrs G ++ [(A.ts, .ss (G + A.o) 2 (.lit 0) (.var 2)), (A.tl, X 2), (A.ti, X 3)], A.bl G true⟩
  | 2 => ⟨A.ptrs G, A.bl G false⟩
  | _ => ⟨A.ptrs G, A.bl G true⟩
def AL.names (A : AL) (pn : St → HS → List Nat) (st : St) (s : HS) : List Nat := pn st s ++ (ssOf (st.t.get A.ts) ++ (ringOf s (st.t.get A.tr) ++ modelOf s (st.t.get A.tm)))

def tt : SB × Bool := (.eq (.lit 77) (.lit 77), true)
def pcN : List (SB × Bool) := [tt, (.le (.lit 1) (.var 0), true), (.le (.var 0) (.lit 4096), true), (.le (.lit 0) (.var 4), true), (.le (.var 4) (.add (.var 0) (.lit (-1))), true), (.le (.var 4) (.lit 4095), true), (.le (.lit 0) (.var 5), true), (.le (.var 5) (.var 0), true), (.le (.var 5) (.lit 4096), true)]
def pcI : List (SB × Bool) := [(.le (.lit 0) (.var 3), true), (.le (.var 3) (.lit 300), true), (.le (.lit 0) (.var 2), true), (.le (.var 2) (.lit 300), true)]
def pcIn : List (SB × Bool) := [(.le (.var 2) (.var 3), false), (.le (.var 3) (.add (.var 2) (.lit (-1))), true), (.le (.var 3) (.lit 299), true)] ++ pcI
def kd : SE := .sel (.tab 32) (.var 3) 0
def xx : SE := .sel (.tab 32) (.var 3) 1
def kK : Nat → List (SB × Bool)
  | 0 => [(.eq kd (.lit 0), true)]
  | 1 => [(.eq kd (.lit 1), true), (.eq kd (.lit 0), false)]
  | 2 => [(.eq kd (.lit 2), true), (.eq kd (.lit 1), false), (.eq kd (.lit 0), false)]
  | 3 => [(.eq kd (.lit 3), true), (.eq kd (.lit 2), false), (.eq kd (.lit 1), false), (.eq kd (.lit 0), false)]
  | 4 => [(.eq kd (.lit 4), true), (.eq kd (.lit 3), false), (.eq kd (.lit 2), false), (.eq kd (.lit 1), false), (.eq kd (.lit 0), false)]
  | _ => [(.eq kd (.lit 4), false), (.eq kd (.lit 3), false), (.eq kd (.lit 2), false), (.eq kd (.lit 1), false), (.eq kd (.lit 0), false)]
def pFull : List (SB × Bool) := [(.eq (.var 5) (.var 0), true)]
def pRoom : List (SB × Bool) := [(.eq (.var 5) (.var 0), false), (.le (.var 0) (.var 5), false), (.le (.var 5) (.add (.var 0) (.lit (-1))), true), (.le (.var 5) (.lit 4095), true)]
def pSome : List (SB × Bool) := [(.le (.lit 1) (.var 5), true)]
def pNone : List (SB × Bool) := [(.eq (.var 5) (.lit 0), true)]
def n1 : SE := .add (.var 5) (.lit (-1))
def at0 : SE := .rem (.var 4) (.var 0)
def atN (e : SE) : SE := .rem (.add (.var 4) e) (.var 0)
def pPop : List (SB × Bool) := [(.eq (.sel (.tab 33) at0 0) (.sel (.tab 34) (.lit 0) 0), true)]
def pBack : List (SB × Bool) := [(.eq (.sel (.tab 33) (atN n1) 0) (.sel (.tab 34) n1 0), true)]
def pFound : List (SB × Bool) := [(.le (.lit 0) (.var 8), true), (.le (.var 8) (.add (.var 5) (.lit (-1))), true), (.le (.var 8) (.lit 4095), true), (.le (.var 5) (.lit 0), false), (.eq (.var 5) (.lit 0), false)]

/-- Ways through a round. -/
inductive K where
  | nPush | nFront | nPop | nBack | nRem | nOth | nEnd
  | push | pushF | front | frontF | pop | pop0 | back | back0 | rem | remN | oth | done
  deriving DecidableEq

def K.l : K → Bool
  | .nPush | .nFront | .nPop | .nBack | .nRem | .nOth | .nEnd => false
  | _ => true
/-- Is the list made behind it? -/
def K.l' : K → Bool
  | .nPop | .nBack | .nRem | .nOth | .nEnd => false
  | _ => true
def K.ends : K → Bool
  | .nEnd | .done => true
  | _ => false
def K.from (k : K) : Nat := bif k.l then 1 else 0
def K.to (k : K) : Nat := (bif k.l' then 1 else 0) + (bif k.ends then 2 else 0)
def K.facts (k : K) : List (SB × Bool) := (match k with
  | .nPush => kK 0 | .nFront => kK 1 | .nPop => kK 2 | .nBack => kK 3 | .nRem => kK 4 | .nOth => kK 5
  | .push => kK 0 ++ pRoom | .pushF => kK 0 ++ pFull | .front => kK 1 ++ pRoom | .frontF => kK 1 ++ pFull
  | .pop => kK 2 ++ pSome ++ pPop | .pop0 => kK 2 ++ pNone | .back => kK 3 ++ pSome ++ pBack | .back0 => kK 3 ++ pNone
  | .rem => pFound ++ kK 4 | .remN => kK 4 | .oth => kK 5
  | .nEnd | .done => [(.le (.var 2) (.var 3), true)])
def K.pc (k : K) : List (SB × Bool) := k.facts ++ ((bif k.ends then pcI else pcIn) ++ pcN)
def j1 : SE := .add (.var 3) (.lit 1)
def c0 : SE := .const (.lit 0)
def one (x : SE) : SE := .upd c0 (.lit 0) 0 x
def cat0 (a : SE) : SE := .cat c0 (.lit 0) a
def frontE : SE := .rem (.add (.var 4) (.add (.var 0) (.lit (-1)))) (.var 0)
def K.f (k : K) : List SE := match k with
  | .nPush => [j1, .var 4, .lit 1]
  | .nFront => [j1, frontE, .lit 1]
  | .push => [j1, .var 4, .add (.var 5) (.lit 1)]
  | .front => [j1, frontE, .add (.var 5) (.lit 1)]
  | .pop => [j1, .rem (.add (.var 4) (.lit 1)) (.var 0), n1]
  | .back => [j1, .var 4, n1]
  | .rem => [j1, .var 4, n1]
  | .nEnd | .done => [.var 3, .var 4, .var 5]
  | _ => [j1, .var 4, .var 5]
def K.g (k : K) : List SE := match k with
  | .nPush => [.upd (.tab 33) at0 0 xx, .cat (.cat c0 (.lit 0) c0) (.lit 0) (one xx)]
  | .nFront => [.upd (.tab 33) frontE 0 xx, .cat (one xx) (.lit 1) c0]
  | .push => [.upd (.tab 33) (atN (.var 5)) 0 xx, .cat (cat0 (.tab 34)) (.var 5) (one xx)]
  | .front => [.upd (.tab 33) frontE 0 xx, .cat (one xx) (.lit 1) (.tab 34)]
  | .pop => [.tab 33, .cat (cat0 (.tab 34)) (.lit 0) (.sh (.tab 34) (.lit 1))]
  | .back => [.tab 33, .cat (cat0 (.tab 34)) n1 (.sh (.tab 34) (.var 5))]
  | .rem => [.tab 40, .cat (cat0 (.tab 34)) (.var 8) (.sh (.tab 34) (.add (.var 8) (.lit 1)))]
  | _ => [.tab 33, .tab 34]
/-- Under which name the list is, counted from the acts' table on. -/
def K.new : K → Nat
  | .nPush => 9 | .nFront => 7 | .push => 10 | .front => 8 | .pop => 9 | .back => 9 | .rem => 9 | _ => 0
def K.case (A : AL) (G : Nat) (k : K) : Case :=
  ⟨k.pc, bif k.ends then .exit A.ex else .normal, k.to, [.var 0, .var 1, .var 2] ++ k.f, .tab 32 :: k.g, bif Nat.beq k.new 0 then [] else upFrom G (A.o + 4) ++ [G + A.o + k.new]⟩
/-- Loops within a round. -/
def K.specs (G : Nat) : K → List LoopSpec
  | .rem => [FR G (.var 0) (.var 4) (.var 5) xx (.tab 33) (.var 8) true, FM G (.var 5) xx (.tab 34) (.var 8) true, SH G (.var 0) (.var 4) (.var 5) (.var 8) (.tab 33) (.tab 40)]
  | .remN => [FR G (.var 0) (.var 4) (.var 5) xx (.tab 33) (.var 8) false, FM G (.var 5) xx (.tab 34) (.var 8) false]
  | _ => []

noncomputable def call (F : Facts) : Tgt → List AV → M AV := letI := noLoops; callN Try.prog (cfg0 100000) 60
noncomputable def callL (F : Facts) (Lo : Loops) : Tgt → List AV → M AV := letI := Lo; callN Try.prog (cfg0 100000) 60
noncomputable def bodyK (fn key : Nat) : Code := ((loopsKey key (subs (((Try.prog.funcs[fn]?).bind (·.body)).getD .skip))).head?).getD .skip
@[reducible] noncomputable def K.lo (k : K) : Loops := letI : Facts := ⟨k.pc⟩; manyLoops Try.prog.globals.size [] (k.specs Try.prog.globals.size)
noncomputable def K.run (A : AL) (k : K) : Bool :=
  (@code ⟨k.pc⟩ Try.prog k.lo (callL ⟨k.pc⟩ k.lo) none A.fn 100000 (bodyK A.fn A.key) ⟨tmps (A.sh Try.prog.globals.size k.from).t, A.nt, []⟩ ((A.sh Try.prog.globals.size k.from).heap Try.prog.globals.size [])).every 1000000000
    (@Case.chk ⟨k.pc⟩ Try.prog.globals.size A.nt (A.o + 4) (A.sh Try.prog.globals.size k.to) (k.case A Try.prog.globals.size))

def actsA : AL := ⟨4, 10, 118, [], fun _ => [(2, X 1)], 7, 8, 33, 34, 35, 0⟩
/-- RingCopies' first loop: where the others are. -/
def moreTab : Blk := .arr [.i .i64, .i .i64] (.tab 35) (.var 1) true
def actsB (hm : Bool) : AL := ⟨5, 8, 96, bif hm then [moreTab] else [], fun G => [(1, bif hm then .ss G 2 (.lit 0) (.var 1) else .so (.lit 0))], 5, 6, 30, 31, 32, 0⟩
/-- RingCopies' second loop: where the first two are. -/
def actsC : AL := ⟨5, 14, 96, [.ro .lf 0, .ro .lf 0], fun G => [(5, .ptr G 0), (6, .ptr (G + 1) 0)], 9, 10, 51, 52, 53, 2⟩

set_option maxRecDepth 1000000
theorem actsA_runs : ∀ k : K, k.run actsA = true := by
  intro k
  cases k <;> kernel_rfl
theorem actsB_runs (hm : Bool) : ∀ k : K, k.run (actsB hm) = true := by
  intro k
  cases hm <;> cases k <;> kernel_rfl
theorem actsC_runs : ∀ k : K, k.run actsC = true := by
  intro k
  cases k <;> kernel_rfl
theorem isA : ((Try.prog.funcs[4]?).bind (·.body)).map (fun c => loopsKey 10 (subs c)) = some [bodyK 4 10] := by kernel_rfl
theorem isB : ((Try.prog.funcs[5]?).bind (·.body)).map (fun c => loopsKey 8 (subs c)) = some [bodyK 5 8] := by kernel_rfl
theorem isC : ((Try.prog.funcs[5]?).bind (·.body)).map (fun c => loopsKey 14 (subs c)) = some [bodyK 5 14] := by kernel_rfl
theorem isF : ((Try.prog.funcs[21]?).bind (·.body)).map (fun c => loopsKey 3 (subs c)) = some [bodyK 21 3] := by kernel_rfl
theorem isM : ((Try.prog.funcs[22]?).bind (·.body)).map (fun c => loopsKey 3 (subs c)) = some [bodyK 22 3] := by kernel_rfl
theorem isS : ((Try.prog.funcs[24]?).bind (·.body)).map (fun c => loopsKey 5 (subs c)) = some [bodyK 24 5] := by kernel_rfl
theorem isL : ((Try.prog.funcs[35]?).bind (·.body)).map (fun c => loopsKey 2 (subs c)) = some [bodyK 35 2] := by kernel_rfl
theorem isI : ((Try.prog.funcs[20]?).bind (·.body)).map (fun c => loopsKey 5 (subs c)) = some [bodyK 20 5] := by kernel_rfl

def go6 : List SE := [.var 0, .var 1, .var 2, .var 3, .var 4, .var 5, .add (.var 6) (.lit 1), .var 7]

theorem noCallOk (F : Facts) (V : @Vals F) (B : Nat) : @CallOK F V Try.prog B (call F) :=
  letI := noLoops
  callN_ok ⟨noLoops_ok, fun _ _ e => by cases e⟩ (fun _ h => region_any h) 60

theorem noRnd (B : Nat) (pc : List (SB × Bool)) (env : Nat → Int) : Rnd Try.prog B pc env noLoops (call ⟨pc⟩) :=
  ⟨fun _ _ => noTame, fun V _ => @noLoops_ok ⟨pc⟩ V _ _, fun V _ => noCallOk ⟨pc⟩ V B⟩

noncomputable def chk1 (fn key nt : Nat) (shapes : Nat → Shape) (stay : Nat) (i : Nat) (c : Case) : Bool :=
  (@code ⟨c.pc⟩ Try.prog noLoops (call ⟨c.pc⟩) none fn 100000 (bodyK fn key) ⟨tmps (shapes i).t, nt, []⟩ ((shapes i).heap Try.prog.globals.size [])).every 1000000000 (@Case.chk ⟨c.pc⟩ Try.prog.globals.size nt stay (shapes c.to) c)
noncomputable def chk0 (S : LoopSpec) (i : Nat) (c : Case) : Bool := chk1 S.fn S.key S.nt S.shapes S.stay i c

section
variable [F : Facts] [V : Vals]

/-- The numbers at the s-th round's head. -/
def cntE (S : LoopSpec) (s : Int) : Nat → Int := envT (fun i => if i = 6 then s else if i < 8 then (S.f0v i).eval V.env else 0) (fun a r c => (S.g0v a).row V.env r c)

theorem cntE_one {S : LoopSpec} {s : Int} {i : Nat} (h : i < 8) (h6 : i ≠ 6) : cntE S s i = (S.f0v i).eval V.env := by
  unfold cntE envT
  rw [if_pos (by omega)]
  simp only
  rw [if_neg h6, if_pos h]
theorem cntE_six {S : LoopSpec} {s : Int} : cntE S s 6 = s := by
  unfold cntE envT
  rw [if_pos (by decide)]
  simp
theorem cntE_tab {S : LoopSpec} {s : Int} {a r c : Nat} (h1 : 32 ≤ a) (h2 : a < 64) (hc : c < 64) : cntE S s (cellIx a (r : Int) c) = (S.g0v a).row V.env r c := envT_cell h1 h2 hc

theorem cntE_mid {S : LoopSpec} {s : Int} (hs : In64 s) (h1 : ∀ i, i < 8 → In64 ((S.f0v i).eval V.env)) (hg : S.g0.length ≤ 3) (h2 : ∀ a r c : Nat, 32 ≤ a → a < 35 → In64 ((S.g0v a).row V.env r c)) : ∀ j, In64 (cntE S s j) := by
  intro j
  unfold cntE envT
  split
  · simp only
    split
    · exact hs
    · split
      · exact h1 j (by assumption)
      · unfold In64; omega
  · by_cases ha : j % 64 < 35
    · exact h2 _ _ _ (by omega) ha
    · simp only
      have e : S.g0v (j % 64) = .tab (j % 64) := by
        unfold LoopSpec.g0v
        rw [List.getElem?_eq_none (by omega)]
        rfl
      rw [e]
      exact V.mid _

theorem next_cnt {S : LoopSpec} {c : Case} (hf : c.f = go6) (hg : c.g = []) {s : Int} : AgreeN 8 3 (c.next (cntE S s)) (cntE S (s + 1)) := by
  refine ⟨fun i hi => ?_, fun a r k h1 h2 h3 => ?_⟩
  · rw [Case.next, intoEnv_one (by omega), Case.fv, hf]
    have e : ∀ i, i < 8 → i ≠ 6 → (SE.var i).eval (cntE S s) = cntE S (s + 1) i := fun i hi h6 => by
      show cntE S s i = _
      rw [cntE_one hi h6, cntE_one hi h6]
    rcases i with _ | _ | _ | _ | _ | _ | _ | _ | i
    · exact e 0 (by decide) (by decide)
    · exact e 1 (by decide) (by decide)
    · exact e 2 (by decide) (by decide)
    · exact e 3 (by decide) (by decide)
    · exact e 4 (by decide) (by decide)
    · exact e 5 (by decide) (by decide)
    · show cntE S s 6 + 1 = cntE S (s + 1) 6
      rw [cntE_six, cntE_six]
    · exact e 7 (by decide) (by decide)
    · omega
  · rw [Case.next, intoEnv_cell h1 (by omega) h3, Case.gv, hg]
    show cntE S s (cellIx a (r : Int) k) = _
    rw [cntE_tab h1 (by omega) h3, cntE_tab h1 (by omega) h3]

theorem count_proof (S : LoopSpec) {fx : List Bool} (hfx : ShapesOK S.shapes S.stay fx) (hgood : S.good Try.prog.globals.size = true) (hups : ∀ i, (S.shapes i).ups 8 3 = true)
    (hloop : ((Try.prog.funcs[S.fn]?).bind (·.body)).map (fun c => loopsKey S.key (subs c)) = some [bodyK S.fn S.key])
    (cGo cEnd : Case) (hGo : chk0 S 0 cGo = true) (hEnd : chk0 S 0 cEnd = true) (hg1 : cGo.f = go6) (hg2 : cGo.g = []) (hg3 : cGo.e = .normal) (hg4 : cGo.to = 0)
    (he1 : cEnd.f = []) (he2 : cEnd.g = []) (he3 : cEnd.e ≠ .normal) (stop : Int) (h0 : 0 ≤ stop) (h64 : In64 stop)
    (pGo : ∀ s, 0 ≤ s → s < stop → ∀ p ∈ cGo.pc, p.1.eval (cntE S s) = p.2) (pEnd : ∀ p ∈ cEnd.pc, p.1.eval (cntE S stop) = p.2)
    (hf0 : S.f0.length = 8) (hg0 : S.g0.length ≤ 3) (h6 : (S.f0v 6).eval V.env = 0) (h1 : ∀ i, i < 8 → In64 ((S.f0v i).eval V.env)) (h2 : ∀ a r c : Nat, 32 ≤ a → a < 35 → In64 ((S.g0v a).row V.env r c))
    (o : LoopEnd) (ho : S.outs = [o]) (oe : o.e = cEnd.e) (oj : o.j = cEnd.to) (of_ : o.f.length = 8) (og : o.g = S.g0) (o6 : (o.fv 6).eval V.env = stop) (o1 : ∀ i, i < 8 → i ≠ 6 → o.fv i = S.f0v i) :
    LoopProof Try.prog [] S := by
  refine spec_proof2 (N := 1000000000) (fuel := 100000) S (fun p hp => by cases hp) hloop hfx hgood (σ := Int) (cntE S) 8 3 (by decide) hups (by omega) hg0
    (I := fun μ i s => i = 0 ∧ 0 ≤ s ∧ s ≤ stop ∧ μ = (stop - s).toNat) (Post := fun e j s => e = cEnd.e ∧ j = cEnd.to ∧ s = stop) (fun B μ i s hI => ?_) stop.toNat 0 ⟨rfl, Int.le_refl 0, h0, by omega⟩ (cntE_mid (by unfold In64; omega) h1 hg0 h2) ⟨fun i hi => ?_, fun a r c e1 e2 e3 => ?_⟩ (fun e j s hp => ?_)
  · obtain ⟨rfl, k1, k2, k3⟩ := hI
    by_cases hs : s < stop
    · refine ⟨cGo, s + 1, noLoops, call ⟨cGo.pc⟩, noRnd B _ _, hGo, pGo s k1 hs, by rw [hg1]; decide, by rw [hg2]; decide, cntE_mid (by unfold In64 at h64 ⊢; omega) h1 hg0 h2, next_cnt hg1 hg2, .inl ⟨hg3, (stop - (s + 1)).toNat, by omega, hg4, by omega, by omega, rfl⟩⟩
    · have : s = stop := by omega
      subst this
      refine ⟨cEnd, s, noLoops, call ⟨cEnd.pc⟩, noRnd B _ _, hEnd, pEnd, by rw [he1]; decide, by rw [he2]; decide, cntE_mid h64 h1 hg0 h2, ⟨fun i hi => ?_, fun a r c e1 e2 e3 => ?_⟩, .inr ⟨he3, rfl, rfl, rfl⟩⟩
      · rw [Case.next, intoEnv_one (by omega), Case.fv, he1]
        rfl
      · rw [Case.next, intoEnv_cell e1 (by omega) e3, Case.gv, he2]
        rfl
  · rw [intoEnv_one (by omega)]
    by_cases hi6 : i = 6
    · subst hi6
      rw [h6, cntE_six]
    · rw [cntE_one hi hi6]
  · rw [intoEnv_cell e1 (by omega) e3, cntE_tab e1 (by omega) e3]
  · obtain ⟨rfl, rfl, rfl⟩ := hp
    refine ⟨0, o, by rw [ho]; rfl, oe, oj, by omega, by rw [og]; exact hg0, ⟨fun i hi => ?_, fun a r c e1 e2 e3 => ?_⟩⟩
    · rw [intoEnv_one (by omega)]
      by_cases hi6 : i = 6
      · subst hi6
        rw [o6, cntE_six]
      · rw [cntE_one hi hi6, o1 i hi hi6]
    · rw [intoEnv_cell e1 (by omega) e3, cntE_tab e1 (by omega) e3]
      unfold LoopEnd.gv
      rw [og]
      rfl
end

def inI : List (SB × Bool) := [(.le (.var 5) (.var 6), false), (.le (.lit 0) (.var 6), true), (.le (.var 6) (.add (.var 5) (.lit (-1))), true), (.le (.var 6) (.lit 4095), true)]
def outI : List (SB × Bool) := [(.le (.var 5) (.var 6), true), (.le (.lit 0) (.var 6), true), (.le (.var 6) (.lit 4096), true)]
def pcM : List (SB × Bool) := [tt, (.le (.lit 0) (.var 5), true), (.le (.var 5) (.lit 4096), true)]
def eqR : SB := .eq (.sel (.tab 33) (atN (.var 6)) 0) (.var 7)
def eqM : SB := .eq (.var 7) (.sel (.tab 34) (.var 6) 0)
def eqI : SB := .eq (.sel (.tab 33) (.var 6) 0) (.sel (.tab 34) (.var 6) 0)
def goC (b : SB) (d : Bool) (pc : List (SB × Bool)) : Case := ⟨(b, d) :: (inI ++ pc), .normal, 0, go6, [], []⟩
def foundC (b : SB) (pc : List (SB × Bool)) : Case := ⟨(b, true) :: (inI ++ pc), .ret, 1, [], [], []⟩
def overC (to : Nat) (pc : List (SB × Bool)) : Case := ⟨outI ++ pc, .exit 0, to, [], [], []⟩

set_option maxRecDepth 1000000
theorem rR1 : chk1 21 3 24 (shF Try.prog.globals.size) 2 0 (goC eqR false pcN) = true := by kernel_rfl
theorem rR2 : chk1 21 3 24 (shF Try.prog.globals.size) 2 0 (foundC eqR pcN) = true := by kernel_rfl
theorem rR3 : chk1 21 3 24 (shF Try.prog.globals.size) 2 0 (overC 2 pcN) = true := by kernel_rfl
theorem rM1 : chk1 22 3 22 (shM Try.prog.globals.size) 1 0 (goC eqM false pcM) = true := by kernel_rfl
theorem rM2 : chk1 22 3 22 (shM Try.prog.globals.size) 1 0 (foundC eqM pcM) = true := by kernel_rfl
theorem rM3 : chk1 22 3 22 (shM Try.prog.globals.size) 1 0 (overC 2 pcM) = true := by kernel_rfl
theorem rI1 : chk1 20 5 26 (shI Try.prog.globals.size) 2 0 (goC eqI true pcM) = true := by kernel_rfl
theorem rI2 : chk1 20 5 26 (shI Try.prog.globals.size) 2 0 (overC 1 pcM) = true := by kernel_rfl

theorem goodF (S : LoopSpec) (hS : S.shapes = shF Try.prog.globals.size) (o : LoopEnd) (ho : S.outs = [o]) (hj : o.j = 1 ∨ o.j = 2) : S.good Try.prog.globals.size = true := by
  unfold LoopSpec.good
  rw [ho, hS]
  rcases hj with h | h <;> simp only [List.all_cons, List.all_nil, h] <;> kernel_rfl
theorem goodM (S : LoopSpec) (hS : S.shapes = shM Try.prog.globals.size) (o : LoopEnd) (ho : S.outs = [o]) (hj : o.j = 1 ∨ o.j = 2) : S.good Try.prog.globals.size = true := by
  unfold LoopSpec.good
  rw [ho, hS]
  rcases hj with h | h <;> simp only [List.all_cons, List.all_nil, h] <;> kernel_rfl
theorem goodI (S : LoopSpec) (hS : S.shapes = shI Try.prog.globals.size) (o : LoopEnd) (ho : S.outs = [o]) (hj : o.j = 1) : S.good Try.prog.globals.size = true := by
  unfold LoopSpec.good
  rw [ho, hS]
  simp only [List.all_cons, List.all_nil, hj]
  kernel_rfl
theorem upsF : ∀ i, (shF Try.prog.globals.size i).ups 8 3 = true := by
  intro i
  rcases i with _ | _ | i <;> kernel_rfl
theorem upsM : ∀ i, (shM Try.prog.globals.size i).ups 8 3 = true := by
  intro i
  rcases i with _ | _ | i <;> kernel_rfl
theorem upsI : ∀ i, (shI Try.prog.globals.size i).ups 8 3 = true := by
  intro i
  rcases i with _ | i <;> kernel_rfl
theorem fixF : ShapesOK (shF Try.prog.globals.size) 2 [true, true] := by
  intro i
  rcases i with _ | _ | i <;> exact ⟨Nat.le_refl _, rfl, rfl⟩
theorem fixM : ShapesOK (shM Try.prog.globals.size) 1 [true] := by
  intro i
  rcases i with _ | _ | i <;> exact ⟨Nat.le_refl _, rfl, rfl⟩
theorem fixI : ShapesOK (shI Try.prog.globals.size) 2 [true, true] := by
  intro i
  rcases i with _ | i <;> exact ⟨Nat.le_refl _, rfl, rfl⟩

section
variable [F : Facts] [V : Vals]

theorem cntE_row {S : LoopSpec} {s r : Int} {a c : Nat} (hr : 0 ≤ r) (h1 : 32 ≤ a) (h2 : a < 64) (hc : c < 64) : (SE.tab a).row (cntE S s) r c = (S.g0v a).row V.env r c := by
  obtain ⟨m, rfl⟩ : ∃ m : Nat, r = m := ⟨r.toNat, by omega⟩
  exact cntE_tab h1 h2 hc

omit F V in
theorem modIn {f i N : Int} (hN : 1 ≤ N) (h : 0 ≤ f + i) : 0 ≤ (f + i).tmod N ∧ (f + i).tmod N < N :=
  ⟨Int.tmod_nonneg N h, Int.tmod_lt_of_pos _ (by omega)⟩

theorem FR_proof {N f n x R p : SE} {found : Bool} (hN : 1 ≤ N.eval V.env ∧ N.eval V.env ≤ 4096) (hf : 0 ≤ f.eval V.env ∧ f.eval V.env < N.eval V.env) (hn : 0 ≤ n.eval V.env ∧ n.eval V.env ≤ N.eval V.env) (hx : In64 (x.eval V.env))
    (hR : ∀ r c : Nat, In64 (R.row V.env r c)) (hfnd : found = true → 0 ≤ p.eval V.env ∧ p.eval V.env < n.eval V.env ∧ R.row V.env ((f.eval V.env + p.eval V.env).tmod (N.eval V.env)) 0 = x.eval V.env)
    (hq : ∀ j, 0 ≤ j → j < (bif found then p else n).eval V.env → R.row V.env ((f.eval V.env + j).tmod (N.eval V.env)) 0 ≠ x.eval V.env) : LoopProof Try.prog [] (FR Try.prog.globals.size N f n x R p found) := by
  obtain ⟨S, hS⟩ : ∃ S, S = FR Try.prog.globals.size N f n x R p found := ⟨_, rfl⟩
  rw [← hS]
  have hstop : 0 ≤ (bif found then p else n).eval V.env ∧ (bif found then p else n).eval V.env ≤ n.eval V.env := by
    cases found
    · exact ⟨hn.1, Int.le_refl _⟩
    · exact ⟨(hfnd rfl).1, by have := (hfnd rfl).2.1; show p.eval V.env ≤ _; omega⟩
  have hf0 : ∀ i, S.f0v i = ((z3 N f n (.lit 0) x)[i]?).getD (.var i) := fun i => by rw [hS]; rfl
  have hg0 : ∀ a, S.g0v a = (([.tab 32, R] : List SE)[a - 32]?).getD (.tab a) := fun a => by rw [hS]; rfl
  have e0 : ∀ s, cntE S s 0 = N.eval V.env := fun s => by rw [cntE_one (by decide) (by decide), hf0]; rfl
  have e4 : ∀ s, cntE S s 4 = f.eval V.env := fun s => by rw [cntE_one (by decide) (by decide), hf0]; rfl
  have e5 : ∀ s, cntE S s 5 = n.eval V.env := fun s => by rw [cntE_one (by decide) (by decide), hf0]; rfl
  have e6 : ∀ s, cntE S s 6 = s := fun s => cntE_six
  have e7 : ∀ s, cntE S s 7 = x.eval V.env := fun s => by rw [cntE_one (by decide) (by decide), hf0]; rfl
  have er : ∀ s r, 0 ≤ r → (SE.tab 33).row (cntE S s) r 0 = R.row V.env r 0 := fun s r hr => by rw [cntE_row hr (by decide) (by decide) (by decide), hg0]; rfl
  have esel : ∀ s, 0 ≤ s → (SE.sel (.tab 33) (atN (.var 6)) 0).eval (cntE S s) = R.row V.env ((f.eval V.env + s).tmod (N.eval V.env)) 0 := fun s hs => by
    show (SE.tab 33).row (cntE S s) ((cntE S s 4 + cntE S s 6).tmod (cntE S s 0)) 0 = _
    rw [e0, e4, e6]
    exact er s _ (modIn hN.1 (by omega)).1
  have e3 : (FR Try.prog.globals.size N f n x R p found).shapes = shF Try.prog.globals.size := rfl
  have common : ∀ s, 0 ≤ s → s ≤ n.eval V.env → ∀ p ∈ pcN, p.1.eval (cntE S s) = p.2 := fun s h1 h2 p hp => by
    simp only [pcN, tt, List.mem_cons, List.not_mem_nil, or_false] at hp
    rcases hp with rfl | rfl | rfl | rfl | rfl | rfl | rfl | rfl | rfl
    all_goals first | rfl | exact decide_eq_true (by simp only [SE.eval, e0, e4, e5]; omega)
  have inn : ∀ s, 0 ≤ s → s < n.eval V.env → ∀ p ∈ inI, p.1.eval (cntE S s) = p.2 := fun s h1 h2 p hp => by
    simp only [inI, List.mem_cons, List.not_mem_nil, or_false] at hp
    rcases hp with rfl | rfl | rfl | rfl
    all_goals first | exact decide_eq_true (by simp only [SE.eval, e5, e6]; omega) | exact decide_eq_false (by simp only [SE.eval, e5, e6]; omega)
  refine count_proof S (fx := [true, true]) (by rw [hS]; exact fixF) ?_ (by rw [hS]; exact upsF) (by rw [hS]; exact isF) (goC eqR false pcN) (bif found then foundC eqR pcN else overC 2 pcN) (by rw [hS]; exact rR1) ?_ rfl rfl rfl rfl (by cases found <;> rfl) (by cases found <;> rfl) (by cases found <;> simp [foundC, overC])
    ((bif found then p else n).eval V.env) hstop.1 (by unfold In64; omega) (fun s h1 h2 p hp => ?_) (fun p hp => ?_) (by rw [hS]; rfl) (by rw [hS]; exact Nat.le_of_ble_eq_true rfl) (by rw [hf0]; rfl) (fun i hi => ?_) (fun a r c h1 h2 => ?_)
    ⟨bif found then .ret else .exit 0, bif found then 1 else 2, z3 N f n (bif found then p else n) x, [.tab 32, R]⟩ (by rw [hS]; rfl) (by cases found <;> rfl) (by cases found <;> rfl) rfl (by rw [hS]; rfl) rfl (fun i hi h6 => ?_)
  · exact goodF S (by rw [hS]; rfl) _ (by rw [hS]; rfl) (by cases found <;> simp)
  · rw [hS]
    cases found
    · exact rR3
    · exact rR2
  · rcases List.mem_cons.1 hp with rfl | hp
    · refine decide_eq_false ?_
      rw [esel s h1]
      show ¬ _ = cntE S s 7
      rw [e7]
      exact hq s h1 h2
    · rcases List.mem_append.1 hp with hp | hp
      · exact inn s h1 (by omega) p hp
      · exact common s h1 (by omega) p hp
  · cases found with
    | true =>
      obtain ⟨g1, g2, g3⟩ := hfnd rfl
      have hp' := hp
      simp only [cond_true] at hp'
      rcases List.mem_cons.1 hp' with rfl | hp'
      · refine decide_eq_true ?_
        show (SE.sel (.tab 33) (atN (.var 6)) 0).eval (cntE S _) = cntE S _ 7
        rw [esel _ hstop.1, e7]
        exact g3
      · rcases List.mem_append.1 hp' with hp' | hp'
        · exact inn _ hstop.1 g2 p hp'
        · exact common _ hstop.1 hstop.2 p hp'
    | false =>
      have hp' := hp
      simp only [cond_false] at hp'
      rcases List.mem_append.1 hp' with hp' | hp'
      · simp only [outI, List.mem_cons, List.not_mem_nil, or_false] at hp'
        rcases hp' with rfl | rfl | rfl
        all_goals exact decide_eq_true (by simp only [SE.eval, e5, e6, cond_false]; omega)
      · exact common _ hstop.1 hstop.2 p hp'
  · rw [hf0]
    have z : In64 0 := by unfold In64; omega
    rcases i with _ | _ | _ | _ | _ | _ | _ | _ | i
    · show In64 (N.eval V.env); unfold In64; omega
    · exact z
    · exact z
    · exact z
    · show In64 (f.eval V.env); unfold In64; omega
    · show In64 (n.eval V.env); unfold In64; omega
    · exact z
    · exact hx
    · omega
  · rw [hg0]
    rcases (show a = 32 ∨ a = 33 ∨ a = 34 by omega) with rfl | rfl | rfl
    · exact V.mid _
    · exact hR r c
    · exact V.mid _
  · rw [hf0]
    rcases i with _ | _ | _ | _ | _ | _ | _ | _ | i
    all_goals first | rfl | omega

theorem FM_proof {n x L p : SE} {found : Bool} (hn : 0 ≤ n.eval V.env ∧ n.eval V.env ≤ 4096) (hx : In64 (x.eval V.env)) (hL : ∀ r c : Nat, In64 (L.row V.env r c))
    (hfnd : found = true → 0 ≤ p.eval V.env ∧ p.eval V.env < n.eval V.env ∧ L.row V.env (p.eval V.env) 0 = x.eval V.env)
    (hq : ∀ j, 0 ≤ j → j < (bif found then p else n).eval V.env → L.row V.env j 0 ≠ x.eval V.env) : LoopProof Try.prog [] (FM Try.prog.globals.size n x L p found) := by
  obtain ⟨S, hS⟩ : ∃ S, S = FM Try.prog.globals.size n x L p found := ⟨_, rfl⟩
  rw [← hS]
  have hstop : 0 ≤ (bif found then p else n).eval V.env ∧ (bif found then p else n).eval V.env ≤ n.eval V.env := by
    cases found
    · exact ⟨hn.1, Int.le_refl _⟩
    · exact ⟨(hfnd rfl).1, by have := (hfnd rfl).2.1; show p.eval V.env ≤ _; omega⟩
  have hf0 : ∀ i, S.f0v i = ((z3 (.lit 1) (.lit 0) n (.lit 0) x)[i]?).getD (.var i) := fun i => by rw [hS]; rfl
  have hg0 : ∀ a, S.g0v a = (([.tab 32, .tab 33, L] : List SE)[a - 32]?).getD (.tab a) := fun a => by rw [hS]; rfl
  have e5 : ∀ s, cntE S s 5 = n.eval V.env := fun s => by rw [cntE_one (by decide) (by decide), hf0]; rfl
  have e6 : ∀ s, cntE S s 6 = s := fun s => cntE_six
  have e7 : ∀ s, cntE S s 7 = x.eval V.env := fun s => by rw [cntE_one (by decide) (by decide), hf0]; rfl
  have esel : ∀ s, 0 ≤ s → (SE.sel (.tab 34) (.var 6) 0).eval (cntE S s) = L.row V.env s 0 := fun s hs => by
    show (SE.tab 34).row (cntE S s) (cntE S s 6) 0 = _
    rw [e6, cntE_row hs (by decide) (by decide) (by decide), hg0]; rfl
  have common : ∀ s, 0 ≤ s → s ≤ n.eval V.env → ∀ p ∈ pcM, p.1.eval (cntE S s) = p.2 := fun s h1 h2 p hp => by
    simp only [pcM, tt, List.mem_cons, List.not_mem_nil, or_false] at hp
    rcases hp with rfl | rfl | rfl
    all_goals first | rfl | exact decide_eq_true (by simp only [SE.eval, e5]; omega)
  have inn : ∀ s, 0 ≤ s → s < n.eval V.env → ∀ p ∈ inI, p.1.eval (cntE S s) = p.2 := fun s h1 h2 p hp => by
    simp only [inI, List.mem_cons, List.not_mem_nil, or_false] at hp
    rcases hp with rfl | rfl | rfl | rfl
    all_goals first | exact decide_eq_true (by simp only [SE.eval, e5, e6]; omega) | exact decide_eq_false (by simp only [SE.eval, e5, e6]; omega)
  refine count_proof S (fx := [true]) (by rw [hS]; exact fixM) ?_ (by rw [hS]; exact upsM) (by rw [hS]; exact isM) (goC eqM false pcM) (bif found then foundC eqM pcM else overC 2 pcM) (by rw [hS]; exact rM1) ?_ rfl rfl rfl rfl (by cases found <;> rfl) (by cases found <;> rfl) (by cases found <;> simp [foundC, overC])
    ((bif found then p else n).eval V.env) hstop.1 (by unfold In64; omega) (fun s h1 h2 p hp => ?_) (fun p hp => ?_) (by rw [hS]; rfl) (by rw [hS]; exact Nat.le_of_ble_eq_true rfl) (by rw [hf0]; rfl) (fun i hi => ?_) (fun a r c h1 h2 => ?_)
    ⟨bif found then .ret else .exit 0, bif found then 1 else 2, z3 (.lit 1) (.lit 0) n (bif found then p else n) x, [.tab 32, .tab 33, L]⟩ (by rw [hS]; rfl) (by cases found <;> rfl) (by cases found <;> rfl) rfl (by rw [hS]; rfl) rfl (fun i hi h6 => ?_)
  · exact goodM S (by rw [hS]; rfl) _ (by rw [hS]; rfl) (by cases found <;> simp)
  · rw [hS]
    cases found
    · exact rM3
    · exact rM2
  · rcases List.mem_cons.1 hp with rfl | hp
    · refine decide_eq_false ?_
      rw [esel s h1]
      show ¬ cntE S s 7 = _
      rw [e7]
      exact fun e => hq s h1 h2 e.symm
    · rcases List.mem_append.1 hp with hp | hp
      · exact inn s h1 (by omega) p hp
      · exact common s h1 (by omega) p hp
  · cases found with
    | true =>
      obtain ⟨g1, g2, g3⟩ := hfnd rfl
      have hp' := hp
      simp only [cond_true] at hp'
      rcases List.mem_cons.1 hp' with rfl | hp'
      · refine decide_eq_true ?_
        show cntE S _ 7 = (SE.sel (.tab 34) (.var 6) 0).eval (cntE S _)
        rw [esel _ hstop.1, e7]
        exact g3.symm
      · rcases List.mem_append.1 hp' with hp' | hp'
        · exact inn _ hstop.1 g2 p hp'
        · exact common _ hstop.1 hstop.2 p hp'
    | false =>
      have hp' := hp
      simp only [cond_false] at hp'
      rcases List.mem_append.1 hp' with hp' | hp'
      · simp only [outI, List.mem_cons, List.not_mem_nil, or_false] at hp'
        rcases hp' with rfl | rfl | rfl
        all_goals exact decide_eq_true (by simp only [SE.eval, e5, e6, cond_false]; omega)
      · exact common _ hstop.1 hstop.2 p hp'
  · rw [hf0]
    have z : In64 0 := by unfold In64; omega
    rcases i with _ | _ | _ | _ | _ | _ | _ | _ | i
    · show In64 1; unfold In64; omega
    · exact z
    · exact z
    · exact z
    · exact z
    · show In64 (n.eval V.env); unfold In64; omega
    · exact z
    · exact hx
    · omega
  · rw [hg0]
    rcases (show a = 32 ∨ a = 33 ∨ a = 34 by omega) with rfl | rfl | rfl
    · exact V.mid _
    · exact V.mid _
    · exact hL r c
  · rw [hf0]
    rcases i with _ | _ | _ | _ | _ | _ | _ | _ | i
    all_goals first | rfl | omega

theorem IS_proof {n A B : SE} (hn : 0 ≤ n.eval V.env ∧ n.eval V.env ≤ 4096) (hA : ∀ r c : Nat, In64 (A.row V.env r c)) (hB : ∀ r c : Nat, In64 (B.row V.env r c))
    (hq : ∀ j, 0 ≤ j → j < n.eval V.env → A.row V.env j 0 = B.row V.env j 0) : LoopProof Try.prog [] (IS Try.prog.globals.size n A B) := by
  obtain ⟨S, hS⟩ : ∃ S, S = IS Try.prog.globals.size n A B := ⟨_, rfl⟩
  rw [← hS]
  have hf0 : ∀ i, S.f0v i = ((z3 (.lit 1) (.lit 0) n (.lit 0) (.lit 0))[i]?).getD (.var i) := fun i => by rw [hS]; rfl
  have hg0 : ∀ a, S.g0v a = (([.tab 32, A, B] : List SE)[a - 32]?).getD (.tab a) := fun a => by rw [hS]; rfl
  have e5 : ∀ s, cntE S s 5 = n.eval V.env := fun s => by rw [cntE_one (by decide) (by decide), hf0]; rfl
  have e6 : ∀ s, cntE S s 6 = s := fun s => cntE_six
  have eA : ∀ s, 0 ≤ s → (SE.sel (.tab 33) (.var 6) 0).eval (cntE S s) = A.row V.env s 0 := fun s hs => by
    show (SE.tab 33).row (cntE S s) (cntE S s 6) 0 = _
    rw [e6, cntE_row hs (by decide) (by decide) (by decide), hg0]; rfl
  have eB : ∀ s, 0 ≤ s → (SE.sel (.tab 34) (.var 6) 0).eval (cntE S s) = B.row V.env s 0 := fun s hs => by
    show (SE.tab 34).row (cntE S s) (cntE S s 6) 0 = _
    rw [e6, cntE_row hs (by decide) (by decide) (by decide), hg0]; rfl
  have common : ∀ s, 0 ≤ s → s ≤ n.eval V.env → ∀ p ∈ pcM, p.1.eval (cntE S s) = p.2 := fun s h1 h2 p hp => by
    simp only [pcM, tt, List.mem_cons, List.not_mem_nil, or_false] at hp
    rcases hp with rfl | rfl | rfl
    all_goals first | rfl | exact decide_eq_true (by simp only [SE.eval, e5]; omega)
  refine count_proof S (fx := [true, true]) (by rw [hS]; exact fixI) ?_ (by rw [hS]; exact upsI) (by rw [hS]; exact isI) (goC eqI true pcM) (overC 1 pcM) (by rw [hS]; exact rI1) (by rw [hS]; exact rI2) rfl rfl rfl rfl rfl rfl (by simp [overC])
    (n.eval V.env) hn.1 (by unfold In64; omega) (fun s h1 h2 p hp => ?_) (fun p hp => ?_) (by rw [hS]; rfl) (by rw [hS]; exact Nat.le_of_ble_eq_true rfl) (by rw [hf0]; rfl) (fun i hi => ?_) (fun a r c h1 h2 => ?_)
    ⟨.exit 0, 1, z3 (.lit 1) (.lit 0) n n (.lit 0), [.tab 32, A, B]⟩ (by rw [hS]; rfl) rfl rfl rfl (by rw [hS]; rfl) rfl (fun i hi h6 => ?_)
  · exact goodI S (by rw [hS]; rfl) _ (by rw [hS]; rfl) rfl
  · rcases List.mem_cons.1 hp with rfl | hp
    · refine decide_eq_true ?_
      rw [eA s h1, eB s h1]
      exact hq s h1 h2
    · rcases List.mem_append.1 hp with hp | hp
      · simp only [inI, List.mem_cons, List.not_mem_nil, or_false] at hp
        rcases hp with rfl | rfl | rfl | rfl
        all_goals first | exact decide_eq_true (by simp only [SE.eval, e5, e6]; omega) | exact decide_eq_false (by simp only [SE.eval, e5, e6]; omega)
      · exact common s h1 (by omega) p hp
  · rcases List.mem_append.1 hp with hp | hp
    · simp only [outI, List.mem_cons, List.not_mem_nil, or_false] at hp
      rcases hp with rfl | rfl | rfl
      all_goals exact decide_eq_true (by simp only [SE.eval, e5, e6]; omega)
    · exact common _ hn.1 (Int.le_refl _) p hp
  · rw [hf0]
    have z : In64 0 := by unfold In64; omega
    rcases i with _ | _ | _ | _ | _ | _ | _ | _ | i
    · show In64 1; unfold In64; omega
    · exact z
    · exact z
    · exact z
    · exact z
    · show In64 (n.eval V.env); unfold In64; omega
    · exact z
    · exact z
    · omega
  · rw [hg0]
    rcases (show a = 32 ∨ a = 33 ∨ a = 34 by omega) with rfl | rfl | rfl
    · exact V.mid _
    · exact hA r c
    · exact hB r c
  · rw [hf0]
    rcases i with _ | _ | _ | _ | _ | _ | _ | _ | i
    all_goals first | rfl | omega
end

abbrev TT := Nat → Nat → Int

def shStep (f N s : Int) (T : TT) : TT := fun r c => if (r : Int) = (f + s).tmod N ∧ c = 0 then T ((f + (s + 1)).tmod N).toNat 0 else T r c
def shRun (f N : Int) : Nat → Int → TT → TT
  | 0, _, T => T
  | k + 1, s, T => shRun f N k (s + 1) (shStep f N s T)
/-- What All has told behind s rounds. -/
def allT (f N : Int) (R : TT) (s : Int) : TT := fun r c => if (r : Int) < s ∧ c = 0 then R ((f + r).tmod N).toNat 0 else 0

def goS : Case := ⟨[(.le (.var 5) (.add (.var 6) (.lit 1)), false), (.le (.var 6) (.add (.var 5) (.lit (-2))), true)] ++ (inI ++ pcN), .normal, 0, go6, [.tab 32, .upd (.tab 33) (atN (.var 6)) 0 (.sel (.tab 33) (atN (.add (.var 6) (.lit 1))) 0)], []⟩
def endS : Case := ⟨[(.le (.var 5) (.add (.var 6) (.lit 1)), true)] ++ (inI ++ pcN), .exit 0, 1, [], [], []⟩
noncomputable def abK : Code × Code := (((Try.prog.funcs[17]?).bind (·.body)).bind rfCode).getD (.skip, .skip)
def pcA1 : List (SB × Bool) := (.le (.lit 1) (.var 5), true) :: pcN
def goA1 (G : Nat) : Case := ⟨pcA1, .normal, 1, [.var 0, .var 1, .var 2, .var 3, .var 4, .var 5, .lit 1, .var 7], [.tab 32, .tab 33, one (.sel (.tab 33) at0 0)], upFrom G 6 ++ [G + 7]⟩
def goA2 (G : Nat) : Case := ⟨inI ++ pcN, .normal, 1, go6, [.tab 32, .tab 33, .cat (.tab 34) (.var 6) (one (.sel (.tab 33) (atN (.var 6)) 0))], upFrom G 6 ++ [G + 8]⟩
def endA : Case := ⟨outI ++ pcN, .exit 0, 2, [], [], []⟩

set_option maxRecDepth 1000000
theorem rS1 : chk1 24 5 45 (shS Try.prog.globals.size) 2 0 goS = true := by kernel_rfl
theorem rS2 : chk1 24 5 45 (shS Try.prog.globals.size) 2 0 endS = true := by kernel_rfl
theorem rA1 : chk1 35 2 22 (shA abK Try.prog.globals.size) 6 0 (goA1 Try.prog.globals.size) = true := by kernel_rfl
theorem rA2 : chk1 35 2 22 (shA abK Try.prog.globals.size) 6 1 (goA2 Try.prog.globals.size) = true := by kernel_rfl
theorem rA3 : chk1 35 2 22 (shA abK Try.prog.globals.size) 6 1 endA = true := by kernel_rfl
theorem goodS (S : LoopSpec) (hS : S.shapes = shS Try.prog.globals.size) (o : LoopEnd) (ho : S.outs = [o]) (hj : o.j = 1) : S.good Try.prog.globals.size = true := by
  unfold LoopSpec.good
  rw [ho, hS]
  simp only [List.all_cons, List.all_nil, hj]
  kernel_rfl
theorem goodA (S : LoopSpec) (hS : S.shapes = shA abK Try.prog.globals.size) (o : LoopEnd) (ho : S.outs = [o]) (hj : o.j = 2) : S.good Try.prog.globals.size = true := by
  unfold LoopSpec.good
  rw [ho, hS]
  simp only [List.all_cons, List.all_nil, hj]
  kernel_rfl
theorem upsS : ∀ i, (shS Try.prog.globals.size i).ups 8 3 = true := by
  intro i
  rcases i with _ | i <;> kernel_rfl
theorem upsA : ∀ i, (shA abK Try.prog.globals.size i).ups 8 3 = true := by
  intro i
  rcases i with _ | _ | i <;> kernel_rfl
theorem fixS : ShapesOK (shS Try.prog.globals.size) 2 [true, false] := by
  intro i
  rcases i with _ | i <;> exact ⟨Nat.le_refl _, rfl, rfl⟩
theorem fixA : ShapesOK (shA abK Try.prog.globals.size) 6 [true, true, true, false, false, false] := by
  intro i
  rcases i with _ | _ | i
  · exact ⟨Nat.le_refl _, rfl, rfl⟩
  · exact ⟨Nat.le_succ _, rfl, rfl⟩
  · exact ⟨Nat.le_succ _, rfl, rfl⟩

section
variable [F : Facts] [V : Vals]

/-- As cntE; one table goes on, too. -/
def cn2 (S : LoopSpec) (b : Nat) (s : Int) (T : TT) : Nat → Int := envT (fun i => if i = 6 then s else if i < 8 then (S.f0v i).eval V.env else 0) (fun a r c => if a = b then T r c else (S.g0v a).row V.env r c)

theorem cn2_one {S : LoopSpec} {b : Nat} {s : Int} {T : TT} {i : Nat} (h : i < 8) (h6 : i ≠ 6) : cn2 S b s T i = (S.f0v i).eval V.env := by
  unfold cn2 envT
  rw [if_pos (by omega)]
  simp only
  rw [if_neg h6, if_pos h]
theorem cn2_six {S : LoopSpec} {b : Nat} {s : Int} {T : TT} : cn2 S b s T 6 = s := by
  unfold cn2 envT
  rw [if_pos (by decide)]
  simp
theorem cn2_tab {S : LoopSpec} {b : Nat} {s : Int} {T : TT} {a r c : Nat} (h1 : 32 ≤ a) (h2 : a < 64) (hc : c < 64) : cn2 S b s T (cellIx a (r : Int) c) = if a = b then T r c else (S.g0v a).row V.env r c := envT_cell h1 h2 hc
theorem cn2_row {S : LoopSpec} {b : Nat} {s r : Int} {T : TT} {a c : Nat} (hr : 0 ≤ r) (h1 : 32 ≤ a) (h2 : a < 64) (hc : c < 64) : (SE.tab a).row (cn2 S b s T) r c = if a = b then T r.toNat c else (S.g0v a).row V.env r c := by
  obtain ⟨m, rfl⟩ : ∃ m : Nat, r = m := ⟨r.toNat, by omega⟩
  exact cn2_tab h1 h2 hc

theorem cn2_mid {S : LoopSpec} {b : Nat} {s : Int} {T : TT} (hs : In64 s) (h1 : ∀ i, i < 8 → In64 ((S.f0v i).eval V.env)) (hg : S.g0.length ≤ 3) (h2 : ∀ a r c : Nat, 32 ≤ a → a < 35 → In64 ((S.g0v a).row V.env r c)) (hT : ∀ r c, In64 (T r c)) : ∀ j, In64 (cn2 S b s T j) := by
  intro j
  unfold cn2 envT
  split
  · simp only
    split
    · exact hs
    · split
      · exact h1 j (by assumption)
      · unfold In64; omega
  · simp only
    split
    · exact hT _ _
    · by_cases ha : j % 64 < 35
      · exact h2 _ _ _ (by omega) ha
      · have e : S.g0v (j % 64) = .tab (j % 64) := by
          unfold LoopSpec.g0v
          rw [List.getElem?_eq_none (by omega)]
          rfl
        rw [e]
        exact V.mid _

omit F V in
theorem shStep_mid {f N s : Int} {T : TT} (h : ∀ r c, In64 (T r c)) : ∀ r c, In64 (shStep f N s T r c) := by
  intro r c
  unfold shStep
  split <;> exact h _ _

theorem SH_proof {N f n p R R' : SE} (hN : 1 ≤ N.eval V.env ∧ N.eval V.env ≤ 4096) (hf : 0 ≤ f.eval V.env ∧ f.eval V.env < N.eval V.env) (hn : 0 ≤ p.eval V.env ∧ p.eval V.env < n.eval V.env ∧ n.eval V.env ≤ N.eval V.env)
    (hR : ∀ r c : Nat, In64 (R.row V.env r c)) (hR' : ∀ r c : Nat, c < 64 → R'.row V.env r c = shRun (f.eval V.env) (N.eval V.env) (n.eval V.env - 1 - p.eval V.env).toNat (p.eval V.env) (fun r c => R.row V.env r c) r c) : LoopProof Try.prog [] (SH Try.prog.globals.size N f n p R R') := by
  obtain ⟨S, hS⟩ : ∃ S, S = SH Try.prog.globals.size N f n p R R' := ⟨_, rfl⟩
  rw [← hS]
  have hf0 : ∀ i, S.f0v i = ((z3 N f n p (.lit 0))[i]?).getD (.var i) := fun i => by rw [hS]; rfl
  have hg0 : ∀ a, S.g0v a = (([.tab 32, R] : List SE)[a - 32]?).getD (.tab a) := fun a => by rw [hS]; rfl
  have e0 : ∀ s T, cn2 S 33 s T 0 = N.eval V.env := fun s T => by rw [cn2_one (by decide) (by decide), hf0]; rfl
  have e4 : ∀ s T, cn2 S 33 s T 4 = f.eval V.env := fun s T => by rw [cn2_one (by decide) (by decide), hf0]; rfl
  have e5 : ∀ s T, cn2 S 33 s T 5 = n.eval V.env := fun s T => by rw [cn2_one (by decide) (by decide), hf0]; rfl
  have e6 : ∀ s T, cn2 S 33 s T 6 = s := fun s T => cn2_six
  have h1 : ∀ i, i < 8 → In64 ((S.f0v i).eval V.env) := fun i hi => by
    rw [hf0]
    have z : In64 0 := by unfold In64; omega
    rcases i with _ | _ | _ | _ | _ | _ | _ | _ | i
    · show In64 (N.eval V.env); unfold In64; omega
    · exact z
    · exact z
    · exact z
    · show In64 (f.eval V.env); unfold In64; omega
    · show In64 (n.eval V.env); unfold In64; omega
    · show In64 (p.eval V.env); unfold In64; omega
    · exact z
    · omega
  have h2 : ∀ a r c : Nat, 32 ≤ a → a < 35 → In64 ((S.g0v a).row V.env r c) := fun a r c h1 h2 => by
    rw [hg0]
    rcases (show a = 32 ∨ a = 33 ∨ a = 34 by omega) with rfl | rfl | rfl
    · exact V.mid _
    · exact hR r c
    · exact V.mid _
  have hgl : S.g0.length ≤ 3 := by rw [hS]; exact Nat.le_of_ble_eq_true rfl
  have common : ∀ s T, p.eval V.env ≤ s → s < n.eval V.env → ∀ q ∈ inI ++ pcN, q.1.eval (cn2 S 33 s T) = q.2 := fun s T k1 k2 q hq => by
    simp only [inI, pcN, tt, List.cons_append, List.nil_append, List.mem_cons, List.not_mem_nil, or_false] at hq
    rcases hq with rfl | rfl | rfl | rfl | rfl | rfl | rfl | rfl | rfl | rfl | rfl | rfl | rfl
    all_goals first | rfl | exact decide_eq_true (by simp only [SE.eval, e0, e4, e5, e6]; omega) | exact decide_eq_false (by simp only [SE.eval, e5, e6]; omega)
  refine spec_proof2 (N := 1000000000) (fuel := 100000) (fx := [true, false]) S (b0 := bodyK 24 5) (fun p hp => by cases hp) (by rw [hS]; exact isS) (by rw [hS]; exact fixS) (goodS S (by rw [hS]; rfl) ⟨.exit 0, 1, z3 N f n (.add n (.lit (-1))) (.lit 0), [.tab 32, R']⟩ (by rw [hS]; rfl) rfl) (σ := Int × TT) (fun q => cn2 S 33 q.1 q.2) 8 3 (by decide) (by rw [hS]; exact upsS) (by rw [hS]; exact Nat.le_of_ble_eq_true rfl) hgl
    (I := fun μ i q => i = 0 ∧ p.eval V.env ≤ q.1 ∧ q.1 ≤ n.eval V.env - 1 ∧ μ = (n.eval V.env - 1 - q.1).toNat ∧ (∀ r c, In64 (q.2 r c)) ∧ shRun (f.eval V.env) (N.eval V.env) (n.eval V.env - 1 - q.1).toNat q.1 q.2 = shRun (f.eval V.env) (N.eval V.env) (n.eval V.env - 1 - p.eval V.env).toNat (p.eval V.env) (fun r c => R.row V.env r c))
    (Post := fun e j q => e = .exit 0 ∧ j = 1 ∧ q.1 = n.eval V.env - 1 ∧ q.2 = shRun (f.eval V.env) (N.eval V.env) (n.eval V.env - 1 - p.eval V.env).toNat (p.eval V.env) (fun r c => R.row V.env r c))
    (fun B μ i q hI => ?_) (n.eval V.env - 1 - p.eval V.env).toNat (p.eval V.env, fun r c => R.row V.env r c) ⟨rfl, Int.le_refl _, by show p.eval V.env ≤ _; omega, rfl, fun r c => hR r c, rfl⟩ (cn2_mid (by unfold In64; omega) h1 hgl h2 (fun r c => hR r c)) ⟨fun i hi => ?_, fun a r c k1 k2 k3 => ?_⟩ (fun e j q hp => ?_)
  · obtain ⟨s, T⟩ := q
    obtain ⟨rfl, k1, k2, k3, k4, k5⟩ := hI
    dsimp only at k1 k2 k3 k4 k5 ⊢
    by_cases hs : s < n.eval V.env - 1
    · refine ⟨goS, (s + 1, shStep (f.eval V.env) (N.eval V.env) s T), noLoops, call ⟨goS.pc⟩, noRnd B _ _, by rw [hS]; exact rS1, fun q hq => ?_, by decide, by decide, cn2_mid (by unfold In64; omega) h1 hgl h2 (shStep_mid k4), ⟨fun i hi => ?_, fun a r c m1 m2 m3 => ?_⟩, .inl ⟨rfl, (n.eval V.env - 1 - (s + 1)).toNat, by omega, rfl, by show p.eval V.env ≤ s + 1; omega, by show s + 1 ≤ _; omega, rfl, shStep_mid k4, ?_⟩⟩
      · rcases List.mem_append.1 hq with hq | hq
        · simp only [List.mem_cons, List.not_mem_nil, or_false] at hq
          rcases hq with rfl | rfl
          · exact decide_eq_false (by simp only [SE.eval, e5, e6]; omega)
          · exact decide_eq_true (by simp only [SE.eval, e5, e6]; omega)
        · exact common s T k1 (by omega) q hq
      · rw [Case.next, intoEnv_one (by omega)]
        show ((go6[i]?).getD (.var i)).eval _ = _
        have e : ∀ i, i < 8 → i ≠ 6 → (SE.var i).eval (cn2 S 33 s T) = cn2 S 33 (s + 1) (shStep (f.eval V.env) (N.eval V.env) s T) i := fun i hi h6 => by
          show cn2 S 33 s T i = _
          rw [cn2_one hi h6, cn2_one hi h6]
        rcases i with _ | _ | _ | _ | _ | _ | _ | _ | i
        · exact e 0 (by decide) (by decide)
        · exact e 1 (by decide) (by decide)
        · exact e 2 (by decide) (by decide)
        · exact e 3 (by decide) (by decide)
        · exact e 4 (by decide) (by decide)
        · exact e 5 (by decide) (by decide)
        · show cn2 S 33 s T 6 + 1 = _
          rw [cn2_six, cn2_six]
        · exact e 7 (by decide) (by decide)
        · omega
      · rw [Case.next, intoEnv_cell m1 (by omega) m3, cn2_tab m1 (by omega) m3]
        rcases (show a = 32 ∨ a = 33 ∨ a = 34 by omega) with rfl | rfl | rfl
        · rw [if_neg (by decide)]
          show cn2 S 33 s T (cellIx 32 (r : Int) c) = _
          rw [cn2_tab (by decide) (by decide) m3, if_neg (by decide)]
        · rw [if_pos rfl]
          show (if (r : Int) = (cn2 S 33 s T 4 + cn2 S 33 s T 6).tmod (cn2 S 33 s T 0) ∧ c = 0 then (SE.tab 33).row (cn2 S 33 s T) ((cn2 S 33 s T 4 + (cn2 S 33 s T 6 + 1)).tmod (cn2 S 33 s T 0)) 0 else cn2 S 33 s T (cellIx 33 (r : Int) c)) = shStep _ _ s T r c
          rw [e0, e4, e6, cn2_row (modIn hN.1 (by omega)).1 (by decide) (by decide) (by decide), if_pos rfl, cn2_tab (by decide) (by decide) m3, if_pos rfl]
          rfl
        · rw [if_neg (by decide)]
          show cn2 S 33 s T (cellIx 34 (r : Int) c) = _
          rw [cn2_tab (by decide) (by decide) m3, if_neg (by decide)]
      · rw [← k5]
        rw [show (n.eval V.env - 1 - s).toNat = (n.eval V.env - 1 - (s + 1)).toNat + 1 by omega]
        rfl
    · have hs : s = n.eval V.env - 1 := by omega
      refine ⟨endS, (s, T), noLoops, call ⟨endS.pc⟩, noRnd B _ _, by rw [hS]; exact rS2, fun q hq => ?_, by decide, by decide, cn2_mid (by unfold In64; omega) h1 hgl h2 k4, ⟨fun i hi => ?_, fun a r c m1 m2 m3 => ?_⟩, .inr ⟨by simp [endS], rfl, rfl, hs, ?_⟩⟩
      · rcases List.mem_append.1 hq with hq | hq
        · simp only [List.mem_cons, List.not_mem_nil, or_false] at hq
          subst hq
          exact decide_eq_true (by simp only [SE.eval, e5, e6]; omega)
        · exact common s T k1 (by omega) q hq
      · rw [Case.next, intoEnv_one (by omega)]
        rfl
      · rw [Case.next, intoEnv_cell m1 (by omega) m3]
        rfl
      · rw [← k5, show (n.eval V.env - 1 - s).toNat = 0 by omega]
        rfl
  · rw [intoEnv_one (by omega)]
    by_cases hi6 : i = 6
    · subst hi6
      rw [cn2_six, hf0]; rfl
    · rw [cn2_one hi hi6]
  · rw [intoEnv_cell k1 (by omega) k3, cn2_tab k1 (by omega) k3]
    split
    · rename_i e; subst e; rw [hg0]; rfl
    · rfl
  · obtain ⟨s, T⟩ := q
    obtain ⟨rfl, rfl, h3, h4⟩ := hp
    dsimp only at h3 h4
    subst h3 h4
    refine ⟨0, ⟨.exit 0, 1, z3 N f n (.add n (.lit (-1))) (.lit 0), [.tab 32, R']⟩, by rw [hS]; rfl, rfl, rfl, Nat.le_of_ble_eq_true rfl, Nat.le_of_ble_eq_true rfl, ⟨fun i hi => ?_, fun a r c k1 k2 k3 => ?_⟩⟩
    · rw [intoEnv_one (by omega)]
      by_cases hi6 : i = 6
      · subst hi6
        rw [cn2_six]; rfl
      · rw [cn2_one hi hi6, hf0]
        rcases i with _ | _ | _ | _ | _ | _ | _ | _ | i
        all_goals first | rfl | omega
    · rw [intoEnv_cell k1 (by omega) k3, cn2_tab k1 (by omega) k3]
      rcases (show a = 32 ∨ a = 33 ∨ a = 34 by omega) with rfl | rfl | rfl
      · rw [if_neg (by decide), hg0]; rfl
      · rw [if_pos rfl]
        exact (hR' r c k3).symm
      · rw [if_neg (by decide), hg0]; rfl

omit F V in
theorem allT_mid {f N s : Int} {R : TT} (h : ∀ r c, In64 (R r c)) : ∀ r c, In64 (allT f N R s r c) := by
  intro r c
  unfold allT
  split
  · exact h _ _
  · unfold In64; omega

theorem AS_proof {N f n R T : SE} (hN : 1 ≤ N.eval V.env ∧ N.eval V.env ≤ 4096) (hf : 0 ≤ f.eval V.env ∧ f.eval V.env < N.eval V.env) (hn : 1 ≤ n.eval V.env ∧ n.eval V.env ≤ N.eval V.env)
    (hR : ∀ r c : Nat, In64 (R.row V.env r c)) (hT : ∀ r c : Nat, c < 64 → T.row V.env r c = allT (f.eval V.env) (N.eval V.env) (fun r c => R.row V.env r c) (n.eval V.env) r c) : LoopProof Try.prog [] (AS abK Try.prog.globals.size N f n R T) := by
  obtain ⟨S, hS⟩ : ∃ S, S = AS abK Try.prog.globals.size N f n R T := ⟨_, rfl⟩
  rw [← hS]
  have hf0 : ∀ i, S.f0v i = ((z3 N f n (.lit 0) (.lit 0))[i]?).getD (.var i) := fun i => by rw [hS]; rfl
  have hg0 : ∀ a, S.g0v a = (([.tab 32, R] : List SE)[a - 32]?).getD (.tab a) := fun a => by rw [hS]; rfl
  have e0 : ∀ s T, cn2 S 34 s T 0 = N.eval V.env := fun s T => by rw [cn2_one (by decide) (by decide), hf0]; rfl
  have e4 : ∀ s T, cn2 S 34 s T 4 = f.eval V.env := fun s T => by rw [cn2_one (by decide) (by decide), hf0]; rfl
  have e5 : ∀ s T, cn2 S 34 s T 5 = n.eval V.env := fun s T => by rw [cn2_one (by decide) (by decide), hf0]; rfl
  have e6 : ∀ s T, cn2 S 34 s T 6 = s := fun s T => cn2_six
  have eR : ∀ s T r, 0 ≤ r → (SE.tab 33).row (cn2 S 34 s T) r 0 = R.row V.env r 0 := fun s T r hr => by rw [cn2_row hr (by decide) (by decide) (by decide), if_neg (by decide), hg0]; rfl
  have h1 : ∀ i, i < 8 → In64 ((S.f0v i).eval V.env) := fun i hi => by
    rw [hf0]
    have z : In64 0 := by unfold In64; omega
    rcases i with _ | _ | _ | _ | _ | _ | _ | _ | i
    · show In64 (N.eval V.env); unfold In64; omega
    · exact z
    · exact z
    · exact z
    · show In64 (f.eval V.env); unfold In64; omega
    · show In64 (n.eval V.env); unfold In64; omega
    · exact z
    · exact z
    · omega
  have h2 : ∀ a r c : Nat, 32 ≤ a → a < 35 → In64 ((S.g0v a).row V.env r c) := fun a r c h1 h2 => by
    rw [hg0]
    rcases (show a = 32 ∨ a = 33 ∨ a = 34 by omega) with rfl | rfl | rfl
    · exact V.mid _
    · exact hR r c
    · exact V.mid _
  have hgl : S.g0.length ≤ 3 := by rw [hS]; exact Nat.le_of_ble_eq_true rfl
  obtain ⟨A, hA⟩ : ∃ A : Int → TT, A = allT (f.eval V.env) (N.eval V.env) (fun r c => R.row V.env r c) := ⟨_, rfl⟩
  have hAm : ∀ s r c, In64 (A s r c) := fun s => by rw [hA]; exact allT_mid (fun r c => hR r c)
  have common : ∀ s T, ∀ q ∈ pcN, q.1.eval (cn2 S 34 s T) = q.2 := fun s T q hq => by
    simp only [pcN, tt, List.mem_cons, List.not_mem_nil, or_false] at hq
    rcases hq with rfl | rfl | rfl | rfl | rfl | rfl | rfl | rfl | rfl
    all_goals first | rfl | exact decide_eq_true (by simp only [SE.eval, e0, e4, e5]; omega)
  -- what a round makes of the list
  have hrow : ∀ (s : Int) (T : TT) (r c : Nat), 0 ≤ s → (SE.upd c0 (.lit 0) 0 (.sel (.tab 33) (atN (.var 6)) 0)).row (cn2 S 34 s T) r c = if (r : Int) = 0 ∧ c = 0 then R.row V.env ((f.eval V.env + s).tmod (N.eval V.env)) 0 else 0 := fun s T r c hs => by
    show (if (r : Int) = 0 ∧ c = 0 then (SE.tab 33).row (cn2 S 34 s T) ((cn2 S 34 s T 4 + cn2 S 34 s T 6).tmod (cn2 S 34 s T 0)) 0 else 0) = _
    rw [e0, e4, e6, eR _ _ _ (modIn hN.1 (by omega)).1]
  have hRn : ∀ s : Int, 0 ≤ s → R.row V.env ((f.eval V.env + s).tmod (N.eval V.env)) 0 = R.row V.env ((((f.eval V.env + s).tmod (N.eval V.env)).toNat : Nat) : Int) 0 := fun s hs => by
    rw [Int.toNat_of_nonneg (modIn hN.1 (by omega)).1]
  refine spec_proof2 (N := 1000000000) (fuel := 100000) (fx := [true, true, true, false, false, false]) S (b0 := bodyK 35 2) (fun p hp => by cases hp) (by rw [hS]; exact isL) (by rw [hS]; exact fixA) (goodA S (by rw [hS]; rfl) ⟨.exit 0, 2, z3 N f n n (.lit 0), [.tab 32, R, T]⟩ (by rw [hS]; rfl) rfl) (σ := Int) (fun s => cn2 S 34 s (if s = 0 then (fun r c => (S.g0v 34).row V.env r c) else A s)) 8 3 (by decide) (by rw [hS]; exact upsA) (by rw [hS]; exact Nat.le_of_ble_eq_true rfl) hgl
    (I := fun μ i s => i = (if s = 0 then 0 else 1) ∧ 0 ≤ s ∧ s ≤ n.eval V.env ∧ μ = (n.eval V.env - s).toNat)
    (Post := fun e j s => e = .exit 0 ∧ j = 2 ∧ s = n.eval V.env)
    (fun B μ i s hI => ?_) (n.eval V.env).toNat 0 ⟨rfl, Int.le_refl _, by omega, by omega⟩ (cn2_mid (by unfold In64; omega) h1 hgl h2 (fun r c => by rw [if_pos rfl]; exact h2 34 r c (by decide) (by decide))) ⟨fun i hi => ?_, fun a r c k1 k2 k3 => ?_⟩ (fun e j s hp => ?_)
  · obtain ⟨rfl, k1, k2, k3⟩ := hI
    by_cases h0 : s = 0
    · subst h0
      simp only [if_true]
      refine ⟨goA1 Try.prog.globals.size, 1, noLoops, call ⟨(goA1 Try.prog.globals.size).pc⟩, noRnd B _ _, by rw [hS]; exact rA1, fun q hq => ?_, by decide, by decide, cn2_mid (by unfold In64; omega) h1 hgl h2 (fun r c => by rw [if_neg (by decide)]; exact hAm 1 r c), ⟨fun i hi => ?_, fun a r c m1 m2 m3 => ?_⟩, .inl ⟨rfl, (n.eval V.env - 1).toNat, by omega, rfl, by omega, by omega, rfl⟩⟩
      · have hq : q ∈ pcA1 := hq
        rcases List.mem_cons.1 hq with rfl | hq
        · exact decide_eq_true (by simp only [SE.eval, e5]; omega)
        · exact common _ _ q hq
      · rw [Case.next, intoEnv_one (by omega)]
        have e : ∀ i, i < 8 → i ≠ 6 → ∀ T T', (SE.var i).eval (cn2 S 34 0 T) = cn2 S 34 1 T' i := fun i hi h6 T T' => by
          show cn2 S 34 0 T i = _
          rw [cn2_one hi h6, cn2_one hi h6]
        rcases i with _ | _ | _ | _ | _ | _ | _ | _ | i
        · exact e 0 (by decide) (by decide) _ _
        · exact e 1 (by decide) (by decide) _ _
        · exact e 2 (by decide) (by decide) _ _
        · exact e 3 (by decide) (by decide) _ _
        · exact e 4 (by decide) (by decide) _ _
        · exact e 5 (by decide) (by decide) _ _
        · show (1 : Int) = _
          rw [cn2_six]
        · exact e 7 (by decide) (by decide) _ _
        · omega
      · rw [Case.next, intoEnv_cell m1 (by omega) m3, cn2_tab m1 (by omega) m3]
        rcases (show a = 32 ∨ a = 33 ∨ a = 34 by omega) with rfl | rfl | rfl
        · rw [if_neg (by decide)]
          show cn2 S 34 0 _ (cellIx 32 (r : Int) c) = _
          rw [cn2_tab (by decide) (by decide) m3, if_neg (by decide)]
        · rw [if_neg (by decide)]
          show cn2 S 34 0 _ (cellIx 33 (r : Int) c) = _
          rw [cn2_tab (by decide) (by decide) m3, if_neg (by decide)]
        · rw [if_pos rfl, if_neg (by decide), hA]
          show (if (r : Int) = 0 ∧ c = 0 then (SE.tab 33).row (cn2 S 34 0 _) ((cn2 S 34 0 _ 4).tmod (cn2 S 34 0 _ 0)) 0 else 0) = allT _ _ _ 1 r c
          have hm := modIn (i := 0) hN.1 (show 0 ≤ f.eval V.env + 0 by omega)
          rw [Int.add_zero] at hm
          rw [e0, e4, eR _ _ _ hm.1]
          unfold allT
          by_cases hr : (r : Int) = 0 ∧ c = 0
          · rw [if_pos hr, if_pos ⟨by omega, hr.2⟩, hr.1, Int.add_zero]
            show _ = R.row V.env ((((f.eval V.env).tmod (N.eval V.env)).toNat : Nat) : Int) 0
            rw [Int.toNat_of_nonneg hm.1]
          · rw [if_neg hr, if_neg (fun hh => hr ⟨by omega, hh.2⟩)]
    · simp only [if_neg h0]
      by_cases hs : s < n.eval V.env
      · refine ⟨goA2 Try.prog.globals.size, s + 1, noLoops, call ⟨(goA2 Try.prog.globals.size).pc⟩, noRnd B _ _, by rw [hS]; exact rA2, fun q hq => ?_, by decide, by decide, cn2_mid (by unfold In64; omega) h1 hgl h2 (fun r c => by rw [if_neg (by omega)]; exact hAm _ r c), ⟨fun i hi => ?_, fun a r c m1 m2 m3 => ?_⟩, .inl ⟨rfl, (n.eval V.env - (s + 1)).toNat, by omega, by rw [if_neg (by omega)]; rfl, by omega, by omega, rfl⟩⟩
        · have hq : q ∈ inI ++ pcN := hq
          rcases List.mem_append.1 hq with hq | hq
          · simp only [inI, List.mem_cons, List.not_mem_nil, or_false] at hq
            rcases hq with rfl | rfl | rfl | rfl
            all_goals first | exact decide_eq_true (by simp only [SE.eval, e5, e6]; omega) | exact decide_eq_false (by simp only [SE.eval, e5, e6]; omega)
          · exact common _ _ q hq
        · rw [Case.next, intoEnv_one (by omega)]
          show ((go6[i]?).getD (.var i)).eval _ = _
          have e : ∀ i, i < 8 → i ≠ 6 → ∀ T T', (SE.var i).eval (cn2 S 34 s T) = cn2 S 34 (s + 1) T' i := fun i hi h6 T T' => by
            show cn2 S 34 s T i = _
            rw [cn2_one hi h6, cn2_one hi h6]
          rcases i with _ | _ | _ | _ | _ | _ | _ | _ | i
          · exact e 0 (by decide) (by decide) _ _
          · exact e 1 (by decide) (by decide) _ _
          · exact e 2 (by decide) (by decide) _ _
          · exact e 3 (by decide) (by decide) _ _
          · exact e 4 (by decide) (by decide) _ _
          · exact e 5 (by decide) (by decide) _ _
          · show cn2 S 34 s _ 6 + 1 = _
            rw [cn2_six, cn2_six]
          · exact e 7 (by decide) (by decide) _ _
          · omega
        · rw [Case.next, intoEnv_cell m1 (by omega) m3, cn2_tab m1 (by omega) m3]
          rcases (show a = 32 ∨ a = 33 ∨ a = 34 by omega) with rfl | rfl | rfl
          · rw [if_neg (by decide)]
            show cn2 S 34 s _ (cellIx 32 (r : Int) c) = _
            rw [cn2_tab (by decide) (by decide) m3, if_neg (by decide)]
          · rw [if_neg (by decide)]
            show cn2 S 34 s _ (cellIx 33 (r : Int) c) = _
            rw [cn2_tab (by decide) (by decide) m3, if_neg (by decide)]
          · rw [if_pos rfl, if_neg (by omega)]
            show (if (r : Int) < cn2 S 34 s (A s) 6 then cn2 S 34 s (A s) (cellIx 34 (r : Int) c) else (SE.upd c0 (.lit 0) 0 (.sel (.tab 33) (atN (.var 6)) 0)).row (cn2 S 34 s (A s)) ((r : Int) - cn2 S 34 s (A s) 6) c) = A (s + 1) r c
            rw [e6, cn2_tab (by decide) (by decide) m3, if_pos rfl]
            by_cases hrs : (r : Int) < s
            · rw [if_pos hrs, hA]
              unfold allT
              by_cases hc : c = 0
              · rw [if_pos ⟨hrs, hc⟩, if_pos ⟨by omega, hc⟩]
              · rw [if_neg (fun h => hc h.2), if_neg (fun h => hc h.2)]
            · rw [if_neg hrs]
              obtain ⟨m, hm⟩ : ∃ m : Nat, (r : Int) - s = m := ⟨((r : Int) - s).toNat, by omega⟩
              rw [hm, hrow s _ m c k1, hA]
              unfold allT
              by_cases hm0 : (m : Int) = 0 ∧ c = 0
              · have : (r : Int) = s := by omega
                rw [if_pos hm0, if_pos ⟨by omega, hm0.2⟩, this]
                exact hRn s k1
              · rw [if_neg hm0, if_neg (fun hh => hm0 ⟨by omega, hh.2⟩)]
      · have hs : s = n.eval V.env := by omega
        refine ⟨endA, s, noLoops, call ⟨endA.pc⟩, noRnd B _ _, by rw [hS]; exact rA3, fun q hq => ?_, by decide, by decide, cn2_mid (by unfold In64; omega) h1 hgl h2 (fun r c => by rw [if_neg h0]; exact hAm _ r c), ⟨fun i hi => ?_, fun a r c m1 m2 m3 => ?_⟩, .inr ⟨by simp [endA], rfl, rfl, hs⟩⟩
        · have hq : q ∈ outI ++ pcN := hq
          rcases List.mem_append.1 hq with hq | hq
          · simp only [outI, List.mem_cons, List.not_mem_nil, or_false] at hq
            rcases hq with rfl | rfl | rfl
            all_goals exact decide_eq_true (by simp only [SE.eval, e5, e6]; omega)
          · exact common _ _ q hq
        · rw [Case.next, intoEnv_one (by omega), if_neg h0]
          rfl
        · rw [Case.next, intoEnv_cell m1 (by omega) m3, if_neg h0]
          rfl
  · rw [intoEnv_one (by omega)]
    by_cases hi6 : i = 6
    · subst hi6
      rw [cn2_six, hf0]; rfl
    · rw [cn2_one hi hi6]
  · rw [intoEnv_cell k1 (by omega) k3, cn2_tab k1 (by omega) k3, if_pos rfl]
    split
    · rename_i e; subst e; rfl
    · rfl
  · obtain ⟨rfl, rfl, h3⟩ := hp
    refine ⟨0, ⟨.exit 0, 2, z3 N f n n (.lit 0), [.tab 32, R, T]⟩, by rw [hS]; rfl, rfl, rfl, Nat.le_of_ble_eq_true rfl, Nat.le_of_ble_eq_true rfl, ⟨fun i hi => ?_, fun a r c k1 k2 k3 => ?_⟩⟩
    · rw [intoEnv_one (by omega)]
      by_cases hi6 : i = 6
      · subst hi6
        rw [cn2_six, h3]; rfl
      · rw [cn2_one hi hi6, hf0]
        rcases i with _ | _ | _ | _ | _ | _ | _ | _ | i
        all_goals first | rfl | omega
    · rw [intoEnv_cell k1 (by omega) k3, cn2_tab k1 (by omega) k3]
      rcases (show a = 32 ∨ a = 33 ∨ a = 34 by omega) with rfl | rfl | rfl
      · rw [if_neg (by decide), hg0]; rfl
      · rw [if_neg (by decide), hg0]; rfl
      · rw [if_pos rfl, if_neg (by omega), hA, h3]
        exact (hT r c k3).symm
end

/-- Where the i-th stands. -/
def at' (f N i : Int) : Nat := ((f + i).tmod N).toNat

theorem at_two {f N i : Int} (hN : 1 ≤ N) (hf : 0 ≤ f ∧ f < N) (hi : 0 ≤ i ∧ i ≤ N) : (f + i).tmod N = if f + i < N then f + i else f + i - N := by
  by_cases c : f + i < N
  · rw [if_pos c, Int.tmod_eq_of_lt (by omega) c]
  · rw [if_neg c, Int.tmod_eq_emod_of_nonneg (by omega)]
    have : (f + i) % N = (f + i - N) % N := by rw [Int.sub_emod, Int.emod_self, Int.sub_zero, Int.emod_emod_of_dvd _ (Int.dvd_refl N)]
    rw [this, Int.emod_eq_of_lt (by omega) (by omega)]

theorem at_inj {f N i k : Int} (hN : 1 ≤ N) (hf : 0 ≤ f ∧ f < N) (hi : 0 ≤ i ∧ i < N) (hk : 0 ≤ k ∧ k < N) (h : (f + i).tmod N = (f + k).tmod N) : i = k := by
  rw [at_two hN hf ⟨hi.1, by omega⟩, at_two hN hf ⟨hk.1, by omega⟩] at h
  split at h <;> split at h <;> omega

theorem at_cast {f N i : Int} (hN : 1 ≤ N) (h : 0 ≤ f + i) : ((at' f N i : Nat) : Int) = (f + i).tmod N := Int.toNat_of_nonneg (Int.tmod_nonneg N h)

/-- What Remove makes of the row. -/
theorem shRun_at {f N : Int} (hN : 1 ≤ N) (hf : 0 ≤ f ∧ f < N) : ∀ (k : Nat) (s : Int) (T : TT), 0 ≤ s → s + k < N → ∀ i : Int, 0 ≤ i → i < s + k → shRun f N k s T (at' f N i) 0 = T (at' f N (if i < s then i else i + 1)) 0 := by
  intro k
  induction k with
  | zero =>
    intro s T hs hk i hi hlt
    rw [if_pos (by omega)]
    rfl
  | succ k ih =>
    intro s T hs hk i hi hlt
    show shRun f N k (s + 1) (shStep f N s T) (at' f N i) 0 = _
    rw [ih (s + 1) _ (by omega) (by omega) i hi (by omega)]
    have step : ∀ m : Int, 0 ≤ m → m < N → shStep f N s T (at' f N m) 0 = if m = s then T (at' f N (s + 1)) 0 else T (at' f N m) 0 := fun m h1 h2 => by
      unfold shStep
      rw [at_cast hN (by omega)]
      by_cases e : m = s
      · subst e
        rw [if_pos ⟨rfl, rfl⟩, if_pos rfl]
        rfl
      · rw [if_neg (fun h => e (at_inj hN hf ⟨h1, h2⟩ ⟨hs, by omega⟩ h.1)), if_neg e]
    by_cases h1 : i < s + 1
    · rw [if_pos h1, step i hi (by omega)]
      by_cases h2 : i = s
      · rw [if_pos h2, if_neg (by omega), h2]
      · rw [if_neg h2, if_pos (by omega)]
    · rw [if_neg h1, step (i + 1) (by omega) (by omega), if_neg (by omega), if_neg (by omega)]

theorem shRun_mid {f N : Int} : ∀ (k : Nat) (s : Int) (T : TT), (∀ r c, In64 (T r c)) → ∀ r c, In64 (shRun f N k s T r c) := by
  intro k
  induction k with
  | zero => intro s T h; exact h
  | succ k ih => intro s T h; exact ih _ _ (shStep_mid h)

/-- The first from i on, of so many, for which p is true. -/
def findI (p : Nat → Bool) : Nat → Nat → Nat
  | i, 0 => i
  | i, k + 1 => bif p i then i else findI p (i + 1) k

theorem findI_ok {p : Nat → Bool} : ∀ (k i : Nat), i ≤ findI p i k ∧ findI p i k ≤ i + k ∧ (findI p i k < i + k → p (findI p i k) = true) ∧ ∀ j, i ≤ j → j < findI p i k → p j = false := by
  intro k
  induction k with
  | zero => intro i; exact ⟨Nat.le_refl _, Nat.le_refl _, fun h => absurd h (by show ¬ i < i + 0; omega), fun j h1 h2 => absurd h2 (by show ¬ j < i; omega)⟩
  | succ k ih =>
    intro i
    unfold findI
    cases hp : p i
    · rw [cond_false]
      obtain ⟨h1, h2, h3, h4⟩ := ih (i + 1)
      refine ⟨by omega, by omega, fun h => h3 (by omega), fun j h5 h6 => ?_⟩
      by_cases e : j = i
      · subst e; exact hp
      · exact h4 j (by omega) h6
    · rw [cond_true]
      exact ⟨Nat.le_refl _, by omega, fun _ => hp, fun j h5 h6 => by omega⟩

/-- A queue, and the document's row, before the j-th act. -/
structure Q where
  j : Int
  f : Int
  n : Int
  R : TT
  L : TT
  l : Bool

/-- What is there beside them: how many there is room for, how many acts, which. -/
structure Acts where
  N : Int
  A : Int
  kind : Nat → Int
  num : Nat → Int

def Q.x (q : Q) (a : Acts) : Int := a.num q.j.toNat
def Q.k (q : Q) (a : Acts) : Int := a.kind q.j.toNat
/-- Where the number is, or how many there are. -/
def Q.p (q : Q) (a : Acts) : Int := (findI (fun i => q.L i 0 == q.x a) 0 q.n.toNat : Nat)
def Q.sh (q : Q) (a : Acts) : TT := shRun q.f a.N (q.n - 1 - q.p a).toNat (q.p a) q.R

def putR (R : TT) (at_ : Int) (x : Int) : TT := fun r c => if (r : Int) = at_ ∧ c = 0 then x else R r c
def oneT (x : Int) (r : Int) (c : Nat) : Int := if r = 0 ∧ c = 0 then x else 0
def pushL (L : TT) (n x : Int) : TT := fun r c => if (r : Int) < n then L r c else oneT x ((r : Int) - n) c
def frontL (l : Bool) (L : TT) (x : Int) : TT := fun r c => if (r : Int) < 1 then oneT x r c else bif l then L (r - 1) c else 0
def dropL (L : TT) (p : Int) : TT := fun r c => if (r : Int) < p then L r c else L (r + 1) c

def Q.push (q : Q) (a : Acts) : Q := ⟨q.j + 1, q.f, q.n + 1, putR q.R ((q.f + q.n).tmod a.N) (q.x a), pushL q.L q.n (q.x a), true⟩
def Q.front (q : Q) (a : Acts) : Q := ⟨q.j + 1, (q.f + (a.N + -1)).tmod a.N, q.n + 1, putR q.R ((q.f + (a.N + -1)).tmod a.N) (q.x a), frontL q.l q.L (q.x a), true⟩
def Q.pop (q : Q) (a : Acts) : Q := ⟨q.j + 1, (q.f + 1).tmod a.N, q.n + -1, q.R, dropL q.L 0, q.l⟩
def Q.back (q : Q) (_ : Acts) : Q := ⟨q.j + 1, q.f, q.n + -1, q.R, dropL q.L (q.n + -1), q.l⟩
def Q.rem (q : Q) (a : Acts) : Q := ⟨q.j + 1, q.f, q.n + -1, q.sh a, dropL q.L (q.p a), q.l⟩
def Q.none (q : Q) (_ : Acts) : Q := ⟨q.j + 1, q.f, q.n, q.R, q.L, q.l⟩

def Q.step (q : Q) (a : Acts) : Q :=
  if q.k a = 0 then (if q.n = a.N then q.none a else q.push a)
  else if q.k a = 1 then (if q.n = a.N then q.none a else q.front a)
  else if q.k a = 2 then (if q.n = 0 then q.none a else q.pop a)
  else if q.k a = 3 then (if q.n = 0 then q.none a else q.back a)
  else if q.k a = 4 then (if q.p a = q.n then q.none a else q.rem a)
  else q.none a

structure Q.Inv (q : Q) (a : Acts) : Prop where
  N : 1 ≤ a.N ∧ a.N ≤ 4096
  f : 0 ≤ q.f ∧ q.f < a.N
  n : 0 ≤ q.n ∧ q.n ≤ a.N
  j : 0 ≤ q.j ∧ q.j ≤ a.A ∧ a.A ≤ 300
  R : ∀ r c, In64 (q.R r c)
  L : ∀ r c, In64 (q.L r c)
  x : ∀ i, In64 (a.num i)
  same : ∀ i : Nat, (i : Int) < q.n → q.R (at' q.f a.N i) 0 = q.L i 0
  l : q.l = false → q.n = 0

theorem Q.p_in {q : Q} {a : Acts} (h : q.Inv a) : 0 ≤ q.p a ∧ q.p a ≤ q.n := by
  have := findI_ok (p := fun i => q.L i 0 == q.x a) q.n.toNat 0
  have hn := h.n
  unfold Q.p
  omega
theorem Q.p_at {q : Q} {a : Acts} (h : q.Inv a) (hp : q.p a < q.n) : q.L (q.p a).toNat 0 = q.x a := by
  have := (findI_ok (p := fun i => q.L i 0 == q.x a) q.n.toNat 0).2.2.1 (by unfold Q.p at hp; omega)
  simpa [Q.p] using this
theorem Q.p_not {q : Q} {a : Acts} (i : Nat) (hi : (i : Int) < q.p a) : q.L i 0 ≠ q.x a := by
  have := (findI_ok (p := fun i => q.L i 0 == q.x a) q.n.toNat 0).2.2.2 i (Nat.zero_le _) (by unfold Q.p at hi; omega)
  simpa using this

theorem one_mid {x : Int} (h : In64 x) (r : Int) (c : Nat) : In64 (oneT x r c) := by
  unfold oneT
  split
  · exact h
  · unfold In64; omega
theorem put_mid {R : TT} (h : ∀ r c, In64 (R r c)) {i x : Int} (hx : In64 x) : ∀ r c, In64 (putR R i x r c) := by
  intro r c
  unfold putR
  split
  · exact hx
  · exact h r c
theorem drop_mid {L : TT} (h : ∀ r c, In64 (L r c)) {p : Int} : ∀ r c, In64 (dropL L p r c) := by
  intro r c
  unfold dropL
  split <;> exact h _ _

theorem Q.push_inv {q : Q} {a : Acts} (h : q.Inv a) (hj : q.j < a.A) (hn : q.n ≠ a.N) : (q.push a).Inv a := by
  have hN := h.N; have hf := h.f; have hnn := h.n; have hjj := h.j
  refine ⟨hN, hf, by show 0 ≤ q.n + 1 ∧ q.n + 1 ≤ a.N; omega, by show 0 ≤ q.j + 1 ∧ q.j + 1 ≤ a.A ∧ _; omega, put_mid h.R (h.x _), fun r c => ?_, h.x, fun i hi => ?_, fun e => by cases e⟩
  · show In64 (pushL q.L q.n (q.x a) r c)
    unfold pushL
    split
    · exact h.L r c
    · exact one_mid (h.x _) _ _
  · have hi : (i : Int) < q.n + 1 := hi
    show putR q.R ((q.f + q.n).tmod a.N) (q.x a) (at' q.f a.N i) 0 = pushL q.L q.n (q.x a) i 0
    unfold putR pushL
    rw [at_cast hN.1 (by omega)]
    by_cases e : (i : Int) = q.n
    · rw [if_pos ⟨by rw [e], rfl⟩, if_neg (by omega)]
      unfold oneT
      rw [if_pos ⟨by omega, rfl⟩]
    · rw [if_neg (fun hh => e (at_inj hN.1 hf ⟨by omega, by omega⟩ ⟨by omega, by omega⟩ hh.1)), if_pos (by omega)]
      exact h.same i (by omega)

theorem Q.front_inv {q : Q} {a : Acts} (h : q.Inv a) (hj : q.j < a.A) (hn : q.n ≠ a.N) : (q.front a).Inv a := by
  have hN := h.N; have hf := h.f; have hnn := h.n; have hjj := h.j
  have hF := at_two (i := a.N + -1) hN.1 hf ⟨by omega, by omega⟩
  have hf' : 0 ≤ (q.f + (a.N + -1)).tmod a.N ∧ (q.f + (a.N + -1)).tmod a.N < a.N := by
    rw [hF]; split <;> omega
  refine ⟨hN, hf', by show 0 ≤ q.n + 1 ∧ q.n + 1 ≤ a.N; omega, by show 0 ≤ q.j + 1 ∧ q.j + 1 ≤ a.A ∧ _; omega, put_mid h.R (h.x _), fun r c => ?_, h.x, fun i hi => ?_, fun e => by cases e⟩
  · show In64 (frontL q.l q.L (q.x a) r c)
    unfold frontL
    split
    · exact one_mid (h.x _) _ _
    · cases q.l
      · rw [cond_false]; unfold In64; omega
      · exact h.L _ _
  · have hi : (i : Int) < q.n + 1 := hi
    show putR q.R ((q.f + (a.N + -1)).tmod a.N) (q.x a) (at' ((q.f + (a.N + -1)).tmod a.N) a.N i) 0 = frontL q.l q.L (q.x a) i 0
    unfold putR frontL
    rw [at_cast hN.1 (by omega)]
    have ht := at_two (f := (q.f + (a.N + -1)).tmod a.N) (i := i) hN.1 hf' ⟨by omega, by omega⟩
    by_cases e : i = 0
    · subst e
      rw [if_pos ⟨by rw [ht]; split <;> omega, rfl⟩, if_pos (by omega)]
      unfold oneT
      rw [if_pos ⟨rfl, rfl⟩]
    · have hl : q.l = true := by
        cases hl : q.l
        · have := h.l hl; omega
        · rfl
      rw [if_neg (fun hh => by have := hh.1; rw [ht] at this; split at this <;> omega), if_neg (by omega), hl, cond_true, ← h.same (i - 1) (by omega)]
      congr 1
      unfold at'
      rw [ht, at_two (i := ((i - 1 : Nat) : Int)) hN.1 hf ⟨by omega, by omega⟩, hF]
      repeat' split
      all_goals omega

theorem Q.none_inv {q : Q} {a : Acts} (h : q.Inv a) (hj : q.j < a.A) : (q.none a).Inv a :=
  ⟨h.N, h.f, h.n, by have := h.j; show 0 ≤ q.j + 1 ∧ q.j + 1 ≤ a.A ∧ _; omega, h.R, h.L, h.x, h.same, h.l⟩

theorem Q.pop_inv {q : Q} {a : Acts} (h : q.Inv a) (hj : q.j < a.A) (hn : q.n ≠ 0) : (q.pop a).Inv a := by
  have hN := h.N; have hf := h.f; have hnn := h.n; have hjj := h.j
  have hF := at_two (i := 1) hN.1 hf ⟨by omega, by omega⟩
  have hf' : 0 ≤ (q.f + 1).tmod a.N ∧ (q.f + 1).tmod a.N < a.N := by
    rw [hF]; split <;> omega
  refine ⟨hN, hf', by show 0 ≤ q.n + -1 ∧ q.n + -1 ≤ a.N; omega, by show 0 ≤ q.j + 1 ∧ q.j + 1 ≤ a.A ∧ _; omega, h.R, fun r c => drop_mid (p := 0) h.L r c, h.x, fun i hi => ?_, fun e => by have := h.l e; omega⟩
  have hi : (i : Int) < q.n + -1 := hi
  show q.R (at' ((q.f + 1).tmod a.N) a.N i) 0 = dropL q.L 0 i 0
  unfold dropL
  rw [if_neg (by omega), ← h.same (i + 1) (by omega)]
  congr 1
  unfold at'
  rw [at_two (i := i) hN.1 hf' ⟨by omega, by omega⟩, at_two (i := ((i + 1 : Nat) : Int)) hN.1 hf ⟨by omega, by omega⟩, hF]
  repeat' split
  all_goals omega

theorem Q.back_inv {q : Q} {a : Acts} (h : q.Inv a) (hj : q.j < a.A) (hn : q.n ≠ 0) : (q.back a).Inv a := by
  have hN := h.N; have hf := h.f; have hnn := h.n; have hjj := h.j
  refine ⟨hN, hf, by show 0 ≤ q.n + -1 ∧ q.n + -1 ≤ a.N; omega, by show 0 ≤ q.j + 1 ∧ q.j + 1 ≤ a.A ∧ _; omega, h.R, fun r c => drop_mid (p := q.n + -1) h.L r c, h.x, fun i hi => ?_, fun e => by have := h.l e; omega⟩
  have hi : (i : Int) < q.n + -1 := hi
  show q.R (at' q.f a.N i) 0 = dropL q.L (q.n + -1) i 0
  unfold dropL
  rw [if_pos hi]
  exact h.same i (by omega)

theorem Q.rem_inv {q : Q} {a : Acts} (h : q.Inv a) (hj : q.j < a.A) (hp : q.p a ≠ q.n) : (q.rem a).Inv a := by
  have hN := h.N; have hf := h.f; have hnn := h.n; have hjj := h.j
  have hpi := Q.p_in h
  refine ⟨hN, hf, by show 0 ≤ q.n + -1 ∧ q.n + -1 ≤ a.N; omega, by show 0 ≤ q.j + 1 ∧ q.j + 1 ≤ a.A ∧ _; omega, shRun_mid _ _ _ h.R, fun r c => drop_mid (p := q.p a) h.L r c, h.x, fun i hi => ?_, fun e => by have := h.l e; omega⟩
  have hi : (i : Int) < q.n + -1 := hi
  show shRun q.f a.N (q.n - 1 - q.p a).toNat (q.p a) q.R (at' q.f a.N i) 0 = dropL q.L (q.p a) i 0
  unfold dropL
  rw [shRun_at hN.1 hf _ _ _ hpi.1 (by omega) i (by omega) (by omega)]
  by_cases hlt : (i : Int) < q.p a
  · rw [if_pos hlt, if_pos hlt]
    exact h.same i (by omega)
  · rw [if_neg hlt, if_neg hlt]
    exact h.same (i + 1) (by omega)

theorem Q.step_inv {q : Q} {a : Acts} (h : q.Inv a) (hj : q.j < a.A) : (q.step a).Inv a := by
  unfold Q.step
  split
  · split
    · exact Q.none_inv h hj
    · exact Q.push_inv h hj (by assumption)
  · split
    · split
      · exact Q.none_inv h hj
      · exact Q.front_inv h hj (by assumption)
    · split
      · split
        · exact Q.none_inv h hj
        · exact Q.pop_inv h hj (by assumption)
      · split
        · split
          · exact Q.none_inv h hj
          · exact Q.back_inv h hj (by assumption)
        · split
          · split
            · exact Q.none_inv h hj
            · exact Q.rem_inv h hj (by assumption)
          · exact Q.none_inv h hj

theorem Q.step_j (q : Q) (a : Acts) : (q.step a).j = q.j + 1 := by
  unfold Q.step
  repeat' split
  all_goals rfl

def Q.iter (a : Acts) : Nat → Q → Q
  | 0, q => q
  | k + 1, q => Q.iter a k (q.step a)

theorem Q.iter_inv {a : Acts} : ∀ (k : Nat) (q : Q), q.Inv a → q.j + k ≤ a.A → (Q.iter a k q).Inv a ∧ (Q.iter a k q).j = q.j + k := by
  intro k
  induction k with
  | zero => intro q h _; exact ⟨h, by show q.j = q.j + 0; omega⟩
  | succ k ih =>
    intro q h hk
    obtain ⟨h1, h2⟩ := ih (q.step a) (Q.step_inv h (by omega)) (by rw [Q.step_j]; omega)
    refine ⟨h1, ?_⟩
    show (Q.iter a k (q.step a)).j = _
    rw [h2, Q.step_j]; omega

def swap : Bool → Nat → Nat
  | true, 0 => 1
  | true, 1 => 0
  | _, i => i
theorem swap_swap (st : Bool) (i : Nat) : swap st (swap st i) = i := by
  cases st
  · rfl
  · rcases i with _ | _ | i <;> rfl

/-- What a loop of acts comes to: from a list that is made or not (st), to one that is made or not (l). -/
def AL.spec (A : AL) (G : Nat) (pn : St → HS → List Nat) (st l : Bool) (N v1 m f n acts R L more f' n' R' L' : SE) : LoopSpec :=
  ⟨A.fn, A.key, A.nt, fun i => A.sh G (swap st i), [N, v1, m, .lit 0, f, n], [acts, R, L, more], A.names pn, [⟨.exit A.ex, bif l then 3 else 2, [N, v1, m, m, f', n'], [acts, R', L', more]⟩], A.o + 4⟩

def actsOf (e : Nat → Int) : Acts := ⟨e 0, e 2, fun i => e (cellIx 32 (i : Nat) 0), fun i => e (cellIx 32 (i : Nat) 1)⟩

def encQ (e : Nat → Int) (q : Q) : Nat → Int :=
  envT (fun i => if i = 3 then q.j else if i = 4 then q.f else if i = 5 then q.n else if i = 8 then q.p (actsOf e) else e i) (fun t r c => if t = 33 then q.R r c else if t = 34 then q.L r c else if t = 40 then q.sh (actsOf e) r c else e (cellIx t r c))

section
variable {e : Nat → Int} {q : Q}

theorem enc0 : encQ e q 0 = e 0 := rfl
theorem enc1 : encQ e q 1 = e 1 := rfl
theorem enc2 : encQ e q 2 = e 2 := rfl
theorem enc3 : encQ e q 3 = q.j := rfl
theorem enc4 : encQ e q 4 = q.f := rfl
theorem enc5 : encQ e q 5 = q.n := rfl
theorem enc8 : encQ e q 8 = q.p (actsOf e) := rfl
theorem encT {t r c : Nat} (h1 : 32 ≤ t) (h2 : t < 64) (hc : c < 64) : encQ e q (cellIx t (r : Int) c) = if t = 33 then q.R r c else if t = 34 then q.L r c else if t = 40 then q.sh (actsOf e) r c else e (cellIx t r c) := envT_cell h1 h2 hc
theorem encRow {t c : Nat} {r : Int} (hr : 0 ≤ r) (h1 : 32 ≤ t) (h2 : t < 64) (hc : c < 64) : (SE.tab t).row (encQ e q) r c = if t = 33 then q.R r.toNat c else if t = 34 then q.L r.toNat c else if t = 40 then q.sh (actsOf e) r.toNat c else e (cellIx t r c) := by
  obtain ⟨m, rfl⟩ : ∃ m : Nat, r = m := ⟨r.toNat, by omega⟩
  exact encT h1 h2 hc

theorem enc_kd (hj : 0 ≤ q.j) : kd.eval (encQ e q) = q.k (actsOf e) := by
  show (SE.tab 32).row (encQ e q) (encQ e q 3) 0 = _
  rw [enc3, encRow hj (by decide) (by decide) (by decide)]
  simp only [show ¬ (32 = 33) by decide, show ¬ (32 = 34) by decide, show ¬ (32 = 40) by decide, if_false]
  show e (cellIx 32 q.j 0) = e (cellIx 32 ((q.j.toNat : Nat) : Int) 0)
  rw [Int.toNat_of_nonneg hj]
theorem enc_xx (hj : 0 ≤ q.j) : xx.eval (encQ e q) = q.x (actsOf e) := by
  show (SE.tab 32).row (encQ e q) (encQ e q 3) 1 = _
  rw [enc3, encRow hj (by decide) (by decide) (by decide)]
  simp only [show ¬ (32 = 33) by decide, show ¬ (32 = 34) by decide, show ¬ (32 = 40) by decide, if_false]
  show e (cellIx 32 q.j 1) = e (cellIx 32 ((q.j.toNat : Nat) : Int) 1)
  rw [Int.toNat_of_nonneg hj]

theorem enc_mid (he : ∀ j, In64 (e j)) (h : q.Inv (actsOf e)) : ∀ j, In64 (encQ e q j) := by
  have hN := h.N; have hf := h.f; have hn := h.n; have hj := h.j; have hp := Q.p_in h
  refine envT_mid (fun i => ?_) (fun t r c => ?_)
  · repeat' split
    · unfold In64; omega
    · unfold In64; omega
    · unfold In64; omega
    · unfold In64; omega
    · exact he i
  · repeat' split
    · exact h.R r c
    · exact h.L r c
    · exact shRun_mid _ _ _ h.R r c
    · exact he _
end

/-- Which way through the round. -/
def Q.way (q : Q) (a : Acts) : K :=
  if q.j < a.A then
    (bif q.l then (if q.k a = 0 then (if q.n = a.N then .pushF else .push)
      else if q.k a = 1 then (if q.n = a.N then .frontF else .front)
      else if q.k a = 2 then (if q.n = 0 then .pop0 else .pop)
      else if q.k a = 3 then (if q.n = 0 then .back0 else .back)
      else if q.k a = 4 then (if q.p a = q.n then .remN else .rem)
      else .oth)
    else (if q.k a = 0 then .nPush else if q.k a = 1 then .nFront else if q.k a = 2 then .nPop else if q.k a = 3 then .nBack else if q.k a = 4 then .nRem else .nOth))
  else bif q.l then .done else .nEnd

section
variable {e : Nat → Int} {q : Q}

theorem facts_N (h : q.Inv (actsOf e)) : ∀ p ∈ pcN, p.1.eval (encQ e q) = p.2 := fun p hp => by
  have hN : 1 ≤ e 0 ∧ e 0 ≤ 4096 := h.N
  have hf : 0 ≤ q.f ∧ q.f < e 0 := h.f
  have hn : 0 ≤ q.n ∧ q.n ≤ e 0 := h.n
  simp only [pcN, tt, List.mem_cons, List.not_mem_nil, or_false] at hp
  rcases hp with rfl | rfl | rfl | rfl | rfl | rfl | rfl | rfl | rfl
  all_goals first | rfl | exact decide_eq_true (by simp only [SE.eval, enc0, enc4, enc5]; omega)
theorem facts_I (h : q.Inv (actsOf e)) : ∀ p ∈ pcI, p.1.eval (encQ e q) = p.2 := fun p hp => by
  have hj : 0 ≤ q.j ∧ q.j ≤ e 2 ∧ e 2 ≤ 300 := h.j
  simp only [pcI, List.mem_cons, List.not_mem_nil, or_false] at hp
  rcases hp with rfl | rfl | rfl | rfl
  all_goals exact decide_eq_true (by simp only [SE.eval, enc2, enc3]; omega)
theorem facts_In (h : q.Inv (actsOf e)) (hlt : q.j < e 2) : ∀ p ∈ pcIn, p.1.eval (encQ e q) = p.2 := fun p hp => by
  have hj : 0 ≤ q.j ∧ q.j ≤ e 2 ∧ e 2 ≤ 300 := h.j
  rcases List.mem_append.1 hp with hp | hp
  · simp only [List.mem_cons, List.not_mem_nil, or_false] at hp
    rcases hp with rfl | rfl | rfl
    all_goals first | exact decide_eq_true (by simp only [SE.eval, enc2, enc3]; omega) | exact decide_eq_false (by simp only [SE.eval, enc2, enc3]; omega)
  · exact facts_I h p hp
theorem facts_K (h : q.Inv (actsOf e)) {m : Nat} (hm : m ≤ 4) (hk : q.k (actsOf e) = m) : ∀ p ∈ kK m, p.1.eval (encQ e q) = p.2 := fun p hp => by
  have hkd := enc_kd (e := e) h.j.1
  rw [hk] at hkd
  rcases m with _ | _ | _ | _ | _ | m
  all_goals first
    | (exfalso; omega)
    | (simp only [kK, List.mem_cons, List.not_mem_nil, or_false] at hp
       repeat' (rcases hp with rfl | hp)
       all_goals first | exact decide_eq_true (by rw [hkd]; rfl) | exact decide_eq_false (by rw [hkd]; simp only [SE.eval]; omega) | (subst hp; first | exact decide_eq_true (by rw [hkd]; rfl) | exact decide_eq_false (by rw [hkd]; simp only [SE.eval]; omega)))
theorem facts_K5 (h : q.Inv (actsOf e)) (hk : q.k (actsOf e) ≠ 0 ∧ q.k (actsOf e) ≠ 1 ∧ q.k (actsOf e) ≠ 2 ∧ q.k (actsOf e) ≠ 3 ∧ q.k (actsOf e) ≠ 4) : ∀ p ∈ kK 5, p.1.eval (encQ e q) = p.2 := fun p hp => by
  have hkd := enc_kd (e := e) h.j.1
  simp only [kK, List.mem_cons, List.not_mem_nil, or_false] at hp
  rcases hp with rfl | rfl | rfl | rfl | rfl
  all_goals exact decide_eq_false (by rw [hkd]; simp only [SE.eval]; omega)
end

section
variable {e : Nat → Int} {q : Q}

theorem facts_room (h : q.Inv (actsOf e)) (hn : q.n ≠ e 0) : ∀ p ∈ pRoom, p.1.eval (encQ e q) = p.2 := fun p hp => by
  have hN : 1 ≤ e 0 ∧ e 0 ≤ 4096 := h.N
  have hnn : 0 ≤ q.n ∧ q.n ≤ e 0 := h.n
  simp only [pRoom, List.mem_cons, List.not_mem_nil, or_false] at hp
  rcases hp with rfl | rfl | rfl | rfl
  all_goals first | exact decide_eq_true (by simp only [SE.eval, enc0, enc5]; omega) | exact decide_eq_false (by simp only [SE.eval, enc0, enc5]; omega)
theorem facts_full (hn : q.n = e 0) : ∀ p ∈ pFull, p.1.eval (encQ e q) = p.2 := fun p hp => by
  simp only [pFull, List.mem_cons, List.not_mem_nil, or_false] at hp
  subst hp
  exact decide_eq_true (by simp only [SE.eval, enc0, enc5]; omega)
theorem facts_some (h : q.Inv (actsOf e)) (hn : q.n ≠ 0) : ∀ p ∈ pSome, p.1.eval (encQ e q) = p.2 := fun p hp => by
  have hnn := h.n
  simp only [pSome, List.mem_cons, List.not_mem_nil, or_false] at hp
  subst hp
  exact decide_eq_true (by simp only [SE.eval, enc5]; omega)
theorem facts_none (hn : q.n = 0) : ∀ p ∈ pNone, p.1.eval (encQ e q) = p.2 := fun p hp => by
  simp only [pNone, List.mem_cons, List.not_mem_nil, or_false] at hp
  subst hp
  exact decide_eq_true (by simp only [SE.eval, enc5]; omega)

theorem selR (x : SE) (hx : 0 ≤ x.eval (encQ e q)) : (SE.sel (.tab 33) x 0).eval (encQ e q) = q.R (x.eval (encQ e q)).toNat 0 := by
  show (SE.tab 33).row (encQ e q) (x.eval (encQ e q)) 0 = _
  rw [encRow hx (by decide) (by decide) (by decide), if_pos rfl]
theorem selL (x : SE) (hx : 0 ≤ x.eval (encQ e q)) : (SE.sel (.tab 34) x 0).eval (encQ e q) = q.L (x.eval (encQ e q)).toNat 0 := by
  show (SE.tab 34).row (encQ e q) (x.eval (encQ e q)) 0 = _
  rw [encRow hx (by decide) (by decide) (by decide), if_neg (by decide), if_pos rfl]

theorem facts_pop (h : q.Inv (actsOf e)) (hn : q.n ≠ 0) : ∀ p ∈ pPop, p.1.eval (encQ e q) = p.2 := fun p hp => by
  have hN : 1 ≤ e 0 ∧ e 0 ≤ 4096 := h.N
  have hf : 0 ≤ q.f ∧ q.f < e 0 := h.f
  have hnn := h.n
  simp only [pPop, List.mem_cons, List.not_mem_nil, or_false] at hp
  subst hp
  refine decide_eq_true ?_
  have e1 : at0.eval (encQ e q) = q.f.tmod (e 0) := rfl
  have h0 := modIn (i := 0) hN.1 (show 0 ≤ q.f + 0 by omega)
  rw [Int.add_zero] at h0
  rw [selR _ (by rw [e1]; exact h0.1), selL (.lit 0) (Int.le_refl 0), e1]
  have := h.same 0 (by omega)
  unfold at' at this
  rw [show ((0 : Nat) : Int) = 0 from rfl, Int.add_zero] at this
  exact this
theorem facts_back (h : q.Inv (actsOf e)) (hn : q.n ≠ 0) : ∀ p ∈ pBack, p.1.eval (encQ e q) = p.2 := fun p hp => by
  have hN : 1 ≤ e 0 ∧ e 0 ≤ 4096 := h.N
  have hf : 0 ≤ q.f ∧ q.f < e 0 := h.f
  have hnn := h.n
  simp only [pBack, List.mem_cons, List.not_mem_nil, or_false] at hp
  subst hp
  refine decide_eq_true ?_
  have e1 : (atN n1).eval (encQ e q) = (q.f + (q.n + -1)).tmod (e 0) := rfl
  have e2 : n1.eval (encQ e q) = q.n + -1 := rfl
  rw [selR _ (by rw [e1]; exact (modIn hN.1 (by omega)).1), selL _ (by rw [e2]; omega), e1, e2]
  have := h.same (q.n + -1).toNat (by omega)
  unfold at' at this
  rw [show (((q.n + -1).toNat : Nat) : Int) = q.n + -1 by omega] at this
  exact this
theorem facts_found (h : q.Inv (actsOf e)) (hp' : q.p (actsOf e) ≠ q.n) : ∀ p ∈ pFound, p.1.eval (encQ e q) = p.2 := fun p hp => by
  have hN : 1 ≤ e 0 ∧ e 0 ≤ 4096 := h.N
  have hnn : 0 ≤ q.n ∧ q.n ≤ e 0 := h.n
  have hpi := Q.p_in h
  simp only [pFound, List.mem_cons, List.not_mem_nil, or_false] at hp
  rcases hp with rfl | rfl | rfl | rfl | rfl
  · exact decide_eq_true (show 0 ≤ q.p (actsOf e) by omega)
  · exact decide_eq_true (show q.p (actsOf e) ≤ q.n + -1 by omega)
  · exact decide_eq_true (show q.p (actsOf e) ≤ 4095 by omega)
  · exact decide_eq_false (show ¬ q.n ≤ 0 by omega)
  · exact decide_eq_false (show ¬ q.n = 0 by omega)

theorem app {α : Type} {P : α → Prop} {l m : List α} (h : ∀ p ∈ l, P p) (k : ∀ p ∈ m, P p) : ∀ p ∈ l ++ m, P p := fun p hp => (List.mem_append.1 hp).elim (h p) (k p)

theorem way_facts (h : q.Inv (actsOf e)) : ∀ p ∈ (q.way (actsOf e)).pc, p.1.eval (encQ e q) = p.2 := by
  have hj : 0 ≤ q.j ∧ q.j ≤ e 2 ∧ e 2 ≤ 300 := h.j
  unfold Q.way K.pc
  by_cases hlt : q.j < e 2
  · have hin := app (facts_In h hlt) (facts_N h)
    rw [if_pos (show q.j < (actsOf e).A from hlt)]
    cases q.l
    · rw [cond_false]
      split
      · exact app (facts_K h (m := 0) (by decide) (by assumption)) hin
      · split
        · exact app (facts_K h (m := 1) (by decide) (by assumption)) hin
        · split
          · exact app (facts_K h (m := 2) (by decide) (by assumption)) hin
          · split
            · exact app (facts_K h (m := 3) (by decide) (by assumption)) hin
            · split
              · exact app (facts_K h (m := 4) (by decide) (by assumption)) hin
              · exact app (facts_K5 h ⟨by assumption, by assumption, by assumption, by assumption, by assumption⟩) hin
    · rw [cond_true]
      split
      · rename_i hk
        split
        · exact app (app (facts_K h (m := 0) (by decide) hk) (facts_full (by assumption))) hin
        · exact app (app (facts_K h (m := 0) (by decide) hk) (facts_room h (by assumption))) hin
      · split
        · rename_i hk
          split
          · exact app (app (facts_K h (m := 1) (by decide) hk) (facts_full (by assumption))) hin
          · exact app (app (facts_K h (m := 1) (by decide) hk) (facts_room h (by assumption))) hin
        · split
          · rename_i hk
            split
            · exact app (app (facts_K h (m := 2) (by decide) hk) (facts_none (by assumption))) hin
            · exact app (app (app (facts_K h (m := 2) (by decide) hk) (facts_some h (by assumption))) (facts_pop h (by assumption))) hin
          · split
            · rename_i hk
              split
              · exact app (app (facts_K h (m := 3) (by decide) hk) (facts_none (by assumption))) hin
              · exact app (app (app (facts_K h (m := 3) (by decide) hk) (facts_some h (by assumption))) (facts_back h (by assumption))) hin
            · split
              · rename_i hk
                split
                · exact app (facts_K h (m := 4) (by decide) hk) hin
                · exact app (app (facts_found h (by assumption)) (facts_K h (m := 4) (by decide) hk)) hin
              · exact app (facts_K5 h ⟨by assumption, by assumption, by assumption, by assumption, by assumption⟩) hin
  · have hend := app (facts_I h) (facts_N h)
    rw [if_neg (show ¬ q.j < (actsOf e).A from hlt)]
    have hl : ∀ p ∈ ([(.le (.var 2) (.var 3), true)] : List (SB × Bool)), p.1.eval (encQ e q) = p.2 := fun p hp => by
      simp only [List.mem_cons, List.not_mem_nil, or_false] at hp
      subst hp
      exact decide_eq_true (by simp only [SE.eval, enc2, enc3]; omega)
    cases q.l
    · exact app hl hend
    · exact app hl hend
end

section
variable {e : Nat → Int} {q : Q}

theorem agree_of {A : AL} {G : Nat} {k : K} {q' : Q} {a b c x y : SE} (hf : k.f = [a, b, c]) (hg : k.g = [x, y]) (ha : a.eval (encQ e q) = q'.j) (hb : b.eval (encQ e q) = q'.f) (hc : c.eval (encQ e q) = q'.n)
    (hx : ∀ r c : Nat, c < 64 → x.row (encQ e q) (r : Int) c = q'.R r c) (hy : ∀ r c : Nat, c < 64 → y.row (encQ e q) (r : Int) c = q'.L r c) : AgreeN 6 4 ((k.case A G).next (encQ e q)) (encQ e q') := by
  have h1 : (k.case A G).f = [.var 0, .var 1, .var 2, a, b, c] := by show [.var 0, .var 1, .var 2] ++ k.f = _; rw [hf]; rfl
  have h2 : (k.case A G).g = [.tab 32, x, y] := by show .tab 32 :: k.g = _; rw [hg]
  refine ⟨fun i hi => ?_, fun t r c' m1 m2 m3 => ?_⟩
  · rw [Case.next, intoEnv_one (by omega), Case.fv, h1]
    rcases i with _ | _ | _ | _ | _ | _ | i
    · rfl
    · rfl
    · rfl
    · exact ha
    · exact hb
    · exact hc
    · omega
  · rw [Case.next, intoEnv_cell m1 (by omega) m3, Case.gv, h2, encT m1 (by omega) m3]
    rcases (show t = 32 ∨ t = 33 ∨ t = 34 ∨ t = 35 by omega) with rfl | rfl | rfl | rfl
    · show encQ e q (cellIx 32 (r : Int) c') = _
      rw [encT (by decide) (by decide) m3]
      rfl
    · rw [if_pos rfl]
      exact hx r c' m3
    · rw [if_neg (by decide), if_pos rfl]
      exact hy r c' m3
    · show encQ e q (cellIx 35 (r : Int) c') = _
      rw [encT (by decide) (by decide) m3]
      rfl

theorem rowR (r c : Nat) (hc : c < 64) : (SE.tab 33).row (encQ e q) (r : Int) c = q.R r c := by
  rw [encRow (by omega) (by decide) (by decide) hc, if_pos rfl]; rfl
theorem rowL (r c : Nat) (hc : c < 64) : (SE.tab 34).row (encQ e q) (r : Int) c = q.L r c := by
  rw [encRow (by omega) (by decide) (by decide) hc, if_neg (by decide), if_pos rfl]; rfl
theorem rowL' {r : Int} (hr : 0 ≤ r) {m : Nat} (hm : r = m) {c : Nat} (hc : c < 64) : (SE.tab 34).row (encQ e q) r c = q.L m c := by
  subst hm; exact rowL m c hc
theorem rowOne (hj : 0 ≤ q.j) (r : Int) (c : Nat) : (one xx).row (encQ e q) r c = oneT (q.x (actsOf e)) r c := by
  show (if r = 0 ∧ c = 0 then xx.eval (encQ e q) else 0) = _
  rw [enc_xx hj]
  rfl

theorem next_none {A : AL} {G : Nat} {k : K} (hf : k.f = [j1, .var 4, .var 5]) (hg : k.g = [.tab 33, .tab 34]) : AgreeN 6 4 ((k.case A G).next (encQ e q)) (encQ e (q.none (actsOf e))) :=
  agree_of hf hg rfl rfl rfl (fun r c hc => rowR r c hc) (fun r c hc => rowL r c hc)

theorem next_push (h : q.Inv (actsOf e)) {A : AL} {G : Nat} : AgreeN 6 4 ((K.push.case A G).next (encQ e q)) (encQ e (q.push (actsOf e))) := by
  have hn := h.n
  refine agree_of rfl rfl rfl rfl rfl (fun r c hc => ?_) (fun r c hc => ?_)
  · show (if (r : Int) = (q.f + q.n).tmod (e 0) ∧ c = 0 then xx.eval (encQ e q) else (SE.tab 33).row (encQ e q) (r : Int) c) = putR _ _ _ r c
    rw [enc_xx h.j.1, rowR r c hc]
    rfl
  · show (if (r : Int) < q.n then (if (r : Int) < 0 then (0 : Int) else (SE.tab 34).row (encQ e q) ((r : Int) - 0) c) else (one xx).row (encQ e q) ((r : Int) - q.n) c) = pushL _ _ _ r c
    unfold pushL
    rw [rowOne h.j.1]
    by_cases hr : (r : Int) < q.n
    · rw [if_pos hr, if_pos hr, if_neg (by omega), rowL' (m := r) (by omega) (by omega) hc]
    · rw [if_neg hr, if_neg hr]
theorem next_front (h : q.Inv (actsOf e)) (hl : q.l = true) {A : AL} {G : Nat} : AgreeN 6 4 ((K.front.case A G).next (encQ e q)) (encQ e (q.front (actsOf e))) := by
  refine agree_of rfl rfl rfl rfl rfl (fun r c hc => ?_) (fun r c hc => ?_)
  · show (if (r : Int) = (q.f + (e 0 + -1)).tmod (e 0) ∧ c = 0 then xx.eval (encQ e q) else (SE.tab 33).row (encQ e q) (r : Int) c) = putR _ _ _ r c
    rw [enc_xx h.j.1, rowR r c hc]
    rfl
  · show (if (r : Int) < 1 then (one xx).row (encQ e q) (r : Int) c else (SE.tab 34).row (encQ e q) ((r : Int) - 1) c) = frontL _ _ _ r c
    unfold frontL
    rw [rowOne h.j.1, hl, cond_true]
    by_cases hr : (r : Int) < 1
    · rw [if_pos hr, if_pos hr]
    · rw [if_neg hr, if_neg hr, rowL' (m := r - 1) (by omega) (by omega) hc]
theorem next_nPush (h : q.Inv (actsOf e)) (hn0 : q.n = 0) {A : AL} {G : Nat} : AgreeN 6 4 ((K.nPush.case A G).next (encQ e q)) (encQ e (q.push (actsOf e))) := by
  refine agree_of rfl rfl rfl rfl (by show (1 : Int) = q.n + 1; omega) (fun r c hc => ?_) (fun r c hc => ?_)
  · show (if (r : Int) = (q.f).tmod (e 0) ∧ c = 0 then xx.eval (encQ e q) else (SE.tab 33).row (encQ e q) (r : Int) c) = putR q.R ((q.f + q.n).tmod (e 0)) _ r c
    rw [enc_xx h.j.1, rowR r c hc, hn0, Int.add_zero]
    rfl
  · show (if (r : Int) < 0 then (if (r : Int) < 0 then (0 : Int) else 0) else (one xx).row (encQ e q) ((r : Int) - 0) c) = pushL _ q.n _ r c
    unfold pushL
    rw [if_neg (by omega), rowOne h.j.1, hn0, if_neg (by omega)]
theorem next_nFront (h : q.Inv (actsOf e)) (hl : q.l = false) (hn0 : q.n = 0) {A : AL} {G : Nat} : AgreeN 6 4 ((K.nFront.case A G).next (encQ e q)) (encQ e (q.front (actsOf e))) := by
  refine agree_of rfl rfl rfl rfl (by show (1 : Int) = q.n + 1; omega) (fun r c hc => ?_) (fun r c hc => ?_)
  · show (if (r : Int) = (q.f + (e 0 + -1)).tmod (e 0) ∧ c = 0 then xx.eval (encQ e q) else (SE.tab 33).row (encQ e q) (r : Int) c) = putR _ _ _ r c
    rw [enc_xx h.j.1, rowR r c hc]
    rfl
  · show (if (r : Int) < 1 then (one xx).row (encQ e q) (r : Int) c else (0 : Int)) = frontL _ _ _ r c
    unfold frontL
    rw [rowOne h.j.1, hl, cond_false]
theorem next_pop {A : AL} {G : Nat} : AgreeN 6 4 ((K.pop.case A G).next (encQ e q)) (encQ e (q.pop (actsOf e))) := by
  refine agree_of rfl rfl rfl rfl rfl (fun r c hc => rowR r c hc) (fun r c hc => ?_)
  show (if (r : Int) < 0 then (if (r : Int) < 0 then (0 : Int) else (SE.tab 34).row (encQ e q) ((r : Int) - 0) c) else (SE.tab 34).row (encQ e q) ((r : Int) - 0 + 1) c) = dropL _ 0 r c
  unfold dropL
  rw [if_neg (by omega), if_neg (by omega), rowL' (m := r + 1) (by omega) (by omega) hc]
theorem next_back (h : q.Inv (actsOf e)) (hn : q.n ≠ 0) {A : AL} {G : Nat} : AgreeN 6 4 ((K.back.case A G).next (encQ e q)) (encQ e (q.back (actsOf e))) := by
  have hnn := h.n
  refine agree_of rfl rfl rfl rfl rfl (fun r c hc => rowR r c hc) (fun r c hc => ?_)
  show (if (r : Int) < q.n + -1 then (if (r : Int) < 0 then (0 : Int) else (SE.tab 34).row (encQ e q) ((r : Int) - 0) c) else (SE.tab 34).row (encQ e q) ((r : Int) - (q.n + -1) + q.n) c) = dropL _ (q.n + -1) r c
  unfold dropL
  by_cases hr : (r : Int) < q.n + -1
  · rw [if_pos hr, if_pos hr, if_neg (by omega), rowL' (m := r) (by omega) (by omega) hc]
  · rw [if_neg hr, if_neg hr, rowL' (m := r + 1) (by omega) (by omega) hc]
theorem next_rem (h : q.Inv (actsOf e)) {A : AL} {G : Nat} : AgreeN 6 4 ((K.rem.case A G).next (encQ e q)) (encQ e (q.rem (actsOf e))) := by
  have hp := Q.p_in h
  refine agree_of rfl rfl rfl rfl rfl (fun r c hc => ?_) (fun r c hc => ?_)
  · show (SE.tab 40).row (encQ e q) (r : Int) c = q.sh (actsOf e) r c
    rw [encRow (by omega) (by decide) (by decide) hc, if_neg (by decide), if_neg (by decide), if_pos rfl]
    rfl
  · show (if (r : Int) < q.p (actsOf e) then (if (r : Int) < 0 then (0 : Int) else (SE.tab 34).row (encQ e q) ((r : Int) - 0) c) else (SE.tab 34).row (encQ e q) ((r : Int) - q.p (actsOf e) + (q.p (actsOf e) + 1)) c) = dropL _ (q.p (actsOf e)) r c
    unfold dropL
    by_cases hr : (r : Int) < q.p (actsOf e)
    · rw [if_pos hr, if_pos hr, if_neg (by omega), rowL' (m := r) (by omega) (by omega) hc]
    · rw [if_neg hr, if_neg hr, rowL' (m := r + 1) (by omega) (by omega) hc]
end

section
variable {e : Nat → Int} {q : Q}

structure WayOK (A : AL) (G : Nat) (e : Nat → Int) (q q' : Q) (k : K) : Prop where
  next : AgreeN 6 4 ((k.case A G).next (encQ e q)) (encQ e q')
  ends : k.ends = false
  frm : k.from = bif q.l then 1 else 0
  to : k.to = bif q'.l then 1 else 0
  rem : k = .rem → q.p (actsOf e) ≠ q.n
  remN : k = .remN → q.p (actsOf e) = q.n

theorem way_next (A : AL) (G : Nat) (h : q.Inv (actsOf e)) (hlt : q.j < e 2) : WayOK A G e q (q.step (actsOf e)) (q.way (actsOf e)) := by
  unfold Q.way Q.step
  rw [if_pos (show q.j < (actsOf e).A from hlt)]
  cases hl : q.l
  · have hn0 := h.l hl
    have hne : q.n ≠ (actsOf e).N := by have := h.N; omega
    have hp0 : q.p (actsOf e) = q.n := by have := Q.p_in h; omega
    have hnl : (q.none (actsOf e)).l = false := hl
    have hf : (bif q.l then (1 : Nat) else 0) = 0 := by rw [hl]; rfl
    rw [cond_false]
    split
    · try rw [if_neg hne]
      exact ⟨next_nPush h hn0, rfl, by rw [hf]; rfl, rfl, (fun e => by cases e), (fun e => by cases e)⟩
    · split
      · try rw [if_neg hne]
        exact ⟨next_nFront h hl hn0, rfl, by rw [hf]; rfl, rfl, (fun e => by cases e), (fun e => by cases e)⟩
      · split
        · try rw [if_pos hn0]
          exact ⟨next_none rfl rfl, rfl, by rw [hf]; rfl, by rw [hnl]; rfl, (fun e => by cases e), (fun e => by cases e)⟩
        · split
          · try rw [if_pos hn0]
            exact ⟨next_none rfl rfl, rfl, by rw [hf]; rfl, by rw [hnl]; rfl, (fun e => by cases e), (fun e => by cases e)⟩
          · split
            · try rw [if_pos hp0]
              exact ⟨next_none rfl rfl, rfl, by rw [hf]; rfl, by rw [hnl]; rfl, (fun e => by cases e), (fun e => by cases e)⟩
            · exact ⟨next_none rfl rfl, rfl, by rw [hf]; rfl, by rw [hnl]; rfl, (fun e => by cases e), (fun e => by cases e)⟩
  · have hf : (bif q.l then (1 : Nat) else 0) = 1 := by rw [hl]; rfl
    have hnl : (q.none (actsOf e)).l = true := hl
    have hpl : (q.pop (actsOf e)).l = true := hl
    have hbl : (q.back (actsOf e)).l = true := hl
    have hrl : (q.rem (actsOf e)).l = true := hl
    rw [cond_true]
    split
    · split
      · exact ⟨next_none rfl rfl, rfl, by rw [hf]; rfl, by rw [hnl]; rfl, (fun e => by cases e), (fun e => by cases e)⟩
      · exact ⟨next_push h, rfl, by rw [hf]; rfl, rfl, (fun e => by cases e), (fun e => by cases e)⟩
    · split
      · split
        · exact ⟨next_none rfl rfl, rfl, by rw [hf]; rfl, by rw [hnl]; rfl, (fun e => by cases e), (fun e => by cases e)⟩
        · exact ⟨next_front h hl, rfl, by rw [hf]; rfl, rfl, (fun e => by cases e), (fun e => by cases e)⟩
      · split
        · split
          · exact ⟨next_none rfl rfl, rfl, by rw [hf]; rfl, by rw [hnl]; rfl, (fun e => by cases e), (fun e => by cases e)⟩
          · exact ⟨next_pop, rfl, by rw [hf]; rfl, by rw [hpl]; rfl, (fun e => by cases e), (fun e => by cases e)⟩
        · split
          · split
            · exact ⟨next_none rfl rfl, rfl, by rw [hf]; rfl, by rw [hnl]; rfl, (fun e => by cases e), (fun e => by cases e)⟩
            · exact ⟨next_back h (by assumption), rfl, by rw [hf]; rfl, by rw [hbl]; rfl, (fun e => by cases e), (fun e => by cases e)⟩
          · split
            · split
              · exact ⟨next_none rfl rfl, rfl, by rw [hf]; rfl, by rw [hnl]; rfl, (fun e => by cases e), (fun _ => by assumption)⟩
              · exact ⟨next_rem h, rfl, by rw [hf]; rfl, by rw [hrl]; rfl, (fun _ => by assumption), (fun e => by cases e)⟩
            · exact ⟨next_none rfl rfl, rfl, by rw [hf]; rfl, by rw [hnl]; rfl, (fun e => by cases e), (fun e => by cases e)⟩

theorem shRun_congr {f N : Int} : ∀ (k : Nat) (s : Int) (T T' : TT), (∀ r c, c < 64 → T r c = T' r c) → ∀ r c, c < 64 → shRun f N k s T r c = shRun f N k s T' r c := by
  intro k
  induction k with
  | zero => intro s T T' h; exact h
  | succ k ih =>
    intro s T T' h r c hc
    refine ih _ _ _ (fun r c hc => ?_) r c hc
    unfold shStep
    rw [h _ 0 (by decide), h r c hc]

/-- The loops within a round. -/
theorem way_rnd (h : q.Inv (actsOf e)) (k : K) (hrem : k = .rem → q.p (actsOf e) ≠ q.n) (hremN : k = .remN → q.p (actsOf e) = q.n) (B : Nat) : Rnd Try.prog B k.pc (encQ e q) k.lo (callL ⟨k.pc⟩ k.lo) := by
  have hN : 1 ≤ e 0 ∧ e 0 ≤ 4096 := h.N
  have hf : 0 ≤ q.f ∧ q.f < e 0 := h.f
  have hn : 0 ≤ q.n ∧ q.n ≤ e 0 := h.n
  have hp := Q.p_in h
  have key : ∀ V : @Vals ⟨k.pc⟩, V.env = encQ e q → ∀ S ∈ k.specs Try.prog.globals.size, @LoopProof ⟨k.pc⟩ V Try.prog [] S := by
    intro V hV
    letI : Facts := ⟨k.pc⟩
    letI := V
    have hx : xx.eval V.env = q.x (actsOf e) := by rw [hV]; exact enc_xx h.j.1
    have hxm : In64 (xx.eval V.env) := by rw [hx]; exact h.x _
    have hRm : ∀ r c : Nat, In64 ((SE.tab 33).row V.env r c) := fun r c => V.mid _
    have hLm : ∀ r c : Nat, In64 ((SE.tab 34).row V.env r c) := fun r c => V.mid _
    have h0 : V.env 0 = e 0 := by rw [hV]; rfl
    have h4 : V.env 4 = q.f := by rw [hV]; rfl
    have h5 : V.env 5 = q.n := by rw [hV]; rfl
    have h8 : V.env 8 = q.p (actsOf e) := by rw [hV]; rfl
    have eR : ∀ j : Int, 0 ≤ j → j < q.n → (SE.tab 33).row V.env ((V.env 4 + j).tmod (V.env 0)) 0 = q.L j.toNat 0 := fun j h1 h2 => by
      rw [h4, h0, hV, encRow (modIn hN.1 (by omega)).1 (by decide) (by decide) (by decide), if_pos rfl, ← h.same j.toNat (by omega)]
      unfold at'
      rw [show ((j.toNat : Nat) : Int) = j by omega]
      rfl
    have eL : ∀ j : Int, 0 ≤ j → (SE.tab 34).row V.env j 0 = q.L j.toNat 0 := fun j h1 => by
      rw [hV, encRow h1 (by decide) (by decide) (by decide), if_neg (by decide), if_pos rfl]
    have hnot : ∀ j : Int, 0 ≤ j → j < q.p (actsOf e) → q.L j.toNat 0 ≠ q.x (actsOf e) := fun j h1 h2 => Q.p_not j.toNat (by omega)
    intro S hS
    cases k <;> first | (have hS : S ∈ ([] : List LoopSpec) := hS; cases hS; done) | skip
    · have hpn := hrem rfl
      have hat := Q.p_at h (by omega)
      simp only [K.specs, List.mem_cons, List.not_mem_nil, or_false] at hS
      rcases hS with rfl | rfl | rfl
      · refine FR_proof (by show 1 ≤ V.env 0 ∧ V.env 0 ≤ 4096; omega) (by show 0 ≤ V.env 4 ∧ V.env 4 < V.env 0; omega) (by show 0 ≤ V.env 5 ∧ V.env 5 ≤ V.env 0; omega) hxm hRm (fun _ => ⟨by show 0 ≤ V.env 8; omega, by show V.env 8 < V.env 5; omega, ?_⟩) (fun j h1 h2 => ?_)
        · show (SE.tab 33).row V.env ((V.env 4 + V.env 8).tmod (V.env 0)) 0 = _
          rw [eR _ (by omega) (by omega), hx, h8]
          exact hat
        · have h2 : j < V.env 8 := h2
          show (SE.tab 33).row V.env ((V.env 4 + j).tmod (V.env 0)) 0 ≠ _
          rw [eR _ h1 (by omega), hx]
          exact hnot j h1 (by omega)
      · refine FM_proof (by show 0 ≤ V.env 5 ∧ V.env 5 ≤ 4096; omega) hxm hLm (fun _ => ⟨by show 0 ≤ V.env 8; omega, by show V.env 8 < V.env 5; omega, ?_⟩) (fun j h1 h2 => ?_)
        · show (SE.tab 34).row V.env (V.env 8) 0 = _
          rw [eL _ (by omega), hx, h8]
          exact hat
        · have h2 : j < V.env 8 := h2
          rw [eL _ h1, hx]
          exact hnot j h1 (by omega)
      · refine SH_proof (by show 1 ≤ V.env 0 ∧ V.env 0 ≤ 4096; omega) (by show 0 ≤ V.env 4 ∧ V.env 4 < V.env 0; omega) (by show 0 ≤ V.env 8 ∧ V.env 8 < V.env 5 ∧ V.env 5 ≤ V.env 0; omega) hRm (fun r c hc => ?_)
        show (SE.tab 40).row V.env (r : Int) c = shRun (V.env 4) (V.env 0) (V.env 5 - 1 - V.env 8).toNat (V.env 8) (fun r c => (SE.tab 33).row V.env (r : Int) c) r c
        rw [h4, h0, h5, h8]
        have e1 : (SE.tab 40).row V.env (r : Int) c = q.sh (actsOf e) r c := by
          rw [hV, encRow (by omega) (by decide) (by decide) hc, if_neg (by decide), if_neg (by decide), if_pos rfl]
          rfl
        rw [e1]
        refine shRun_congr _ _ _ _ (fun r c hc => ?_) r c hc
        rw [hV]
        exact (rowR r c hc).symm
    · have hpn := hremN rfl
      simp only [K.specs, List.mem_cons, List.not_mem_nil, or_false] at hS
      rcases hS with rfl | rfl
      · refine FR_proof (by show 1 ≤ V.env 0 ∧ V.env 0 ≤ 4096; omega) (by show 0 ≤ V.env 4 ∧ V.env 4 < V.env 0; omega) (by show 0 ≤ V.env 5 ∧ V.env 5 ≤ V.env 0; omega) hxm hRm (fun h => by cases h) (fun j h1 h2 => ?_)
        have h2 : j < V.env 5 := h2
        show (SE.tab 33).row V.env ((V.env 4 + j).tmod (V.env 0)) 0 ≠ _
        rw [eR _ h1 (by omega), hx]
        exact hnot j h1 (by omega)
      · refine FM_proof (by show 0 ≤ V.env 5 ∧ V.env 5 ≤ 4096; omega) hxm hLm (fun h => by cases h) (fun j h1 h2 => ?_)
        have h2 : j < V.env 5 := h2
        rw [eL _ h1, hx]
        exact hnot j h1 (by omega)
  refine ⟨fun V hV => ?_, fun V hV => ?_, fun V hV => ?_⟩
  · letI : Facts := ⟨k.pc⟩
    letI := V
    exact manyLoops_tame (key V hV)
  · letI : Facts := ⟨k.pc⟩
    letI := V
    exact manyLoops_ok (key V hV) B
  · letI : Facts := ⟨k.pc⟩
    letI := V
    letI : Loops := k.lo
    letI : TameL := manyLoops_tame (key V hV)
    exact callN_ok ⟨manyLoops_ok (key V hV) B, fun _ _ e => by cases e⟩ (fun _ h => region_any h) 60
end

/-- What may be checked of a loop of acts. -/
structure AL.OK (A : AL) (fx : List Bool) : Prop where
  runs : ∀ k : K, k.run A = true
  is : ((Try.prog.funcs[A.fn]?).bind (·.body)).map (fun c => loopsKey A.key (subs c)) = some [bodyK A.fn A.key]
  fix : ∀ i, A.o + 4 ≤ (A.sh Try.prog.globals.size i).bl.length ∧ ((A.sh Try.prog.globals.size i).bl.take (A.o + 4)).map Blk.fixed = fx ∧ ((A.sh Try.prog.globals.size i).bl.drop (A.o + 4)).all (fun x => !x.fixed) = true
  ups : ∀ i, (A.sh Try.prog.globals.size i).ups 6 4 = true
  good : ∀ l : Bool, ((A.sh Try.prog.globals.size (bif l then 3 else 2)).t.all (fun p => AV.fit (Try.prog.globals.size + (A.sh Try.prog.globals.size (bif l then 3 else 2)).bl.length) p.2) && (A.sh Try.prog.globals.size (bif l then 3 else 2)).bl.all (fun x => x.fixed || Blk.fit (Try.prog.globals.size + (A.sh Try.prog.globals.size (bif l then 3 else 2)).bl.length) x)) = true

def K.caseS (A : AL) (G : Nat) (st : Bool) (k : K) : Case := { k.case A G with to := swap st k.to }

set_option maxRecDepth 1000000
theorem okA : actsA.OK [true, false, false, false] := by
  refine ⟨actsA_runs, isA, fun i => ?_, fun i => ?_, fun l => ?_⟩
  · rcases i with _ | _ | _ | i
    · exact ⟨Nat.le_refl _, rfl, rfl⟩
    · exact ⟨Nat.le_succ _, rfl, rfl⟩
    · exact ⟨Nat.le_refl _, rfl, rfl⟩
    · exact ⟨Nat.le_succ _, rfl, rfl⟩
  · rcases i with _ | _ | _ | i <;> kernel_rfl
  · cases l <;> kernel_rfl
theorem okC : actsC.OK [true, true, true, false, false, false] := by
  refine ⟨actsC_runs, isC, fun i => ?_, fun i => ?_, fun l => ?_⟩
  · rcases i with _ | _ | _ | i
    · exact ⟨Nat.le_refl _, rfl, rfl⟩
    · exact ⟨Nat.le_succ _, rfl, rfl⟩
    · exact ⟨Nat.le_refl _, rfl, rfl⟩
    · exact ⟨Nat.le_succ _, rfl, rfl⟩
  · rcases i with _ | _ | _ | i <;> kernel_rfl
  · cases l <;> kernel_rfl
theorem okB (hm : Bool) : (actsB hm).OK (bif hm then [true, true, false, false, false] else [true, false, false, false]) := by
  refine ⟨actsB_runs hm, isB, fun i => ?_, fun i => ?_, fun l => ?_⟩
  · cases hm <;> rcases i with _ | _ | _ | i
    all_goals first | exact ⟨Nat.le_refl _, rfl, rfl⟩ | exact ⟨Nat.le_succ _, rfl, rfl⟩
  · cases hm <;> rcases i with _ | _ | _ | i <;> kernel_rfl
  · cases hm <;> cases l <;> kernel_rfl

section
variable [F : Facts] [V : Vals]

/-- What is there at first. -/
def base (S : LoopSpec) : Nat → Int := envT (fun i => if i < 6 then (S.f0v i).eval V.env else 0) (fun t r c => (S.g0v t).row V.env r c)
def start (S : LoopSpec) (st : Bool) : Q := ⟨0, (S.f0v 4).eval V.env, (S.f0v 5).eval V.env, fun r c => (S.g0v 33).row V.env r c, fun r c => (S.g0v 34).row V.env r c, st⟩

theorem base_one {S : LoopSpec} {i : Nat} (h : i < 6) : base S i = (S.f0v i).eval V.env := by
  unfold base envT
  rw [if_pos (by omega)]
  exact if_pos h
theorem base_tab {S : LoopSpec} {t r c : Nat} (h1 : 32 ≤ t) (h2 : t < 64) (hc : c < 64) : base S (cellIx t (r : Int) c) = (S.g0v t).row V.env r c := envT_cell h1 h2 hc

theorem acts_proof (A : AL) {fx : List Bool} (hA : A.OK fx) (pn : St → HS → List Nat) (st l : Bool) {N v1 m f n acts R L more f' n' R' L' : SE} (S : LoopSpec) (hS : S = A.spec Try.prog.globals.size pn st l N v1 m f n acts R L more f' n' R' L')
    (hm : ∀ j, In64 (base S j)) (hinv : (start S st).Inv (actsOf (base S))) (qF : Q) (hF : Q.iter (actsOf (base S)) (m.eval V.env).toNat (start S st) = qF) (hl : qF.l = l) (hf : f'.eval V.env = qF.f) (hn : n'.eval V.env = qF.n)
    (hR : ∀ r c : Nat, c < 64 → R'.row V.env r c = qF.R r c) (hL : ∀ r c : Nat, c < 64 → L'.row V.env r c = qF.L r c) : LoopProof Try.prog [] S := by
  have hf0 : ∀ i, S.f0v i = (([N, v1, m, .lit 0, f, n] : List SE)[i]?).getD (.var i) := fun i => by rw [hS]; rfl
  have hg0 : ∀ a, S.g0v a = (([acts, R, L, more] : List SE)[a - 32]?).getD (.tab a) := fun a => by rw [hS]; rfl
  have hA2 : (actsOf (base S)).A = m.eval V.env := by show base S 2 = _; rw [base_one (by decide), hf0]; rfl
  have e2 : base S 2 = m.eval V.env := hA2
  have hj0 : (start S st).j = 0 := rfl
  have hfn : S.fn = A.fn := by rw [hS]; rfl
  have hkey : S.key = A.key := by rw [hS]; rfl
  have hnt : S.nt = A.nt := by rw [hS]; rfl
  have hstay : S.stay = A.o + 4 := by rw [hS]; rfl
  have hsh : ∀ i, S.shapes i = A.sh Try.prog.globals.size (swap st i) := fun i => by rw [hS]; rfl
  refine spec_proof2 (N := 1000000000) (fuel := 100000) (fx := fx) S (b0 := bodyK A.fn A.key) (fun p hp => by cases hp) (by rw [hfn, hkey]; exact hA.is) (fun i => by rw [hsh, hstay]; exact hA.fix _) ?_ (σ := Q) (encQ (base S)) 6 4 (by decide) (fun i => by rw [hsh]; exact hA.ups _) (by rw [hS]; exact Nat.le_of_ble_eq_true rfl) (by rw [hS]; exact Nat.le_of_ble_eq_true rfl)
    (I := fun μ i q => i = swap st (bif q.l then 1 else 0) ∧ q.Inv (actsOf (base S)) ∧ μ = (m.eval V.env - q.j).toNat ∧ Q.iter (actsOf (base S)) (m.eval V.env - q.j).toNat q = qF)
    (Post := fun e j q => e = .exit A.ex ∧ j = (bif l then 3 else 2) ∧ q = qF ∧ q.j = m.eval V.env)
    (fun B μ i q hI => ?_) (m.eval V.env).toNat (start S st) ⟨?_, hinv, by rw [hj0, Int.sub_zero], by rw [hj0, Int.sub_zero]; exact hF⟩ (enc_mid hm hinv) ⟨fun i hi => ?_, fun a r c k1 k2 k3 => ?_⟩ (fun e j q hp => ?_)
  · have := hA.good l
    unfold LoopSpec.good
    have e : swap st (bif l then 3 else 2) = (bif l then 3 else 2) := by cases st <;> cases l <;> rfl
    rw [hS]
    simp only [AL.spec, List.all_cons, List.all_nil, Bool.and_true, e]
    exact this
  · obtain ⟨rfl, h1, h2, h3⟩ := hI
    have hj := h1.j
    have hm' : ∀ j, In64 (encQ (base S) q j) := enc_mid hm h1
    have hlen1 : ∀ k : K, (k.caseS A Try.prog.globals.size st).f.length ≤ 6 := fun k => by cases k <;> exact Nat.le_of_ble_eq_true rfl
    have hlen2 : ∀ k : K, (k.caseS A Try.prog.globals.size st).g.length ≤ 4 := fun k => by cases k <;> exact Nat.le_of_ble_eq_true rfl
    have hrun : ∀ k : K, k.from = (bif q.l then 1 else 0) → ((@code ⟨(k.caseS A Try.prog.globals.size st).pc⟩ Try.prog k.lo (callL ⟨k.pc⟩ k.lo) none S.fn 100000 (bodyK A.fn A.key) ⟨tmps (S.shapes (swap st (bif q.l then 1 else 0))).t, S.nt, []⟩ ((S.shapes (swap st (bif q.l then 1 else 0))).heap Try.prog.globals.size [])).every 1000000000
        (@Case.chk ⟨(k.caseS A Try.prog.globals.size st).pc⟩ Try.prog.globals.size S.nt S.stay (S.shapes (k.caseS A Try.prog.globals.size st).to) (k.caseS A Try.prog.globals.size st))) = true := fun k hk => by
      have := hA.runs k
      unfold K.run at this
      rw [hsh, hsh, hfn, hnt, hstay, swap_swap, ← hk]
      show _ = true
      rw [show swap st (k.caseS A Try.prog.globals.size st).to = k.to from swap_swap st k.to]
      exact this
    by_cases hlt : q.j < m.eval V.env
    · have hlt' : q.j < base S 2 := by rw [e2]; exact hlt
      have hw := way_next A Try.prog.globals.size h1 hlt'
      have hsi := Q.step_inv h1 hlt'
      refine ⟨(q.way (actsOf (base S))).caseS A Try.prog.globals.size st, q.step (actsOf (base S)), (q.way (actsOf (base S))).lo, callL ⟨(q.way (actsOf (base S))).pc⟩ (q.way (actsOf (base S))).lo, way_rnd h1 _ hw.rem hw.remN B, hrun _ hw.frm, way_facts h1, hlen1 _, hlen2 _, enc_mid hm hsi, hw.next, .inl ⟨?_, (m.eval V.env - (q.step (actsOf (base S))).j).toNat, ?_, ?_, hsi, rfl, ?_⟩⟩
      · show (bif (q.way (actsOf (base S))).ends then _ else _) = _
        rw [hw.ends]; rfl
      · rw [Q.step_j]; omega
      · show swap st (q.way (actsOf (base S))).to = _
        rw [hw.to]
      · rw [Q.step_j, ← h3]
        rw [show (m.eval V.env - q.j).toNat = (m.eval V.env - (q.j + 1)).toNat + 1 by omega]
        rfl
    · have hjm : q.j = m.eval V.env := by rw [hA2] at hj; omega
      have hq : q = qF := by
        rw [← h3, show (m.eval V.env - q.j).toNat = 0 by omega]; rfl
      have hway : q.way (actsOf (base S)) = bif q.l then .done else .nEnd := by
        unfold Q.way
        rw [if_neg (by rw [hA2]; omega)]
      have hfr : (q.way (actsOf (base S))).from = bif q.l then 1 else 0 := by
        rw [hway]; cases q.l <;> rfl
      have hr1 : q.way (actsOf (base S)) ≠ .rem := by rw [hway]; cases q.l <;> simp
      have hr2 : q.way (actsOf (base S)) ≠ .remN := by rw [hway]; cases q.l <;> simp
      refine ⟨(q.way (actsOf (base S))).caseS A Try.prog.globals.size st, q, (q.way (actsOf (base S))).lo, callL ⟨(q.way (actsOf (base S))).pc⟩ (q.way (actsOf (base S))).lo, way_rnd h1 _ (fun h => absurd h hr1) (fun h => absurd h hr2) B, hrun _ hfr, way_facts h1, hlen1 _, hlen2 _, hm', ?_, .inr ⟨?_, ?_, ?_, hq, hjm⟩⟩
      · rw [hway]
        cases q.l <;> exact agree_of (A := A) (G := Try.prog.globals.size) rfl rfl rfl rfl rfl (fun r c hc => rowR r c hc) (fun r c hc => rowL r c hc)
      · rw [hway]
        cases q.l <;> simp [K.caseS, K.case, K.ends]
      · rw [hway]
        cases q.l <;> rfl
      · rw [hway, ← hl, ← hq]
        cases q.l <;> cases st <;> rfl
  · show 0 = swap st (bif st then 1 else 0)
    cases st <;> rfl
  · rw [intoEnv_one (by omega), ← base_one hi]
    rcases i with _ | _ | _ | _ | _ | _ | i
    · rfl
    · rfl
    · rfl
    · rw [base_one (by decide), hf0]; rfl
    · rw [base_one (by decide)]; rfl
    · rw [base_one (by decide)]; rfl
    · omega
  · rw [intoEnv_cell k1 (by omega) k3, encT k1 (by omega) k3]
    rcases (show a = 32 ∨ a = 33 ∨ a = 34 ∨ a = 35 by omega) with rfl | rfl | rfl | rfl
    · exact (base_tab (by decide) (by decide) k3).symm
    · rfl
    · rfl
    · exact (base_tab (by decide) (by decide) k3).symm
  · obtain ⟨rfl, rfl, rfl, h4⟩ := hp
    refine ⟨0, ⟨.exit A.ex, bif l then 3 else 2, [N, v1, m, m, f', n'], [acts, R', L', more]⟩, by rw [hS]; rfl, rfl, rfl, Nat.le_of_ble_eq_true rfl, Nat.le_of_ble_eq_true rfl, ⟨fun i hi => ?_, fun a r c k1 k2 k3 => ?_⟩⟩
    · rw [intoEnv_one (by omega)]
      rcases i with _ | _ | _ | _ | _ | _ | i
      · show base S 0 = _
        rw [base_one (by decide), hf0]; rfl
      · show base S 1 = _
        rw [base_one (by decide), hf0]; rfl
      · show base S 2 = _
        rw [base_one (by decide), hf0]; rfl
      · exact h4
      · exact hf.symm
      · exact hn.symm
      · omega
    · rw [intoEnv_cell k1 (by omega) k3, encT k1 (by omega) k3]
      rcases (show a = 32 ∨ a = 33 ∨ a = 34 ∨ a = 35 by omega) with rfl | rfl | rfl | rfl
      · show base S (cellIx 32 (r : Int) c) = _
        rw [base_tab (by decide) (by decide) k3, hg0]; rfl
      · rw [if_pos rfl]
        exact (hR r c k3).symm
      · rw [if_neg (by decide), if_pos rfl]
        exact (hL r c k3).symm
      · show base S (cellIx 35 (r : Int) c) = _
        rw [base_tab (by decide) (by decide) k3, hg0]; rfl
end
end
end Go.Proofs.Ytlbehjagidopkaa.rings
