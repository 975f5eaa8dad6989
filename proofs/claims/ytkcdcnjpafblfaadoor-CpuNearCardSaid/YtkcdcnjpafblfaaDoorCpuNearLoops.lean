/- The loops that the law 'CpuNear' comes by, as they stand at their heads, and what their rounds have in common. No conditions. -/
import Derived.Test.YtkcdcnjpafblfaaDoorAbsE
open Go
namespace Go.Proofs.YtkcdcnjpafblfaaDoor.cpuNear.loops
noncomputable section
open Go.Abs

def I (n : Int) : AV := .val (.int .i64 n)
def X (i : Nat) : AV := .sx .i64 (.var i)
def row (l : List AV) : Blk := .cells (Tr.fill l 0 .lf) l.length none
def pSl (G : Nat) : AV := .ss G 4 (.lit 0) (.var 0)
def pTab : Blk := .arr [.i .i64, .i .i64, .i .i64, .i .i64] (.tab 32) (.var 0) true
def pcLen : List (SB × Bool) := [(.le (.lit 0) (.var 0), true), (.le (.var 0) (.lit 80), true)]

def SE.avoid (p : Nat → Bool) : SE → Bool
  | .lit _ => true
  | .var i => p i
  | .add a b | .sub a b | .mul a b | .quo a b | .rem a b => avoid p a && avoid p b
  | .wr _ a => avoid p a
  | .sel A r _ => avoid p A && avoid p r
  | .upd A r _ e => avoid p A && (avoid p r && avoid p e)
  | .const e => avoid p e
  | .tab a => Nat.ble 32 a && Nat.blt a 64
  | _ => false
def beqAt (l : List SE) (i : Nat) (e : SE) : Bool := match l[i]? with
  | some x => x.beq e
  | none => false

/-- slices.IndexFunc over a program, with isa.Whole's own function: 0 how many, 1 which. -/
def moreIdx (_ : Facts) (c : Case) : Bool := match c.e with
  | .normal => beqAt c.f 1 (.add (.var 1) (.lit 1))
  | .exit i => Nat.beq i 0
  | .ret => beqAt c.f 1 (.var 1)
def idxBl (G : Nat) : List Blk := [pTab, row [pSl G]]
def idx (G : Nat) (T : Tree) : AutoLoop where
  fn := 36
  key := 3
  nt := 19
  kv := 32
  still := 1
  top := 2
  head := ⟨[(0, pSl G), (1, .fn (.func 28) [] [.ptr (G + 1) 0]), (7, X 0), (8, X 1)], idxBl G⟩
  ends := ⟨[], idxBl G⟩
  rets := ⟨[(4, X 1)], idxBl G⟩
  pc := pcLen ++ [(.le (.lit 0) (.var 1), true), (.le (.var 1) (.var 0), true), (.le (.var 1) (.lit 80), true)]
  meas := .sub (.var 0) (.var 1)
  more := moreIdx
  tree := T

def zeros (i : Nat) : Nat → List SE
  | 0 => []
  | n + 1 => .lit 0 :: zeros i n
def ssOf : Option AV → List Nat
  | some (.ss b _ _ _) => [b]
  | _ => []
def capOf : Option AV → List Nat
  | some (.fn _ _ [.ptr b 0]) => [b]
  | _ => []
/-- What is known of it: whether it finds one, and which (number 20). -/
def idxSpec (G : Nat) (T : Tree) (wh : Bool) : LoopSpec where
  fn := 36
  key := 3
  nt := 19
  shapes := (idx G T).shapes
  f0 := .var 0 :: zeros 0 31
  g0 := []
  names := fun st _ => ssOf (st.t.get 0) ++ capOf (st.t.get 1)
  outs := [bif wh then ⟨.exit 0, 1, [.var 0, .var 20] ++ zeros 0 30, []⟩ else ⟨.ret, 2, [.var 0, .var 20] ++ zeros 0 30, []⟩]

/-- wherryref12.Whole: 0 how many, 1 which. -/
def whole (G : Nat) (T : Tree) : AutoLoop where
  fn := 10
  key := 5
  nt := 17
  kv := 32
  still := 1
  top := 2
  head := ⟨[(0, pSl G), (8, X 0), (9, X 1)], [pTab]⟩
  ends := ⟨[], [pTab]⟩
  rets := ⟨[(2, .val (.bool false))], [pTab]⟩
  pc := pcLen ++ [(.le (.lit 0) (.var 1), true), (.le (.var 1) (.var 0), true), (.le (.var 1) (.lit 80), true)]
  meas := .sub (.var 0) (.var 1)
  more := moreIdx
  tree := T

/-- cpu.Run: 0 how many instructions, 1 how many steps at most, 2 which step, 3 to 13 the context, 14 to 17 the call, 18 how many steps were done. -/
def runBl (G : Nat) (o k : List AV) : List Blk := [pTab, row [X 3, X 4, X 5, X 6, X 7, X 8, X 9, X 10, X 11, X 12, X 13], row o, row k]
/-- Neither how many steps at most, nor which it is. -/
def ctxOnly (i : Nat) : Bool := !(Nat.beq i 1) && (!(Nat.beq i 2) && !(Nat.beq i 18))
def ctxAll : Nat → List SE → Bool
  | _, [] => true
  | i, e :: l => (!(ctxOnly i) || SE.avoid ctxOnly e) && ctxAll (i + 1) l
def moreRun (F : Facts) (c : Case) : Bool := match c.e with
  | .normal => beqAt c.f 2 (.add (.var 2) (.lit 1)) && ctxAll 0 c.f
  | .exit i => Nat.beq i 0 && (AutoLoop.stays 19 0 c.f && @yesS F (mkLe (.add (.var 1) (.lit 1)) (.var 2)))
  | .ret => beqAt c.f 18 (.var 2) && (ctxAll 0 c.f && (match c.f[14]? with
    | some e => @yesS F (mkLe (.lit 1) e) && @yesS F (mkLe (.var 2) (.var 1))
    | none => false))
def z11 : List AV := [I 0, I 0, I 0, I 0, I 0, I 0, I 0, I 0, I 0, I 0, I 0]
def run (G : Nat) (wh : Bool) (T : Tree) : AutoLoop where
  fn := 9
  key := 3
  nt := 32
  kv := 19
  still := 2
  top := 19
  head := ⟨[(0, pSl G), (2, X 1), (4, .ptr (G + 1) 0), (6, .ptr (G + 2) 0), (7, .ptr (G + 3) 0), (9, X 2)], runBl G z11 [I 0, I 0, I 0, I 0]⟩
  ends := ⟨[(0, pSl G), (2, X 1), (4, .ptr (G + 1) 0), (6, .ptr (G + 2) 0), (7, .ptr (G + 3) 0)], runBl G z11 [I 0, I 0, I 0, I 0]⟩
  rets := ⟨[(6, .ptr (G + 2) 0), (7, .ptr (G + 3) 0), (8, X 18)], runBl G [X 3, X 4, X 5, X 6, X 7, X 8, X 9, X 10, X 11, X 12, X 13] [X 14, X 15, X 16, X 17]⟩
  pc := pcLen ++ [(.le (.var 1) (.lit 1000), true), (.le (.lit 1) (.var 2), true), (.le (.var 2) (.add (.var 1) (.lit 1)), true), (.le (.var 2) (.lit 1001), true)] ++ bif wh then [] else [(.le (.lit 0) (.var 20), true)]
  meas := .sub (.add (.var 1) (.lit 1)) (.var 2)
  more := moreRun
  tree := T

theorem avoid_ok {p : Nat → Bool} {env env' : Nat → Int} (h : ∀ i, p i = true → env i = env' i) (hp : ∀ i, 32 ≤ i → p i = true) : ∀ e : SE, SE.avoid p e = true → e.eval env = e.eval env' ∧ ∀ r c, e.row env r c = e.row env' r c := by
  intro e
  induction e with
  | lit n => intro _; exact ⟨rfl, fun _ _ => rfl⟩
  | var i => intro he; exact ⟨h i he, fun _ _ => rfl⟩
  | add a b iha ihb | sub a b iha ihb | mul a b iha ihb | quo a b iha ihb | rem a b iha ihb =>
    intro he
    simp only [SE.avoid, Bool.and_eq_true] at he
    exact ⟨by simp only [SE.eval, (iha he.1).1, (ihb he.2).1], fun _ _ => rfl⟩
  | wr k a ih =>
    intro he
    simp only [SE.avoid] at he
    exact ⟨by simp only [SE.eval, (ih he).1], fun _ _ => rfl⟩
  | sel A r c ihA ihr =>
    intro he
    simp only [SE.avoid, Bool.and_eq_true] at he
    exact ⟨by simp only [SE.eval, (ihr he.2).1, (ihA he.1).2], fun _ _ => rfl⟩
  | tab a =>
    intro he
    simp only [SE.avoid, Bool.and_eq_true] at he
    refine ⟨rfl, fun r c => h _ (hp _ ?_)⟩
    have := Nat.le_of_ble_eq_true he.1
    unfold cellIx
    omega
  | upd A i j e ihA ihi ihe =>
    intro he
    simp only [SE.avoid, Bool.and_eq_true] at he
    refine ⟨rfl, fun r c => ?_⟩
    show (if r = i.eval env ∧ c = j then e.eval env else A.row env r c) = (if r = i.eval env' ∧ c = j then e.eval env' else A.row env' r c)
    rw [(ihi he.2.1).1, (ihe he.2.2).1, (ihA he.1).2]
  | const e ih =>
    intro he
    simp only [SE.avoid] at he
    exact ⟨rfl, fun _ _ => (ih he).1⟩
  | _ => intro he; cases he

def sbAvoid (p : Nat → Bool) : SB → Bool
  | .le a b => SE.avoid p a && SE.avoid p b
  | .eq a b => SE.avoid p a && SE.avoid p b
def treeAvoid (p : Nat → Bool) : Tree → Bool
  | .leaf => true
  | .node b y n => sbAvoid p b && (treeAvoid p y && treeAvoid p n)

theorem sbAvoid_ok {p : Nat → Bool} {env env' : Nat → Int} (h : ∀ i, p i = true → env i = env' i) (hp : ∀ i, 32 ≤ i → p i = true) {b : SB} (hb : sbAvoid p b = true) : b.eval env = b.eval env' := by
  cases b <;> simp only [sbAvoid, Bool.and_eq_true] at hb <;> simp only [SB.eval, (avoid_ok h hp _ hb.1).1, (avoid_ok h hp _ hb.2).1]

theorem path_same {p : Nat → Bool} {env env' : Nat → Int} (h : ∀ i, p i = true → env i = env' i) (hp : ∀ i, 32 ≤ i → p i = true) : ∀ (T : Tree) (pc : List (SB × Bool)), treeAvoid p T = true → T.path env pc = T.path env' pc := by
  intro T
  induction T with
  | leaf => intro pc _; rfl
  | node b y n ihy ihn =>
    intro pc hT
    simp only [treeAvoid, Bool.and_eq_true] at hT
    unfold Tree.path
    rw [sbAvoid_ok h hp hT.1]
    cases b.eval env'
    · exact ihn _ hT.2.2
    · exact ihy _ hT.2.1

theorem ctxOnly_far : ∀ i, 32 ≤ i → ctxOnly i = true := by
  intro i h
  unfold ctxOnly
  simp only [nbeq, Bool.and_eq_true, Bool.not_eq_true', decide_eq_false_iff_not]
  omega
theorem ctxOnly_iff {i : Nat} : ctxOnly i = true ↔ i ≠ 1 ∧ i ≠ 2 ∧ i ≠ 18 := by
  unfold ctxOnly
  simp only [nbeq, Bool.and_eq_true, Bool.not_eq_true', decide_eq_false_iff_not, ne_eq]

theorem ctxAll_ok : ∀ {l : List SE} {i j : Nat} {e : SE}, ctxAll i l = true → l[j]? = some e → ctxOnly (i + j) = true → SE.avoid ctxOnly e = true := by
  intro l
  induction l with
  | nil => intro i j e _ h; simp at h
  | cons x l ih =>
    intro i j e h hj hc
    simp only [ctxAll, Bool.and_eq_true, Bool.or_eq_true, Bool.not_eq_true'] at h
    cases j with
    | zero =>
      simp only [List.getElem?_cons_zero, Option.some.injEq] at hj
      subst hj
      rcases h.1 with h1 | h1
      · rw [Nat.add_zero] at hc; rw [hc] at h1; cases h1
      · exact h1
    | succ j =>
      rw [List.getElem?_cons_succ] at hj
      exact ih h.2 hj (by rw [show i + 1 + j = i + (j + 1) by omega]; exact hc)

theorem beqAt_ok {l : List SE} {i : Nat} {e : SE} (h : beqAt l i e = true) : l[i]? = some e := by
  unfold beqAt at h
  split at h
  · rename_i x hx
    rw [hx, SE.beq_eq h]
  · cases h

/-- Alike but for how many steps there may be, and which it is. -/
def Alike (env env' : Nat → Int) : Prop := ∀ i, ctxOnly i = true → env i = env' i

structure RunTree (G N : Nat) (wh : Bool) (Y : Tree) (R : List (SB × Bool) → R (Ex × St)) : Prop where
  chk : (Tree.node (.le (.var 2) (.var 1)) Y .leaf).check ((run G wh .leaf).leaf G N R) (run G wh .leaf).pc = true
  av : treeAvoid ctxOnly Y = true
  fine : (run G wh .leaf).fine () = true

section
variable {G N : Nat} {wh : Bool} {Y : Tree} {R : List (SB × Bool) → R (Ex × St)}

def runA (G : Nat) (wh : Bool) (Y : Tree) : AutoLoop := run G wh (.node (.le (.var 2) (.var 1)) Y .leaf)

theorem RunTree.chk' (h : RunTree G N wh Y R) : (runA G wh Y).tree.check ((runA G wh Y).leaf G N R) (runA G wh Y).pc = true := h.chk

def Base (wh : Bool) (env : Nat → Int) : Prop := (∀ j, In64 (env j)) ∧ ∀ p ∈ (run 0 wh .leaf).pc, p.1.eval env = p.2

/-- A step of one is one of the other. -/
theorem step_same {env env' : Nat → Int} (h : Alike env env') (hn : env 2 ≤ env 1) (hn' : env' 2 ≤ env' 1) (hav : treeAvoid ctxOnly Y = true) :
    (runA G wh Y).step G N R env = (runA G wh Y).step G N R env' := by
  have e : (runA G wh Y).tree.path env (runA G wh Y).pc = (runA G wh Y).tree.path env' (runA G wh Y).pc := by
    show (Tree.node (.le (.var 2) (.var 1)) Y .leaf).path env _ = (Tree.node (.le (.var 2) (.var 1)) Y .leaf).path env' _
    unfold Tree.path
    rw [show (SB.le (.var 2) (.var 1)).eval env = true from decide_eq_true hn, show (SB.le (.var 2) (.var 1)).eval env' = true from decide_eq_true hn']
    exact path_same h ctxOnly_far Y _ hav
  unfold AutoLoop.step
  rw [e]

theorem next_at {c : Case} {env : Nat → Int} {j : Nat} (hj : j % 64 < 32) {e : SE} (h : c.f[j]? = some e) : c.next env j = e.eval env := by
  unfold Case.next intoEnv
  rw [if_pos hj]
  unfold Case.fv
  rw [h]; rfl

/-- What a step makes of two that are alike is alike. -/
theorem next_alike {c : Case} {env env' : Nat → Int} (hf : c.f.length = 19) (hg : c.g = []) (hc : ctxAll 0 c.f = true) (h : Alike env env') : Alike (c.next env) (c.next env') := by
  intro i hi
  by_cases hl : i < 19
  · obtain ⟨e, he⟩ : ∃ e, c.f[i]? = some e := ⟨_, List.getElem?_eq_getElem (by omega)⟩
    rw [next_at (by omega) he, next_at (by omega) he]
    exact (avoid_ok h ctxOnly_far e (ctxAll_ok hc he (by rw [Nat.zero_add]; exact hi))).1
  · rw [next_keep hf hg (by omega), next_keep hf hg (by omega)]
    exact h i hi

theorem base_n {env : Nat → Int} (h : Base wh env) : 0 ≤ env 0 ∧ env 0 ≤ 80 ∧ env 1 ≤ 1000 ∧ 1 ≤ env 2 ∧ env 2 ≤ env 1 + 1 := by
  have h := h.2
  have p1 := h (.le (.lit 0) (.var 0), true) (by simp [run, pcLen])
  have p2 := h (.le (.var 0) (.lit 80), true) (by simp [run, pcLen])
  have p3 := h (.le (.var 1) (.lit 1000), true) (by simp [run, pcLen])
  have p4 := h (.le (.lit 1) (.var 2), true) (by simp [run, pcLen])
  have p5 := h (.le (.var 2) (.add (.var 1) (.lit 1)), true) (by simp [run, pcLen])
  exact ⟨of_decide_eq_true p1, of_decide_eq_true p2, of_decide_eq_true p3, of_decide_eq_true p4, of_decide_eq_true p5⟩

/-- One step, as the tree tells it. -/
theorem run_step (h : RunTree G N wh Y R) {env : Nat → Int} (hb : Base wh env) : ∃ c, (runA G wh Y).step G N R env = some c ∧ c.f.length = 19 ∧ c.g = [] ∧ (∀ j, In64 (c.next env j)) ∧
    (c.e = .normal → Base wh (c.next env) ∧ c.f[2]? = some (.add (.var 2) (.lit 1)) ∧ ctxAll 0 c.f = true ∧ c.next env 1 = env 1 ∧ env 2 ≤ env 1) ∧
    (∀ i, c.e = .exit i → i = 0 ∧ (∀ j, c.next env j = env j) ∧ env 1 < env 2) ∧
    (c.e = .ret → c.f[18]? = some (.var 2) ∧ ctxAll 0 c.f = true ∧ 1 ≤ c.next env 14 ∧ c.next env 1 = env 1 ∧ env 2 ≤ env 1) := by
  obtain ⟨c, h1, h2, h3, h4, h5, h6, h7⟩ := auto_step (runA G wh Y) h.fine h.chk' hb.1 hb.2
  obtain ⟨k1, k2, k3, k4, k5⟩ := autoCase_ok h2
  have k2 : c.f.length = 19 := k2
  have h1' : c.next env 1 = env 1 := h6 1 (fun hh => by have : (2 : Nat) ≤ 1 := hh.1; omega)
  have h7 : moreRun ⟨c.pc⟩ c = true := h7
  unfold moreRun at h7
  refine ⟨c, h1, k2, k3, h4, fun he => ?_, fun i he => ?_, fun he => ?_⟩
  · rw [he] at h7
    simp only [Bool.and_eq_true] at h7
    obtain ⟨g1, g2, g3⟩ := h5 he
    have g3 : (SE.sub (.add (.var 1) (.lit 1)) (.var 2)).eval (c.next env) + 1 ≤ (SE.sub (.add (.var 1) (.lit 1)) (.var 2)).eval env := g3
    have b := beqAt_ok h7.1
    refine ⟨⟨h4, g1⟩, b, h7.2, h1', ?_⟩
    by_cases hn : env 2 ≤ env 1
    · exact hn
    · exfalso
      have hb' := base_n (wh := wh) ⟨h4, g1⟩
      have e2 : c.next env 2 = env 2 + 1 := next_at (by omega) b
      omega
  · rw [he] at h7
    simp only [Bool.and_eq_true] at h7
    refine ⟨natBeq h7.1, fun j => ?_, ?_⟩
    rotate_left
    · have := @yesLe ⟨c.pc⟩ (@Vals.mk ⟨c.pc⟩ env h3 hb.1) _ _ h7.2.2
      have : env 1 + 1 ≤ env 2 := this
      omega
    by_cases hj : j < 19
    · have hs := stays_ok h7.2.1 j hj
      rw [Nat.zero_add] at hs
      exact next_at (by omega) hs
    · exact next_keep k2 k3 (by omega)
  · rw [he] at h7
    simp only [Bool.and_eq_true] at h7
    have h8 := h7.2.2
    split at h8
    · rename_i e hx
      simp only [Bool.and_eq_true] at h8
      have g1 := @yesLe ⟨c.pc⟩ (@Vals.mk ⟨c.pc⟩ env h3 hb.1) _ _ h8.1
      have g2 := @yesLe ⟨c.pc⟩ (@Vals.mk ⟨c.pc⟩ env h3 hb.1) _ _ h8.2
      refine ⟨beqAt_ok h7.1, h7.2.1, ?_, h1', g2⟩
      rw [next_at (by omega) hx]
      exact g1
    · cases h8

/-- Whatever one run comes to, one with as much room or more comes to, or comes by. -/
theorem run_rel (h : RunTree G N wh Y R) : ∀ (μ : Nat) (env env' : Nat → Int) (δ : Int) (e : Ex) (env1 : Nat → Int), Base wh env → Base wh env' → Alike env env' → env' 2 = env 2 + δ → env 1 - env 2 ≤ env' 1 - env' 2 → (runA G wh Y).iter G N R μ env = some (e, env1) →
    (e = .ret ∧ 1 ≤ env1 14 ∧ 1 ≤ env1 18 ∧ env1 18 ≤ env 1 ∧ ∃ env1', (runA G wh Y).iter G N R μ env' = some (.ret, env1') ∧ Alike env1 env1' ∧ env1' 18 = env1 18 + δ ∧ env1' 1 = env' 1) ∨
    (e = .exit 0 ∧ env1 1 = env 1 ∧ env1 2 = env 1 + 1 ∧ ∃ env2' n, Alike env1 env2' ∧ Base wh env2' ∧ env2' 1 = env' 1 ∧ env2' 2 = env1 2 + δ ∧ ∀ k, (runA G wh Y).iter G N R (n + k) env' = (runA G wh Y).iter G N R k env2') := by
  intro μ
  induction μ with
  | zero => intro env env' δ e env1 _ _ _ _ _ hi; cases hi
  | succ μ ih =>
    intro env env' δ e env1 hb hb' ha h2 hgap hi
    obtain ⟨c, q1, q2, q3, q4, q5, q6, q7⟩ := run_step h hb
    have bn := base_n hb
    have bn' := base_n hb'
    rw [AutoLoop.iter, q1] at hi
    dsimp only at hi
    cases he : c.e with
    | normal =>
      rw [he] at hi
      obtain ⟨p1, p2, p3, p4, p5⟩ := q5 he
      have hs := step_same (G := G) (N := N) (wh := wh) (R := R) ha p5 (by omega) h.av
      rw [q1] at hs
      obtain ⟨c', r1, _, _, _, r5, _, _⟩ := run_step h hb'
      rw [← hs] at r1
      cases r1
      obtain ⟨s1, _, _, s4, _⟩ := r5 he
      have e2 : c.next env 2 = env 2 + 1 := next_at (by omega) p2
      have e2' : c.next env' 2 = env' 2 + 1 := next_at (by omega) p2
      rcases ih (c.next env) (c.next env') δ e env1 p1 s1 (next_alike q2 q3 p3 ha) (by omega) (by omega) hi with ⟨t1, t2, t2a, t2b, env1', t3, t4, t5, t6⟩ | ⟨t1, t2, t3, env2', n, t4, t5, t6, t7, t8⟩
      · refine .inl ⟨t1, t2, t2a, by omega, env1', ?_, t4, t5, by omega⟩
        rw [AutoLoop.iter, ← hs]
        simp only [he]
        exact t3
      · refine .inr ⟨t1, by omega, by omega, env2', n + 1, t4, t5, by omega, t7, fun k => ?_⟩
        rw [show n + 1 + k = (n + k) + 1 by omega, AutoLoop.iter, ← hs]
        simp only [he]
        exact t8 k
    | exit i =>
      rw [he] at hi
      cases hi
      obtain ⟨rfl, p2, hgt⟩ := q6 i he
      refine .inr ⟨rfl, p2 1, by rw [p2 2]; omega, env', 0, fun i hi => by rw [p2 i]; exact ha i hi, hb', rfl, by rw [p2 2]; exact h2, fun k => by rw [Nat.zero_add]⟩
    | ret =>
      rw [he] at hi
      cases hi
      obtain ⟨p1, p2, p3, p4, hle⟩ := q7 he
      have hs := step_same (G := G) (N := N) (wh := wh) (R := R) ha hle (by omega) h.av
      rw [q1] at hs
      have e18 : c.next env 18 = env 2 := next_at (by omega) p1
      have e18' : c.next env' 18 = env' 2 := next_at (by omega) p1
      refine .inl ⟨rfl, p3, by omega, by omega, c.next env', ?_, next_alike q2 q3 p2 ha, by omega, ?_⟩
      · rw [AutoLoop.iter, ← hs]
        simp only [he]
      · obtain ⟨c', r1, _, _, _, _, _, r7⟩ := run_step h hb'
        rw [← hs] at r1
        cases r1
        exact (r7 he).2.2.2.1
end

def moreWhole (F : Facts) (c : Case) : Bool := match c.e with
  | .normal => beqAt c.f 1 (.add (.var 1) (.lit 1))
  | .exit i => Nat.beq i 0 && @yesS F (mkLe (.var 0) (.var 1))
  | .ret => beqAt c.f 1 (.var 1)
def wholeN (G : Nat) (T : Tree) : AutoLoop where
  fn := 10
  key := 5
  nt := 17
  kv := 32
  still := 1
  top := 2
  head := ⟨[(0, pSl G), (8, X 0), (9, X 1)], [pTab]⟩
  ends := ⟨[], [pTab]⟩
  rets := ⟨[(2, .val (.bool false))], [pTab]⟩
  pc := pcLen ++ [(.le (.lit 0) (.var 1), true), (.le (.var 1) (.var 0), true), (.le (.var 1) (.lit 80), true)]
  meas := .sub (.var 0) (.var 1)
  more := moreWhole
  tree := T
/-- What is known of it: whether all are good; number 21 is where it ends. -/
def wholeSpec (G : Nat) (ok : Bool) : LoopSpec where
  fn := 10
  key := 5
  nt := 17
  shapes := (wholeN G .leaf).shapes
  f0 := .var 0 :: zeros 0 31
  g0 := []
  names := fun st _ => ssOf (st.t.get 0)
  outs := [bif ok then ⟨.exit 0, 1, [.var 0, .var 21] ++ zeros 0 30, []⟩ else ⟨.ret, 2, [.var 0, .var 21] ++ zeros 0 30, []⟩]
/-- The context, its place being number 1. -/
def argsC : List AV := [.agg [X 3, X 1, X 5, X 6, X 7, X 8, X 9, X 10, X 11, X 12, X 13]]
def extraN : List (SB × Bool) := [(.le (.var 0) (.lit 64), true), (.le (.var 13) (.lit 9223372036854775807), true), (.le (.lit (-9223372036854775808)) (.var 13), true)]
/-- The operation that facts tell. -/
def opOf : List (SB × Bool) → Nat
  | [] => 0
  | (.eq (.sel (.tab 32) (.var 1) 0) (.lit n), true) :: _ => n.toNat
  | _ :: l => opOf l
def rowOnly (i : Nat) : Bool := Nat.blt i 2 || Nat.ble 32 i
end
end Go.Proofs.YtkcdcnjpafblfaaDoor.cpuNear.loops
