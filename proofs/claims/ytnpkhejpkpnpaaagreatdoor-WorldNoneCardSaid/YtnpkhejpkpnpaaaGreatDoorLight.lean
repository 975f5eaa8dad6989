/- What 'light' comes to on a slice of one act, whatever its list of programs is: some answer, nothing written; by an induction over the loop's rounds, each a run that Lean's kernel carries out. Then the law's own run by it. Conditions: those of the law's arguments. -/
import Derived.Test.YtnpkhejpkpnpaaaGreatDoorProg
import Derived.Test.YtnpkhejpkpnpaaaGreatDoorRows
import Derived.KernelRfl
import Derived.Test.YtnpkhejpkpnpaaaGreatDoorAbsD
import Derived.Test.YtnpkhejpkpnpaaaGreatDoorLives
open Go
namespace Go.Proofs.YtnpkhejpkpnpaaaGreatDoor.worldNone
noncomputable section
open Go.Abs

noncomputable def G : Nat := Tryz.prog.globals.size
def I (n : Int) : AV := .val (.int .i64 n)
def V3 : AV := .sx .i64 (.var 3)
noncomputable def aSS : AV := .ss G 1 (.lit 0) (.var 3)
def tabB : Blk := .arr [.s] (.tab 32) (.var 3) true
def addB (s : HS) (x : Blk) : HS := { s with h := s.h.set s.n (s.clk, x), n := s.n + 1 }
noncomputable def s0 : HS := addB (startL G []) tabB
noncomputable def keep : List (Nat × AV) := [(31, aSS), (32, V3), (16, I 1), (17, I 0)]
noncomputable def t0 : Env := ((((Tr.lf.set 31 aSS).set 32 V3).set 16 (I 1)).set 17 (I 0)).set 33 (.sx .i64 (.var 4))
noncomputable def body : Code := ((Tryz.prog.funcs[4]?).bind (·.body)).getD .skip
noncomputable def b4 : Code := ((loopsKey 12 (subs body)).head?).getD .skip

def noDs : List ADef → Bool
  | [] => true
  | _ => false
noncomputable def isSS : Option AV → Bool
  | some (.ss b 1 (.lit 0) (.var 3)) => Nat.beq b G
  | _ => false
def isV3 : Option AV → Bool
  | some (.sx .i64 (.var 3)) => true
  | _ => false
def isI (n : Int) : Option AV → Bool
  | some (.val (.int .i64 m)) => decide (m = n)
  | _ => false
def isF : Option AV → Bool
  | some (.val (.bool false)) => true
  | _ => false
noncomputable def keeps (t : Env) : Bool := isSS (t.get 31) && (isV3 (t.get 32) && (isI 1 (t.get 16) && isI 0 (t.get 17)))
noncomputable def chk [Facts] (p : Ex × St) (_ : HS) : Bool := noDs p.2.ds && (Nat.beq p.2.nt 42 && (match p.1 with
  | .normal => keeps p.2.t && ((match p.2.t.get 33 with
    | some v => sameA v (.sx .i64 (.add (.var 4) (.lit 1)))
    | none => false) && yesS (.le (.var 4) (.add (.var 3) (.lit (-1)))))
  | .exit id => Nat.beq id 2 && (isI 1 (p.2.t.get 16) && isI 0 (p.2.t.get 17))
  | .ret => isF (p.2.t.get 4)))

def pcB : List (SB × Bool) := [(.le (.lit 0) (.var 4), true), (.le (.var 4) (.lit 9223372036854775807), true), (.le (.lit 0) (.var 3), true), (.le (.var 3) (.lit 9223372036854775807), true)]
def pcOut : List (SB × Bool) := (.le (.var 3) (.var 4), true) :: pcB
def pcIn (d : Bool) : List (SB × Bool) := (.le (.sel (.tab 32) (.var 4) 0) (.lit 80), d) :: (.le (.var 3) (.var 4), false) :: (.le (.var 4) (.add (.var 3) (.lit (-1))), true) :: (.le (.var 4) (.lit 9223372036854775806), true) :: pcB
noncomputable def run (F : Facts) : R (Ex × St) := letI := noLoops; code Tryz.prog (callN Tryz.prog (cfg0 100000) 60) none 4 100000 b4 ⟨t0, 42, []⟩ s0

set_option maxRecDepth 1000000
theorem the_loop : ((Tryz.prog.funcs[4]?).bind (·.body)).map (fun c => loopsKey 12 (subs c)) = some [b4] := by kernel_rfl
theorem run1 : (run ⟨pcOut⟩).every 1000000000 (letI : Facts := ⟨pcOut⟩; chk) = true := by kernel_rfl
theorem run2 : (run ⟨pcIn true⟩).every 1000000000 (letI : Facts := ⟨pcIn true⟩; chk) = true := by kernel_rfl
theorem run3 : (run ⟨pcIn false⟩).every 1000000000 (letI : Facts := ⟨pcIn false⟩; chk) = true := by kernel_rfl

theorem noDs_ok {l : List ADef} (h : noDs l = true) : l = [] := by
  cases l with
  | nil => rfl
  | cons _ _ => cases h
theorem isSS_ok {o : Option AV} (h : isSS o = true) : o = some aSS := by
  unfold isSS at h
  split at h
  · have := Nat.eq_of_beq_eq_true h
    subst this
    rfl
  · cases h
theorem isV3_ok {o : Option AV} (h : isV3 o = true) : o = some V3 := by
  unfold isV3 at h
  split at h
  · rfl
  · cases h
theorem isI_ok {n : Int} {o : Option AV} (h : isI n o = true) : o = some (I n) := by
  unfold isI at h
  split at h
  · rename_i m
    have := of_decide_eq_true h
    subst this
    rfl
  · cases h
theorem isF_ok {o : Option AV} (h : isF o = true) : o = some (.val (.bool false)) := by
  unfold isF at h
  split at h
  · rfl
  · cases h

/-- The index's number is another one. -/
def atI (env : Nat → Int) (i : Int) (j : Nat) : Int := if j = 4 then i else env j
theorem atI_ne {env : Nat → Int} {i : Int} {j : Nat} (h : j ≠ 4) : atI env i j = env j := by simp [atI, h]

noncomputable def phiT (a : Lc) : Phi := (phi0 G).put G a
theorem phiT_self (a : Lc) : phiT a G = some a := Phi.put_self _ _ _
theorem phiT_all (a : Lc) : ∀ b, b < G + 1 → ∃ c, phiT a b = some c := by
  intro b hb
  by_cases h : b = G
  · subst h; exact ⟨a, phiT_self a⟩
  · refine ⟨⟨b, 0, 0⟩, ?_⟩
    unfold phiT Phi.put phi0
    rw [if_neg h, if_pos (by omega)]

theorem keep_less : ∀ q ∈ keep, q.2.less (G + 1) 4 = true := by
  intro q hq
  simp only [keep, List.mem_cons, List.not_mem_nil, or_false] at hq
  rcases hq with rfl | rfl | rfl | rfl
  · simp [aSS, AV.less, SE.less]
    rfl
  · rfl
  · rfl
  · rfl

structure Cons [F : Facts] [V : Vals] (a : Lc) (we : World) (len : Nat) : Prop where
  eqn : V.env 3 = len
  hi : (len : Int) ≤ 9223372036854775807
  tab : RB (phiT a) we a tabB

structure Inv [F : Facts] [V : Vals] (a : Lc) (we : World) (i : Nat) (w : World) (tmps : Array Value) : Prop where
  size : tmps.size = 42
  keep : ∀ q ∈ keep, RV (phiT a) q.2 (tmps.getD q.1 undef)
  idx : tmps.getD 33 undef = .int .i64 i
  far : RowKit.Below we.heap.size we w

theorem t0_get {i : Nat} {v : AV} (h : t0.get i = some v) : (i = 33 ∧ v = .sx .i64 (.var 4)) ∨ (i, v) ∈ keep := by
  simp only [t0, Tr.get_set] at h
  split at h
  · rename_i e; cases h; exact .inl ⟨e, rfl⟩
  · split at h
    · rename_i e; subst e; cases h; right; simp [keep]
    · split at h
      · rename_i e; subst e; cases h; right; simp [keep]
      · split at h
        · rename_i e; subst e; cases h; right; simp [keep]
        · split at h
          · rename_i e; subst e; cases h; right; simp [keep]
          · cases h

theorem keep_lt : ∀ q ∈ keep, q.1 < 42 := by
  intro q hq
  simp only [keep, List.mem_cons, List.not_mem_nil, or_false] at hq
  rcases hq with rfl | rfl | rfl | rfl <;> decide

theorem callok [Facts] [Vals] (B : Nat) : letI := noLoops; CallOK Tryz.prog B (callN Tryz.prog (cfg0 100000) 60) :=
  letI := noLoops
  callN_ok ⟨noLoops_ok, fun _ _ e => by cases e⟩ (fun _ h => region_any h) 60

theorem keeps_ok {t : Env} (h : keeps t = true) : ∀ q ∈ keep, t.get q.1 = some q.2 := by
  simp only [keeps, Bool.and_eq_true] at h
  obtain ⟨h1, h2, h3, h4⟩ := h
  intro q hq
  simp only [keep, List.mem_cons, List.not_mem_nil, or_false] at hq
  rcases hq with rfl | rfl | rfl | rfl
  · exact isSS_ok h1
  · exact isV3_ok h2
  · exact isI_ok h3
  · exact isI_ok h4

/-- What a round, and so all of them, may end with. -/
structure Post (we : World) (e : Ex) (w : World) (tmps : Array Value) : Prop where
  far : RowKit.Below we.heap.size we w
  size : tmps.size = 42
  how : (e = .exit 2 ∧ tmps.getD 16 undef = .int .i64 1 ∧ tmps.getD 17 undef = .int .i64 0) ∨ (e = .ret ∧ tmps.getD 4 undef = .bool false)

theorem below_trans {we w w1 : World} (h : RowKit.Below we.heap.size we w) (k : RowKit.Below w.heap.size w w1) : RowKit.Below we.heap.size we w1 :=
  ⟨k.os.trans h.os, k.tape.trans h.tape, k.output.trans h.output, Nat.le_trans h.size k.size, fun r hr => (k.block r (Nat.lt_of_lt_of_le hr h.size)).trans (h.block r hr)⟩

/-- A round under facts that hold of the index. -/
theorem round_one [F : Facts] [V : Vals] {a : Lc} {we : World} {len i : Nat} (hc : Cons a we len) (q : Other) (hq : ∀ j, q.V.env j = atI V.env i j) (hrun : (@run q.F).every 1000000000 (@chk q.F) = true) {w : World} {tmps : Array Value} (hi : Inv a we i w tmps)
    {fr : Frame} {cs : List Frame} {k : List Item} (hmode : fr.mode = .run) (hr : fr.roundOf = none) (hfn : fr.fn = 4) (htm : fr.tmps = tmps) (hdf : fr.defers = []) (hin : InFn Tryz.prog none 4 b4) (htodo : fr.todo = .code b4 :: .inLoop b4 :: k) :
    ∃ e w1 tmps1, Abs.Left Tryz.prog (lone fr cs w) (Frame' fr tmps1 [] (.inLoop b4 :: k)) (.inLoop b4 :: k) cs w1 e ∧ ((e = .normal ∧ i < len ∧ Inv a we (i + 1) w1 tmps1) ∨ (e ≠ .normal ∧ Post we e w1 tmps1)) := by
  have he : ∀ j, j ≠ 4 → V.env j = q.V.env j := fun j hj => by rw [hq, atI_ne hj]
  have he' : ∀ j, j ≠ 4 → q.V.env j = V.env j := fun j hj => (he j hj).symm
  letI := noLoops
  have hbase : @RW q.F q.V (phi0 G) w.heap.size (startL G []) w := @start_rw' q.F q.V G _ [] w (fun p hp => by cases hp)
  have htab : @RB q.F q.V (phiT a) w a tabB := by
    obtain ⟨arr, el, fz, h1, h2, m, hm, h3, h4⟩ := hc.tab
    have hlt := (Array.getElem?_eq_some_iff.1 h1).1
    refine ⟨arr, el, fz, by rw [hi.far.block _ hlt]; exact h1, h2, m, ?_, h3, fun r c k hr hk => ?_⟩
    · show q.V.env 3 = m
      rw [he' 3 (by decide)]; exact hm
    · obtain ⟨x, g1, g2⟩ := h4 r c k hr hk
      refine ⟨x, g1, ?_⟩
      have : (SE.tab 32).row q.V.env r c = (SE.tab 32).row V.env r c := he' _ (by unfold cellIx; omega)
      rw [this]; exact g2
  have hrw : @RW q.F q.V (phiT a) w.heap.size s0 w := by
    refine @RW.add q.F q.V (phi0 G) w.heap.size (startL G []) w hbase a tabB (by simp [phi0, startL]) ?_ (fun h => by cases h) (fun c t y a' e => ?_)
    · obtain ⟨arr, el, fz, h⟩ := htab
      exact ⟨arr, el, fz, h⟩
    · simp [startL, Tr.get] at e
  have hre : @RE q.F q.V (phiT a) t0 42 fr.tmps := by
    refine @RE.mk q.F q.V _ _ _ _ (by rw [htm]; exact hi.size) (fun j v hv => ?_)
    rcases t0_get hv with ⟨rfl, rfl⟩ | hmem
    · refine ⟨by decide, ?_⟩
      rw [htm, hi.idx]
      exact @RV.sx q.F q.V _ _ _ _ (by show q.V.env 4 = i; rw [hq]; simp [atI])
    · refine ⟨keep_lt _ hmem, ?_⟩
      rw [htm]
      exact RV.pull q (φ := phiT a) (ψ := phiT a) (n := G + 1) (j := 4) (by decide) he (Phi.le_refl _) (phiT_all a) (keep_less _ hmem) (hi.keep _ hmem)
  obtain ⟨e, st1, s1, ψ, w1, tmps1, h1, h2, h3, h4, h5⟩ := @round_run q.F q.V noLoops noTame Tryz.prog (phiT a) w.heap.size 1000000000 w (@noLoops_ok q.F q.V _ _) _ (@callok q.F q.V _) (@region_any q.F q.V _ _ _ (@callok q.F q.V _)) 4 b4 100000 42 t0 s0 (@chk q.F) hrun
    (fun p s h => by simp only [chk, Bool.and_eq_true] at h; exact noDs_ok h.1) hrw (Nat.le_refl _) (fun b hb _ => by
      have hb : G + 1 ≤ b := hb
      unfold phiT Phi.put phi0
      rw [if_neg (by omega), if_neg (by omega)]) (fun g hg => by
      have hg : g < G := hg
      unfold phiT Phi.put phi0
      rw [if_neg (by omega), if_pos hg]) fr cs k hre hmode hr hfn hdf hin htodo
  have hfar : RowKit.Below w.heap.size w w1 := @Stp.belowB q.F q.V _ _ _ _ _ _ _ hrw h2 (Nat.le_refl _)
  have hle : (phiT a).le ψ := @Stp.le q.F q.V _ _ _ _ _ _ _ h2
  simp only [chk, Bool.and_eq_true] at h1
  obtain ⟨g1, g2, g3⟩ := h1
  have hnt := Nat.eq_of_beq_eq_true g2
  have hsz : tmps1.size = 42 := by rw [@RE.size q.F q.V _ _ _ _ h3, hnt]
  have hsm : ∀ j v, st1.t.get j = some v → @RV q.F q.V ψ v (tmps1.getD j undef) := fun j v e => (@RE.some q.F q.V _ _ _ _ h3 j v e).2
  refine ⟨e, w1, tmps1, h5, ?_⟩
  cases e with
  | normal =>
    simp only [Bool.and_eq_true] at g3
    obtain ⟨k1, k2, k3⟩ := g3
    left
    refine ⟨rfl, ?_, ⟨hsz, fun p hp => ?_, ?_, below_trans hi.far hfar⟩⟩
    · have := @yesS_ok q.F q.V _ k3
      have := of_decide_eq_true this
      simp only [SE.eval] at this
      rw [hq, hq, atI_ne (show 3 ≠ 4 by decide), hc.eqn] at this
      simp only [atI, if_true] at this
      omega
    · exact RV.pull ⟨F, V⟩ (φ := phiT a) (ψ := ψ) (n := G + 1) (j := 4) (by decide) he' hle (phiT_all a) (keep_less _ hp) (hsm _ _ (keeps_ok k1 p hp))
    · cases hv : st1.t.get 33 with
      | none => rw [hv] at k2; cases k2
      | some v =>
        rw [hv] at k2
        have := @sameA_ok q.F q.V _ _ _ _ k2 (hsm _ _ hv)
        have := @seOf_ok q.F q.V _ _ _ _ _ this rfl
        rw [this]
        simp only [SE.eval]
        rw [hq]
        simp [atI]
  | exit id =>
    right
    simp only [Bool.and_eq_true] at g3
    obtain ⟨k1, k2, k3⟩ := g3
    have hid := Nat.eq_of_beq_eq_true k1
    subst hid
    refine ⟨by simp, below_trans hi.far hfar, hsz, .inl ⟨rfl, ?_, ?_⟩⟩
    · have := hsm _ _ (isI_ok k2)
      exact @RV.int_inv q.F q.V _ _ _ _ this
    · have := hsm _ _ (isI_ok k3)
      exact @RV.int_inv q.F q.V _ _ _ _ this
  | ret =>
    right
    refine ⟨by simp, below_trans hi.far hfar, hsz, .inr ⟨rfl, ?_⟩⟩
    have := hsm _ _ (isF_ok g3)
    exact @RV.bool_inv q.F q.V _ _ _ this

theorem pcB_ok {env : Nat → Int} {i len : Int} (h3 : env 3 = len) (h4 : env 4 = i) (h0 : 0 ≤ i) (h1 : i ≤ 9223372036854775807) (h2 : 0 ≤ len) (h5 : len ≤ 9223372036854775807) : ∀ p ∈ pcB, p.1.eval env = p.2 := by
  intro p hp
  simp only [pcB, List.mem_cons, List.not_mem_nil, or_false] at hp
  rcases hp with rfl | rfl | rfl | rfl
  · exact decide_eq_true (by simp only [SE.eval, h4]; exact h0)
  · exact decide_eq_true (by simp only [SE.eval, h4]; exact h1)
  · exact decide_eq_true (by simp only [SE.eval, h3]; exact h2)
  · exact decide_eq_true (by simp only [SE.eval, h3]; exact h5)

theorem pcOut_ok {env : Nat → Int} {i len : Int} (h3 : env 3 = len) (h4 : env 4 = i) (h0 : 0 ≤ i) (h1 : i ≤ 9223372036854775807) (h2 : 0 ≤ len) (h5 : len ≤ 9223372036854775807) (h : len ≤ i) : ∀ p ∈ pcOut, p.1.eval env = p.2 := by
  intro p hp
  rcases List.mem_cons.1 hp with rfl | hp
  · exact decide_eq_true (by simp only [SE.eval, h3, h4]; exact h)
  · exact pcB_ok h3 h4 h0 h1 h2 h5 p hp

theorem pcIn_ok {env : Nat → Int} {i len : Int} {d : Bool} (h3 : env 3 = len) (h4 : env 4 = i) (h0 : 0 ≤ i) (h2 : 0 ≤ len) (h5 : len ≤ 9223372036854775807) (h : i < len) (hd : decide ((SE.sel (.tab 32) (.var 4) 0).eval env ≤ 80) = d) : ∀ p ∈ pcIn d, p.1.eval env = p.2 := by
  intro p hp
  rcases List.mem_cons.1 hp with rfl | hp
  · exact hd
  · rcases List.mem_cons.1 hp with rfl | hp
    · exact decide_eq_false (by simp only [SE.eval, h3, h4]; omega)
    · rcases List.mem_cons.1 hp with rfl | hp
      · exact decide_eq_true (by simp only [SE.eval, h3, h4]; omega)
      · rcases List.mem_cons.1 hp with rfl | hp
        · exact decide_eq_true (by simp only [SE.eval, h4]; omega)
        · exact pcB_ok h3 h4 h0 (by omega) h2 h5 p hp

theorem all_rounds [F : Facts] [V : Vals] {a : Lc} {we : World} {len : Nat} (hc : Cons a we len) (hin : InFn Tryz.prog none 4 b4) :
    ∀ μ w tmps (fr : Frame) (cs : List Frame) (k : List Item), (∃ i, i ≤ len ∧ μ = len - i ∧ Inv a we i w tmps) → fr.mode = .run → fr.roundOf = none → fr.fn = 4 → fr.tmps = tmps → fr.defers = [] → fr.todo = .code b4 :: .inLoop b4 :: k →
      ∃ e w1 tmps1, Abs.Left Tryz.prog (lone fr cs w) (Frame' fr tmps1 [] k) k cs w1 e ∧ Post we e w1 tmps1 := by
  refine loop_rounds fun μ w tmps fr cs k hi hmode hr hfn htm hdf htodo => ?_
  obtain ⟨i, hle, rfl, hi⟩ := hi
  have hhi := hc.hi
  have h3 : atI V.env i 3 = len := by rw [atI_ne (by decide)]; exact hc.eqn
  have h4 : atI V.env i 4 = i := by simp [atI]
  have hmid : ∀ j, -9223372036854775808 ≤ atI V.env i j ∧ atI V.env i j ≤ 18446744073709551615 := fun j => by
    by_cases h : j = 4
    · subst h; rw [h4]; omega
    · rw [atI_ne h]; exact V.mid j
  have fin : ∀ (q : Other), (∀ j, q.V.env j = atI V.env i j) → (@run q.F).every 1000000000 (@chk q.F) = true →
      ∃ e w1 tmps1, Abs.Left Tryz.prog (lone fr cs w) (Frame' fr tmps1 [] (.inLoop b4 :: k)) (.inLoop b4 :: k) cs w1 e ∧ ((e = .normal ∧ ∃ ν, ν < len - i ∧ ∃ i', i' ≤ len ∧ ν = len - i' ∧ Inv a we i' w1 tmps1) ∨ (e ≠ .normal ∧ Post we e w1 tmps1)) := by
    intro q hq hrun
    obtain ⟨e, w1, tmps1, g1, g2⟩ := round_one hc q hq hrun hi (fr := fr) (cs := cs) (k := k) hmode hr hfn htm hdf hin htodo
    refine ⟨e, w1, tmps1, g1, ?_⟩
    rcases g2 with ⟨rfl, hlt, hinv⟩ | h
    · exact .inl ⟨rfl, len - (i + 1), by omega, i + 1, by omega, rfl, hinv⟩
    · exact .inr h
  by_cases hlt : i < len
  · by_cases hd : (SE.sel (.tab 32) (.var 4) 0).eval (atI V.env i) ≤ 80
    · exact fin ⟨⟨pcIn true⟩, @Vals.mk ⟨pcIn true⟩ (atI V.env i) (pcIn_ok h3 h4 (by omega) (by omega) hhi (by omega) (decide_eq_true hd)) hmid⟩ (fun _ => rfl) run2
    · exact fin ⟨⟨pcIn false⟩, @Vals.mk ⟨pcIn false⟩ (atI V.env i) (pcIn_ok h3 h4 (by omega) (by omega) hhi (by omega) (decide_eq_false hd)) hmid⟩ (fun _ => rfl) run3
  · exact fin ⟨⟨pcOut⟩, @Vals.mk ⟨pcOut⟩ (atI V.env i) (pcOut_ok h3 h4 (by omega) (by omega) (by omega) hhi (by omega)) hmid⟩ (fun _ => rfl) run1

noncomputable def tabIs (s : HS) : Bool := match s.h.get G with
  | some (_, .arr [.s] (.tab 32) (.var 3) true) => true
  | _ => false
theorem tabIs_ok {s : HS} (h : tabIs s = true) : ∃ t, s.h.get G = some (t, tabB) := by
  unfold tabIs at h
  split at h
  · rename_i t e; exact ⟨t, e⟩
  · cases h
noncomputable def head (st : St) (s : HS) : Bool := noDs st.ds && (Nat.beq st.nt 42 && (keeps st.t && (isI 0 (st.t.get 33) && tabIs s)))
def tE : Env := (Tr.lf.set 16 (I 1)).set 17 (I 0)
def tF : Env := Tr.lf.set 4 (.val (.bool false))
noncomputable def f2 (st : St) : M (Ex × St) := fun s => bif head st s then .ask 2 (fun i => .ok (bif Nat.beq i 0 then (.exit 2, ⟨tE, 42, []⟩) else (.ret, ⟨tF, 42, []⟩)) s) else .bad "not the loop's head"
@[reducible] noncomputable def loops2 : Loops := ⟨fun fn key => bif Nat.beq fn 4 && Nat.beq key 12 then some f2 else none⟩

theorem loops2_inv {fn key : Nat} {f : St → M (Ex × St)} (h : loops2.sum fn key = some f) : fn = 4 ∧ key = 12 ∧ f = f2 := by
  rcases bif_some h with ⟨hc, e⟩ | ⟨_, e⟩
  · simp only [Bool.and_eq_true] at hc
    exact ⟨Nat.eq_of_beq_eq_true hc.1, Nat.eq_of_beq_eq_true hc.2, by cases e; rfl⟩
  · cases e

instance tame2 : @TameL loops2 := by
  letI := loops2
  refine ⟨fun fn key f h st s hs => ?_⟩
  obtain ⟨_, _, rfl⟩ := loops2_inv h
  unfold f2
  generalize head st s = x
  cases x
  · trivial
  · intro i _
    exact Up.refl hs

set_option maxRecDepth 1000000 in
theorem loops_ok [F : Facts] [V : Vals] (hlen : V.env 3 ≤ 9223372036854775807) (B : Nat) : @LoopsOK F V loops2 Tryz.prog B := by
  intro fn key f e b func body hf hb hsub hk N cs st s φ w fr k h hB hfree hg hr hfn ht
  obtain ⟨rfl, rfl, rfl⟩ := loops2_inv e
  have hb4 := loop_is hf hb the_loop hsub hk
  subst hb4
  unfold f2
  cases hh : head st s
  · trivial
  simp only [cond_true]
  simp only [head, Bool.and_eq_true] at hh
  obtain ⟨g1, g2, g3, g4, g5⟩ := hh
  have hds := noDs_ok g1
  have hnt := Nat.eq_of_beq_eq_true g2
  obtain ⟨t, e0⟩ := tabIs_ok g5
  obtain ⟨a, ha, hrb, _⟩ := h.blk _ _ _ e0
  have hle : (phiT a).le φ := fun b c e => by
    by_cases hbG : b = G
    · subst hbG; rw [phiT_self] at e; cases e; exact ha
    · unfold phiT Phi.put phi0 at e
      rw [if_neg hbG] at e
      split at e
      · rename_i hlt; cases e; exact hg b hlt
      · cases e
  have hcons : ∃ len, Cons a w len := by
    obtain ⟨arr, el, fz, h1, h2, m, hm, h3, h4⟩ := hrb
    exact ⟨m, hm, by rw [← hm]; exact hlen, arr, el, fz, h1, h2, m, hm, h3, h4⟩
  obtain ⟨len, hc⟩ := hcons
  have hdf : fr.defers = [] := by
    have := hr.ds
    rw [hds] at this
    generalize fr.defers = d at this
    cases this
    rfl
  have hinv : Inv a w 0 w fr.tmps := by
    refine ⟨by rw [hr.re.size, hnt], fun p hp => ?_, ?_, RowKit.Below.refl _ _⟩
    · exact RV.pull ⟨F, V⟩ (φ := phiT a) (ψ := φ) (n := G + 1) (j := 4) (by decide) (fun _ _ => rfl) hle (phiT_all a) (keep_less _ hp) (hr.re.some _ _ (keeps_ok g3 p hp)).2
    · exact ((hr.re.some _ _ (isI_ok g4)).2).int_inv
  obtain ⟨e, w1, tmps1, hleft, hp⟩ := all_rounds hc (fun _ => ⟨func, body, hf, hb, .loop hsub⟩) len w fr.tmps fr cs k ⟨0, Nat.zero_le _, by omega, hinv⟩ hr.mode hr.round hfn rfl hdf ht
  have stp := below_stp h hp.far
  rcases hp.how with ⟨rfl, p1, p2⟩ | ⟨rfl, p1⟩
  · refine .inr ⟨0, by omega, fun hN => ⟨φ, w1, tmps1, [], stp, ?_, .nil, hleft⟩⟩
    show RE φ tE 42 tmps1
    refine ⟨hp.size, fun i v hv => ?_⟩
    simp only [tE, Tr.get_set] at hv
    split at hv
    · rename_i ei; subst ei; cases hv; exact ⟨by omega, by rw [p2]; exact .val _⟩
    · split at hv
      · rename_i ei; subst ei; cases hv; exact ⟨by omega, by rw [p1]; exact .val _⟩
      · cases hv
  · refine .inr ⟨1, by omega, fun hN => ⟨φ, w1, tmps1, [], stp, ?_, .nil, hleft⟩⟩
    show RE φ tF 42 tmps1
    refine ⟨hp.size, fun i v hv => ?_⟩
    simp only [tF, Tr.get_set] at hv
    split at hv
    · rename_i ei; subst ei; cases hv; exact ⟨by omega, by rw [p1]; exact .val _⟩
    · cases hv

def Xv (i : Nat) : AV := .sx .i64 (.var i)
noncomputable def argc : List AV := [Xv 0, Xv 1, Xv 2, aSS]
noncomputable def sT : HS := addB s0 (.ro (Tr.fill argc 0 .lf) argc.length)
noncomputable def args4 : List AV := [.sl (G + 1) 0 4 1 (some 1), I 1]
def isB (v : AV) (_ : HS) : Bool := match v with
  | .val (.bool _) => true
  | _ => false
def pcL (d : Bool) : List (SB × Bool) := [(.le (.wr .i64 (.add (.var 3) (.lit 1))) (.lit 61), d), (.le (.lit 0) (.var 3), true), (.le (.var 3) (.lit 9223372036854775807), true)]
set_option maxRecDepth 1000000 in
theorem runL (d : Bool) : ((letI : Facts := ⟨pcL d⟩; letI := loops2; callN Tryz.prog (cfg0 100000) 60 (.f 4) args4 sT).every 1000000000 isB) = true := by
  cases d
  · kernel_rfl
  · kernel_rfl

theorem argc_RL [Facts] [V : Vals] {φ : Phi} {x3 : Value} (h : RV φ aSS x3) : RL φ argc [.int .i64 (V.env 0), .int .i64 (V.env 1), .int .i64 (V.env 2), x3] :=
  .cons (.sx rfl) (.cons (.sx rfl) (.cons (.sx rfl) (.cons h .nil)))

theorem callok2 [F : Facts] [V : Vals] (hlen : V.env 3 ≤ 9223372036854775807) (B : Nat) : letI := loops2; CallOK Tryz.prog B (callN Tryz.prog (cfg0 100000) 60) :=
  letI := loops2
  callN_ok ⟨loops_ok hlen B, fun _ _ e => by cases e⟩ (fun _ h => region_any h) 60

set_option maxRecDepth 1000000 in
/-- What 'light' comes to: some answer. -/
theorem light_inner {env : Nat → Int} (hmid : ∀ i, -9223372036854775808 ≤ env i ∧ env i ≤ 18446744073709551615) (h0 : 0 ≤ env 3) (h1 : env 3 ≤ 9223372036854775807) {w : World} {a b : Lc} {o : Nat} (ho : o = b.off + 0)
    (ht : ∀ (q : Other), q.V.env = env → @RB q.F q.V (phiT a) w a tabB) (hb : ∀ (q : Other), q.V.env = env → @RB q.F q.V (phiT a) w b (.ro (Tr.fill argc 0 .lf) argc.length)) {kind : CallKind} (hkind : kind = .normal ∨ kind = .deferred) (cs : List Frame) :
    ∃ w' r, RowKit.Below w.heap.size w w' ∧ FnInv Tryz.prog 4 #[.slice (some ⟨b.blk, o, none⟩) 1 1, .int .i64 1] w (.bool r) w' kind cs := by
  have key : ∀ d, decide ((SE.wr .i64 (.add (.var 3) (.lit 1))).eval env ≤ 61) = d → ∃ w' r, RowKit.Below w.heap.size w w' ∧ FnInv Tryz.prog 4 #[.slice (some ⟨b.blk, o, none⟩) 1 1, .int .i64 1] w (.bool r) w' kind cs := by
    intro d hd
    letI F : Facts := ⟨pcL d⟩
    letI V : Vals := ⟨env, fun p hp => by
      have hp : p ∈ pcL d := hp
      simp only [pcL, List.mem_cons, List.not_mem_nil, or_false] at hp
      rcases hp with rfl | rfl | rfl
      · exact hd
      · exact decide_eq_true h0
      · exact decide_eq_true h1, hmid⟩
    letI := loops2
    have hrw0 : RW (phiT a) w.heap.size s0 w := by
      refine RW.add (start_rw' (G := G) w.heap.size (tabs := []) (fun p hp => by cases hp)) (by simp [phi0, startL]) ?_ (fun h => by cases h) (fun c t y a' e => ?_)
      · obtain ⟨arr, el, fz, h⟩ := ht ⟨F, V⟩ rfl
        exact ⟨arr, el, fz, h⟩
      · simp [startL, Tr.get] at e
    have hfree : phiT a s0.n = none := by
      show phiT a (G + 1) = none
      unfold phiT Phi.put phi0
      rw [if_neg (by omega), if_neg (by omega)]
    have hrw : RW ((phiT a).put s0.n b) w.heap.size sT w := by
      refine RW.add hrw0 hfree (hb ⟨F, V⟩ rfl) (fun h => by cases h) (fun c t y a' e hy => ?_)
      simp only [s0, addB, Tr.get_set] at e
      split at e
      · cases e; cases hy
      · simp [startL, Tr.get] at e
    have hself : ((phiT a).put (G + 1) b) (G + 1) = some b := Phi.put_self _ _ _
    have hrw : RW ((phiT a).put (G + 1) b) w.heap.size sT w := hrw
    have hc := @callok2 F V h1 w.heap.size
    have hfr : Free ((phiT a).put (G + 1) b) sT.n 1000000000 := fun c hc _ => by
      have hc : G + 2 ≤ c := hc
      show (if c = G + 1 then some b else phiT a c) = none
      rw [if_neg (by omega)]
      unfold phiT Phi.put phi0
      rw [if_neg (by omega), if_neg (by omega)]
    have hgo : GOk Tryz.prog ((phiT a).put (G + 1) b) := fun g hg => by
      have hg : g < G := hg
      show (if g = G + 1 then some b else phiT a g) = some ⟨g, 0, 0⟩
      rw [if_neg (by omega)]
      unfold phiT Phi.put phi0
      rw [if_neg (by omega), if_pos hg]
    have hrl : RL ((phiT a).put (G + 1) b) args4 [.slice (some ⟨b.blk, o, none⟩) 1 1, .int .i64 1] := .cons (.sl hself rfl (Nat.le_refl _) (fun _ => ho)) (.cons (.val _) .nil)
    have hrun := runL d
    revert hrw hfr hrun
    generalize sT = sT1
    intro hrw hfr hrun
    have this := hc.f 4 args4 sT1 1000000000 ((phiT a).put (G + 1) b) w #[.slice (some ⟨b.blk, o, none⟩) 1 1, .int .i64 1] kind cs hkind hrw (Nat.le_refl _) hfr hgo hrl
    obtain ⟨v, s', hp, hN, hq⟩ := R.every_wp hrun this
    obtain ⟨ψ, w', x, q1, q2, q3⟩ := hq hN
    unfold isB at hp
    split at hp
    · rename_i r
      cases q2
      exact ⟨w', r, Stp.belowB hrw q1 (Nat.le_refl _), q3⟩
    · cases hp
  exact key _ rfl

def isX (i : Nat) : AV → Bool
  | .sx .i64 (.var j) => Nat.beq j i
  | _ => false
theorem isX_ok {i : Nat} {v : AV} (h : isX i v = true) : v = Xv i := by
  unfold isX at h
  split at h
  · have := Nat.eq_of_beq_eq_true h
    subst this
    rfl
  · cases h
noncomputable def argIs (s : HS) (b : Nat) : Bool := match s.h.get b with
  | some (_, .cells c m _) => Nat.ble 4 m && (match takeA c 0 4 with
    | some [x0, x1, x2, x3] => isX 0 x0 && (isX 1 x1 && (isX 2 x2 && isSS (some x3)))
    | _ => false)
  | _ => false
noncomputable def knownL (bs : List AV) : M AV := fun s => match bs with
  | [.sl b 0 4 1 (some 1), m] => bif isI 1 (some m) && (argIs s b && tabIs s) then .ask 2 (fun i => .ok (.val (.bool (Nat.beq i 1))) s) else .bad "another call of light"
  | _ => .bad "another call of light"

theorem knownL_ok [F : Facts] [V : Vals] (h0 : 0 ≤ V.env 3) (h1 : V.env 3 ≤ 9223372036854775807) {B : Nat} : (∀ bs, Tame (knownL bs)) ∧ ∀ bs s N φ w (xs : Array Value) (kind : CallKind) (cs : List Frame), kind = .normal ∨ kind = .deferred → RW φ B s w → B ≤ w.heap.size → Free φ s.n N → GOk Tryz.prog φ → RL φ bs xs.toList →
    (knownL bs s).wp fun v s' => s'.n ≤ N → ∃ ψ w' x, Stp φ B s w ψ s' w' ∧ RV ψ v x ∧ FnInv Tryz.prog 4 xs w x w' kind cs := by
  refine ⟨fun bs s hs => ?_, fun bs s N φ w xs kind cs hkind h hB hf hg hx => ?_⟩
  · unfold knownL
    split
    · rename_i b m
      generalize (isI 1 (some m) && (argIs s b && tabIs s)) = x
      cases x
      · trivial
      · intro i _
        exact Up.refl hs
    · trivial
  · unfold knownL
    split
    · rename_i b m
      cases hc : (isI 1 (some m) && (argIs s b && tabIs s))
      · trivial
      · simp only [Bool.and_eq_true] at hc
        obtain ⟨c0, c1, c2⟩ := hc
        have hm : m = I 1 := Option.some.inj (isI_ok c0)
        subst hm
        obtain ⟨xs⟩ := xs
        cases hx with | cons x1 hx =>
        cases hx with | cons x2 hx =>
        cases hx
        have x2 := x2.int_inv
        subst x2
        cases x1 with | sl e' hcp hlp hop =>
        rename_i ab o c
        simp only at hcp
        subst hcp
        obtain ⟨t, e0⟩ := tabIs_ok c2
        obtain ⟨a, ha, hrb, _⟩ := h.blk _ _ _ e0
        have hle : (phiT a).le φ := fun b c e => by
          by_cases hbG : b = G
          · subst hbG; rw [phiT_self] at e; cases e; exact ha
          · unfold phiT Phi.put phi0 at e
            rw [if_neg hbG] at e
            split at e
            · rename_i hlt; cases e; exact hg b hlt
            · cases e
        have htab : ∀ (q : Other), q.V.env = V.env → @RB q.F q.V (phiT a) w a tabB := by
          intro q hq
          obtain ⟨arr, el, fz, g1, g2, m, hm, g3, g4⟩ := hrb
          exact ⟨arr, el, fz, g1, g2, m, by rw [hq]; exact hm, g3, fun r c k hr hk => by rw [hq]; exact g4 r c k hr hk⟩
        have harg : ∀ (q : Other), q.V.env = V.env → @RB q.F q.V (phiT a) w ab (.ro (Tr.fill argc 0 .lf) argc.length) := by
          intro q hq
          unfold argIs at c1
          split at c1
          · rename_i tt cc m gg ee
            simp only [Bool.and_eq_true] at c1
            have hm := Nat.le_of_ble_eq_true c1.1
            have c1 := c1.2
            obtain ⟨a', ha', ⟨arr, el, q1, q2, _⟩, _⟩ := h.blk b _ _ ee
            rw [e'] at ha'; cases ha'
            split at c1
            · rename_i x0 x1 x2 x3 hk
              simp only [Bool.and_eq_true] at c1
              obtain ⟨u0, u1, u2, u3⟩ := c1
              have v0 := isX_ok u0
              have v1 := isX_ok u1
              have v2 := isX_ok u2
              have v3 : x3 = aSS := Option.some.inj (isSS_ok u3)
              subst v0 v1 v2 v3
              obtain ⟨ys, k1, k2, k3⟩ := take_ok q2 4 0 _ (by omega) hk
              have hpull : @RL q.F q.V (phiT a) argc ys := RL.pull q (φ := phiT a) (ψ := φ) (n := G + 1) (j := 4) (by decide) (fun i _ => by rw [hq]) hle (phiT_all a) (by simp [AV.lessL, argc, Xv, aSS, AV.less, SE.less] <;> decide) k1
              have h3 := q2.1
              exact @RB.ro_mk q.F q.V (phiT a) w ab argc ys arr el (0, 0) q1 hpull (by simp [argc]; omega) (fun j hj => by simpa using k3 j (by simpa [argc] using hj))
            · cases c1
          · cases c1
        obtain ⟨w', r, g1, g2⟩ := light_inner V.mid h0 h1 (hop (by omega)) htab harg hkind cs
        have stp := below_stp h g1
        cases r
        · exact .inr ⟨0, by omega, fun _ => ⟨φ, w', _, stp, .val _, g2⟩⟩
        · exact .inr ⟨1, by omega, fun _ => ⟨φ, w', _, stp, .val _, g2⟩⟩
    · trivial

noncomputable def isTab : List (Nat × List Value) := laidTabs Tryz.prog Rows.worldNoneRow.laid
noncomputable def cfgF : Cfg := { mg := fun _ => false, known := knowTrue 5 isTab, fuel := 100000 }
noncomputable def cfgN [Facts] : Cfg := { mg := fun _ => false, known := fun g => bif Nat.beq g 4 then some knownL else knowTrue 5 isTab g, fuel := 100000 }
def ks : List (Nat × IntKind) := [(0, .i64), (1, .i64), (2, .i64)]
def pcN : List (SB × Bool) := (.le (.lit 0) (.var 3), true) :: (.le (.var 3) (.lit 9223372036854775807), true) :: pcOf ks
noncomputable def sN : HS := addB (startL G isTab) tabB

set_option maxRecDepth 1000000
theorem runN : ((letI : Facts := ⟨pcN⟩; letI := noLoops; callN Tryz.prog cfgN 200 (.f 3) [.agg [Xv 0, Xv 1, Xv 2, aSS]] sN).every 1000000000 isTrue) = true := by kernel_rfl
theorem run0 : ((letI : Facts := ⟨pcN⟩; letI := noLoops; callN Tryz.prog cfgF 200 (.f 3) [.agg [Xv 0, Xv 1, Xv 2, .so (.lit 0)]] (startL G isTab)).every 1000000000 isTrue) = true := by kernel_rfl

theorem tab_lt : ∀ p ∈ isTab, p.1 < Tryz.prog.globals.size :=
  fun p hp => Nat.le_of_ble_eq_true (List.all_eq_true.1 (show (isTab.all fun p => Nat.ble (p.1 + 1) Tryz.prog.globals.size) = true by kernel_rfl) p hp)

theorem knownF_ok [Facts] [Vals] (B : Nat) : letI := noLoops; KnownOK Tryz.prog B cfgF :=
  letI := noLoops
  know_okM (L.tameL (V := V0)) (g := 5) (n := 200) (N := 1000000000) (tabs := isTab) (fun _ => noLoops_ok) (fun B => L.known_lives (V := V0) B) (fun _ _ h => region_any h) tab_lt L.run_lives cfgF rfl B

theorem knownN_ok [Facts] [V : Vals] (h0 : 0 ≤ V.env 3) (h1 : V.env 3 ≤ 9223372036854775807) (B : Nat) : letI := noLoops; KnownOK Tryz.prog B cfgN := by
  letI := noLoops
  refine ⟨noLoops_ok, fun g k e => ?_⟩
  rcases bif_some e with ⟨hg, e⟩ | ⟨_, e⟩
  · cases e
    have hg := Nat.eq_of_beq_eq_true hg
    subst hg
    exact knownL_ok h0 h1
  · exact (knownF_ok B).2 g k e

def sc (x0 x1 x2 n : Int) : Nat → Int := envOf [x0, x1, x2, n, 0]
def vArgs (x0 x1 x2 : Int) (v : Value) : Array Value :=
  #[.agg #[.int .i64 x0, .int .i64 x1, .int .i64 x2, v]]

section
variable {x0 x1 x2 : Int} (h0 : kmin .i64 ≤ x0 ∧ x0 ≤ kmax .i64) (h1 : kmin .i64 ≤ x1 ∧ x1 ≤ kmax .i64) (h2 : kmin .i64 ≤ x2 ∧ x2 ≤ kmax .i64)
include h0 h1 h2

theorem pcN_ok {n : Int} {tabs : Nat → Nat → Nat → Int} (n0 : 0 ≤ n) (n1 : n ≤ 9223372036854775807) : ∀ p ∈ pcN, p.1.eval (envT (sc x0 x1 x2 n) tabs) = p.2 := by
  intro p hp
  rcases List.mem_cons.1 hp with rfl | hp
  · exact decide_eq_true n0
  · rcases List.mem_cons.1 hp with rfl | hp
    · exact decide_eq_true n1
    · exact pcOf_ok (ks := ks) ⟨h0, h1, h2, trivial⟩ p hp

theorem sc_mid {n : Int} (n0 : 0 ≤ n) (n1 : n ≤ 9223372036854775807) : ∀ i, In64 (sc x0 x1 x2 n i) :=
  envOf_mid (MidL.all ⟨mid_of h0, mid_of h1, mid_of h2, ⟨by omega, by omega⟩, mid_zero, trivial⟩)

theorem walk0 (p : Option Addr) (c : Nat) (w : World) (hw : HasTabs G isTab w) :
    Calls Tryz.prog 3 (vArgs x0 x1 x2 (.slice p 0 c)) w fun e w' => e = .returned (.bool true) ∧ RowKit.Below w.heap.size w w' := by
  letI F : Facts := ⟨pcN⟩
  letI V : Vals := ⟨envT (sc x0 x1 x2 0) (fun _ _ _ => 0), pcN_ok h0 h1 h2 (by omega) (by omega), envT_mid (sc_mid h0 h1 h2 (by omega) (by omega)) (fun _ _ _ => mid_zero)⟩
  letI := noLoops
  exact calls_trueL (cfg := cfgF) (fun B => knownF_ok B) (fun _ _ h => region_any h)
    (fun _ => .cons (.agg (.cons (.sx rfl) (.cons (.sx rfl) (.cons (.sx rfl) (.cons (.so rfl) .nil))))) .nil) run0 w hw

theorem walkN {b o len cap : Nat} {row : Nat → Nat → Int} {arr : Array Value} {el : TypeId} {fz : Nat × Nat} (hcap : len ≤ cap) (hlen : (len : Int) ≤ 9223372036854775807) {w : World} (harr : w.heap[b]? = some (.cells arr el fz)) (hs : o + len * 1 ≤ arr.size)
    (hr : ∀ (r c : Nat) (k : CK), r < len → [CK.s][c]? = some k → ∃ x, arr[o + (r * 1 + c)]? = some x ∧ CKv k (row r c) x) (hmid : ∀ r c, In64 (row r c)) (hw : HasTabs G isTab w) :
    Calls Tryz.prog 3 (vArgs x0 x1 x2 (.slice (some ⟨b, o, none⟩) len cap)) w fun e w' => e = .returned (.bool true) ∧ RowKit.Below w.heap.size w w' := by
  letI F : Facts := ⟨pcN⟩
  letI V : Vals := ⟨envT (sc x0 x1 x2 len) (fun _ r c => row r c), pcN_ok h0 h1 h2 (by omega) hlen, envT_mid (sc_mid h0 h1 h2 (by omega) hlen) (fun _ => hmid)⟩
  letI := noLoops
  have hlen3 : V.env 3 = len := rfl
  have hrb : RB (phiT ⟨b, o, cap⟩) w ⟨b, o, cap⟩ tabB := rows_rb (ks := [.s]) harr hs hr hlen3 (fun r c hc => by
    have hc : c < 1 := hc
    exact envT_cell (sc := sc x0 x1 x2 len) (tabs := fun _ r c => row r c) (a := 32) (r := r) (c := c) (by decide) (by decide) (by omega))
  have hrw : RW (phiT ⟨b, o, cap⟩) w.heap.size sN w := by
    refine RW.add (start_rw w.heap.size hw) (by simp [phi0, startL]) ?_ (fun h => by cases h) (fun c t y a' e hy => ?_)
    · obtain ⟨arr, el, fz, h⟩ := hrb
      exact ⟨arr, el, fz, h⟩
    · obtain ⟨p, hp, rfl, rfl, rfl⟩ := startL_get e
      cases hy
  have hf : Free (phiT ⟨b, o, cap⟩) sN.n 1000000000 := fun c hc _ => by
    have hc : G + 1 ≤ c := hc
    unfold phiT Phi.put phi0
    rw [if_neg (by omega), if_neg (by omega)]
  have hgo : GOk Tryz.prog (phiT ⟨b, o, cap⟩) := fun g hg => by
    have hg : g < G := hg
    unfold phiT Phi.put phi0
    rw [if_neg (by omega), if_pos hg]
  have hx : RL (phiT ⟨b, o, cap⟩) [.agg [Xv 0, Xv 1, Xv 2, aSS]] (vArgs x0 x1 x2 (.slice (some ⟨b, o, none⟩) len cap)).toList :=
    .cons (.agg (.cons (.sx rfl) (.cons (.sx rfl) (.cons (.sx rfl) (.cons (.ss (phiT_self _) rfl hlen3 hcap (fun _ => by simp)) .nil))))) .nil
  have hrun := runN
  revert hrw hf hrun
  generalize sN = sN1
  intro hrw hf hrun
  exact calls_from (cfg := cfgN) (knownN_ok (by rw [hlen3]; omega) (by rw [hlen3]; exact hlen) _) (fun _ h => region_any h) hrw hf hgo hx hrun
end
end
end Go.Proofs.YtnpkhejpkpnpaaaGreatDoor.worldNone
