/- What 'Run' comes to on the counting program, whatever the number is: each round, all rounds, and the law's run by it. Conditions: those of the law's argument, a number of 8 bits. -/
import Derived.Test.YtkcdcnjpafblfaaDoorRows
import Derived.KernelRfl
import Derived.Test.YtkcdcnjpafblfaaDoorAbsD

open Go
namespace Go.Proofs.YtkcdcnjpafblfaaDoor.cpuCounts
noncomputable section
open Go.Abs
section

noncomputable def isTab : List (Nat × List Value) := laidTabs Tryd.prog Rows.cpuCountsRow.laid
noncomputable def G : Nat := Tryd.prog.globals.size
def I (n : Int) : AV := .val (.int .i64 n)
def X (e : SE) : AV := .sx .i64 e
def pcells : List AV := [I 1, I 0, X (.add (.var 0) (.lit 1)), I 0, I 1, I 1, I 1, I 0, I 2, I 2, I 1, I 0, I 8, I 0, I 2, I 0, I 11, I 2, I 0, I 0]
def ctx (pc : Int) (a b c : AV) : List AV := [I 0, I pc, a, b, c, I 0, I 0, I 0, I 0, I 0, I 0]
def addB (s : HS) (x : Blk) : HS := { s with h := s.h.set s.n (s.clk, x), n := s.n + 1 }
noncomputable def s0 (l : List AV) : HS := addB (addB (addB (addB (startL G isTab) (.ro (Tr.fill pcells 0 .lf) pcells.length)) (.cells (Tr.fill l 0 .lf) l.length none)) (.cells .lf 11 none)) (.cells .lf 4 none)
noncomputable def aSl : AV := .sl G 0 4 5 (some 5)
noncomputable def t0 (c : AV) : Env := (((((Tr.lf.set 0 aSl).set 2 (I 2000)).set 4 (.ptr (G + 1) 0)).set 6 (.ptr (G + 2) 0)).set 7 (.ptr (G + 3) 0)).set 9 c
noncomputable def body : Code := ((Tryd.prog.funcs[9]?).bind (·.body)).getD .skip
noncomputable def b9 : Code := ((loopsKey 3 (subs body)).head?).getD .skip

section
variable [Facts]
def hasO (o : Option AV) (a : AV) : Bool := match o with
  | some v => AV.beq v a
  | none => false
def sameO (o : Option AV) (a : AV) : Bool := match o with
  | some v => sameA v a
  | none => false
def noDs : List ADef → Bool
  | [] => true
  | _ => false
def isN : Ex → Bool
  | .normal => true
  | _ => false
def isR : Ex → Bool
  | .ret => true
  | _ => false
noncomputable def keeps (t : Env) : Bool := hasO (t.get 0) aSl && (hasO (t.get 2) (I 2000) && (hasO (t.get 4) (.ptr (G + 1) 0) && (hasO (t.get 6) (.ptr (G + 2) 0) && hasO (t.get 7) (.ptr (G + 3) 0))))
def hasCells (s : HS) (b n : Nat) (l : List AV) : Bool := match s.h.get b with
  | some (_, .cells c m _) => Nat.beq m n && (match takeA c 0 n with
    | some k => sameL k l
    | none => false)
  | _ => false
def isCells (s : HS) (b n : Nat) : Bool := match s.h.get b with
  | some (_, .cells _ m _) => Nat.beq m n
  | _ => false
noncomputable def chkN (l : List AV) (c : AV) (p : Ex × St) (s : HS) : Bool := isN p.1 && (noDs p.2.ds && (Nat.beq p.2.nt 32 && (keeps p.2.t && (sameO (p.2.t.get 9) c && (hasCells s (G + 1) 11 l && (isCells s (G + 2) 11 && isCells s (G + 3) 4))))))
noncomputable def chkR (l k : List AV) (c : AV) (p : Ex × St) (s : HS) : Bool := isR p.1 && (noDs p.2.ds && (Nat.beq p.2.nt 32 && (hasO (p.2.t.get 6) (.ptr (G + 2) 0) && (hasO (p.2.t.get 7) (.ptr (G + 3) 0) && (sameO (p.2.t.get 8) c && (isCells s (G + 1) 11 && (hasCells s (G + 2) 11 l && hasCells s (G + 3) 4 k)))))))
end

def pc0 : List (SB × Bool) := [(.le (.lit 0) (.var 0), true), (.le (.var 0) (.lit 255), true), (.le (.lit 1) (.var 1), true), (.le (.var 1) (.lit 256), true), (.le (.lit 0) (.var 2), true), (.le (.var 2) (.lit 256), true), (.le (.lit 1) (.var 3), true), (.le (.var 3) (.lit 1000), true)]
def NN : AV := X (.add (.var 0) (.lit 1))
def rr : AV := X (.var 1)
def ss : AV := X (.var 2)
def cc : AV := X (.var 3)
noncomputable def run (F : Facts) (l : List AV) (c : AV) : R (Ex × St) := letI := noLoops; code Tryd.prog (callN Tryd.prog (cfg0 100000) 60) none 9 100000 b9 ⟨t0 c, 32, []⟩ (s0 l)

set_option maxRecDepth 1000000
theorem the_loop : ((Tryd.prog.funcs[9]?).bind (·.body)).map (fun c => loopsKey 3 (subs c)) = some [b9] := by kernel_rfl
theorem nt9 : Tryd.f9.ntmps = 32 := by kernel_rfl
theorem run0 : (run ⟨pc0⟩ (ctx 0 (I 0) (I 0) (I 0)) (I 1)).every 1000000000 (letI : Facts := ⟨pc0⟩; chkN (ctx 1 NN (I 0) (I 0)) (I 2)) = true := by kernel_rfl
theorem run1 : (run ⟨pc0⟩ (ctx 1 NN (I 0) (I 0)) (I 2)).every 1000000000 (letI : Facts := ⟨pc0⟩; chkN (ctx 2 NN (I 1) (I 0)) (I 3)) = true := by kernel_rfl
theorem run2 : (run ⟨pc0⟩ (ctx 2 rr (I 1) ss) cc).every 1000000000 (letI : Facts := ⟨pc0⟩; chkN (ctx 3 rr (I 1) (X (.add (.var 2) (.lit 1)))) (X (.add (.var 3) (.lit 1)))) = true := by kernel_rfl
theorem run3 : (run ⟨(.eq (.var 1) (.lit 1), false) :: pc0⟩ (ctx 3 rr (I 1) ss) cc).every 1000000000 (letI : Facts := ⟨(.eq (.var 1) (.lit 1), false) :: pc0⟩; chkN (ctx 2 (X (.add (.var 1) (.lit (-1)))) (I 1) ss) (X (.add (.var 3) (.lit 1)))) = true := by kernel_rfl
theorem run3' : (run ⟨(.eq (.var 1) (.lit 1), true) :: pc0⟩ (ctx 3 rr (I 1) ss) cc).every 1000000000 (letI : Facts := ⟨(.eq (.var 1) (.lit 1), true) :: pc0⟩; chkN (ctx 4 (I 0) (I 1) ss) (X (.add (.var 3) (.lit 1)))) = true := by kernel_rfl
theorem run4 : (run ⟨pc0⟩ (ctx 4 (I 0) (I 1) ss) cc).every 1000000000 (letI : Facts := ⟨pc0⟩; chkR (ctx 5 (I 0) (I 1) ss) [I 11, ss, I 0, I 0] cc) = true := by kernel_rfl
end
end
end Go.Proofs.YtkcdcnjpafblfaaDoor.cpuCounts

open Go
namespace Go.Proofs.YtkcdcnjpafblfaaDoor.cpuCounts
noncomputable section
open Go.Abs

def evl (env : Nat → Int) (l : List AV) : List Value := l.map fun a => match seOf a with
  | some (k, e) => .int k (e.eval env)
  | none => undef

theorem evl_RL [Facts] [V : Vals] {φ : Phi} : ∀ {l : List AV}, (∀ a ∈ l, (seOf a).isSome = true) → RL φ l (evl V.env l) := by
  intro l
  induction l with
  | nil => intro _; exact .nil
  | cons a l ih =>
    intro h
    refine .cons ?_ (ih fun b hb => h b (by simp [hb]))
    have := h a (by simp)
    cases e : seOf a with
    | none => rw [e] at this; cases this
    | some p =>
      obtain ⟨k, y⟩ := p
      have e2 := RV.of_se (φ := φ) e
      simpa [e] using e2

theorem RL_evl [Facts] [V : Vals] {φ : Phi} : ∀ {l : List AV} {xs : List Value}, (∀ a ∈ l, (seOf a).isSome = true) → RL φ l xs → xs = evl V.env l := by
  intro l
  induction l with
  | nil => intro xs _ h; cases h; rfl
  | cons a l ih =>
    intro xs h hr
    cases hr with | cons h1 h2 =>
    rw [ih (fun b hb => h b (by simp [hb])) h2]
    have := h a (by simp)
    cases e : seOf a with
    | none => rw [e] at this; cases this
    | some p =>
      obtain ⟨k, y⟩ := p
      rw [seOf_ok h1 e]
      simp [evl, e]

structure Loc where
  p : Lc
  c : Lc
  b6 : Lc
  b7 : Lc

structure Apart (L : Loc) : Prop where
  pc : L.p.blk ≠ L.c.blk
  p6 : L.p.blk ≠ L.b6.blk
  p7 : L.p.blk ≠ L.b7.blk
  c6 : L.c.blk ≠ L.b6.blk
  c7 : L.c.blk ≠ L.b7.blk
  b67 : L.b6.blk ≠ L.b7.blk
  tab : ∀ p ∈ isTab, p.1 ≠ L.c.blk ∧ p.1 ≠ L.b6.blk ∧ p.1 ≠ L.b7.blk

def Cell (w : World) (a : Lc) (l : List Value) : Prop := ∃ arr el, w.heap[a.blk]? = some (.cells arr el (0, 0)) ∧ a.off + l.length ≤ arr.size ∧ ∀ j, j < l.length → arr[a.off + j]? = l[j]?
def Room (w : World) (a : Lc) (n : Nat) : Prop := ∃ arr el, w.heap[a.blk]? = some (.cells arr el (0, 0)) ∧ a.off + n ≤ arr.size
def Text (w : World) (a : Lc) (l : List Value) : Prop := ∃ arr el fz, w.heap[a.blk]? = some (.cells arr el fz) ∧ a.off + l.length ≤ arr.size ∧ ∀ j, j < l.length → arr[a.off + j]? = l[j]?

/-- The numbers of a program's text. -/
def pv (n : Int) : List Value := ([1, 0, n + 1, 0, 1, 1, 1, 0, 2, 2, 1, 0, 8, 0, 2, 0, 11, 2, 0, 0] : List Int).map (.int .i64)

structure Mem (n : Int) (L : Loc) (w : World) (cv : List Value) : Prop where
  tab : HasTabs' G isTab w
  p : Text w L.p (pv n)
  c : Cell w L.c cv
  b6 : Room w L.b6 11
  b7 : Room w L.b7 4

structure Tm (L : Loc) (tmps : Array Value) (x : Value) : Prop where
  size : tmps.size = 32
  t0 : tmps.getD 0 undef = .slice (some ⟨L.p.blk, L.p.off + 0, none⟩) 5 5
  t2 : tmps.getD 2 undef = .int .i64 2000
  t4 : tmps.getD 4 undef = .pointer (some ⟨L.c.blk, L.c.off + 0, none⟩)
  t6 : tmps.getD 6 undef = .pointer (some ⟨L.b6.blk, L.b6.off + 0, none⟩)
  t7 : tmps.getD 7 undef = .pointer (some ⟨L.b7.blk, L.b7.off + 0, none⟩)
  t9 : tmps.getD 9 undef = x

structure Far (L : Loc) (w w' : World) : Prop where
  os : w'.os = w.os
  tape : w'.tape = w.tape
  output : w'.output = w.output
  size : w.heap.size ≤ w'.heap.size
  heap : ∀ r, r < w.heap.size → r ≠ L.c.blk → r ≠ L.b6.blk → r ≠ L.b7.blk → w'.heap[r]? = w.heap[r]?

theorem Far.refl (L : Loc) (w : World) : Far L w w := ⟨rfl, rfl, rfl, Nat.le_refl _, fun _ _ _ _ _ => rfl⟩
theorem Far.trans {L : Loc} {w w1 w2 : World} (h : Far L w w1) (k : Far L w1 w2) : Far L w w2 :=
  ⟨k.os.trans h.os, k.tape.trans h.tape, k.output.trans h.output, Nat.le_trans h.size k.size, fun r hr a b c => (k.heap r (Nat.lt_of_lt_of_le hr h.size) a b c).trans (h.heap r hr a b c)⟩

noncomputable def phiT (L : Loc) : Phi := ((((phi0 G).put G L.p).put (G + 1) L.c).put (G + 2) L.b6).put (G + 3) L.b7

theorem phiT_p (L : Loc) : phiT L G = some L.p := by simp [phiT, Phi.put]
theorem phiT_c (L : Loc) : phiT L (G + 1) = some L.c := by simp [phiT, Phi.put]
theorem phiT_6 (L : Loc) : phiT L (G + 2) = some L.b6 := by simp [phiT, Phi.put]
theorem phiT_7 (L : Loc) : phiT L (G + 3) = some L.b7 := by simp [phiT, Phi.put]
theorem phiT_g (L : Loc) {g : Nat} (h : g < G) : phiT L g = some ⟨g, 0, 0⟩ := by
  unfold phiT Phi.put phi0
  rw [if_neg (by omega), if_neg (by omega), if_neg (by omega), if_neg (by omega), if_pos h]

theorem startL_n : (startL G isTab).n = G := rfl
theorem s0_n (l : List AV) : (s0 l).n = G + 4 := rfl

theorem addB_get (s : HS) (x : Blk) (b : Nat) : (addB s x).h.get b = if b = s.n then some (s.clk, x) else s.h.get b := by
  simp only [addB, Tr.get_set]

theorem s0_get (l : List AV) (b : Nat) : (s0 l).h.get b = if b = G + 3 then some (0, .cells .lf 4 none) else if b = G + 2 then some (0, .cells .lf 11 none) else if b = G + 1 then some (0, .cells (Tr.fill l 0 .lf) l.length none) else if b = G then some (0, .ro (Tr.fill pcells 0 .lf) pcells.length) else (startL G isTab).h.get b := by
  unfold s0
  rw [addB_get, addB_get, addB_get, addB_get]
  rfl

theorem start_fixed {b t : Nat} {x : Blk} (e : (startL G isTab).h.get b = some (t, x)) : x.fixed = true := by
  obtain ⟨p, hp, rfl, rfl, rfl⟩ := startL_get e
  rfl

theorem s0_open {l : List AV} {b t : Nat} {x : Blk} (e : (s0 l).h.get b = some (t, x)) (hx : x.fixed = false) : b = G + 1 ∨ b = G + 2 ∨ b = G + 3 := by
  rw [s0_get] at e
  by_cases h3 : b = G + 3
  · exact .inr (.inr h3)
  · rw [if_neg h3] at e
    by_cases h2 : b = G + 2
    · exact .inr (.inl h2)
    · rw [if_neg h2] at e
      by_cases h1 : b = G + 1
      · exact .inl h1
      · rw [if_neg h1] at e
        by_cases h0 : b = G
        · rw [if_pos h0] at e; cases e; cases hx
        · rw [if_neg h0] at e
          rw [start_fixed e] at hx; cases hx

theorem Gk (k : Nat) : ¬ (G + k < G) := by omega

section
variable [Facts] [V : Vals]

omit [Facts] V in
theorem pcells_int : ∀ a ∈ pcells, (seOf a).isSome = true := by
  intro a ha
  simp only [pcells, I, X, List.mem_cons, List.not_mem_nil, or_false] at ha
  rcases ha with rfl | rfl | rfl | rfl | rfl | rfl | rfl | rfl | rfl | rfl | rfl | rfl | rfl | rfl | rfl | rfl | rfl | rfl | rfl | rfl <;> rfl

omit [Facts] V in
theorem pcells_ev {env : Nat → Int} {n : Int} (h : env 0 = n) : evl env pcells = pv n := by
  simp [evl, pcells, pv, I, X, seOf, SE.eval, h]

/-- The heap that a round begins with. -/
theorem rw_s0 {n : Int} {L : Loc} (hL : Apart L) {w : World} {l : List AV} (hl : ∀ a ∈ l, (seOf a).isSome = true) (hn : V.env 0 = n) (h : Mem n L w (evl V.env l)) : RW (phiT L) 0 (s0 l) w := by
  have base := start_rw' 0 h.tab
  have hlen : (evl V.env l).length = l.length := by simp [evl]
  have r1 : RW ((phi0 G).put G L.p) 0 (addB (startL G isTab) (.ro (Tr.fill pcells 0 .lf) pcells.length)) w := by
    obtain ⟨arr, el, fz, h1, h2, h3⟩ := h.p
    refine RW.add base (by simp [phi0, startL_n]) (RB.ro_mk h1 (evl_RL pcells_int) (by simpa [pv, pcells] using h2) (fun j hj => by rw [pcells_ev hn]; exact h3 j (by simpa [pv, pcells] using hj))) (fun h => by cases h) (fun c t y a' e hy => by rw [start_fixed e] at hy; cases hy)
  have tabne : ∀ {c t : Nat} {y : Blk} {a' : Lc}, (startL G isTab).h.get c = some (t, y) → phi0 G c = some a' → a'.blk ≠ L.c.blk ∧ a'.blk ≠ L.b6.blk ∧ a'.blk ≠ L.b7.blk := by
    intro c t y a' e ha
    obtain ⟨p, hp, rfl, rfl, rfl⟩ := startL_get e
    have hlt := (h.tab p hp).1
    simp only [phi0, if_pos hlt, Option.some.injEq] at ha
    subst ha
    exact hL.tab p hp
  have ltG : ∀ {c t : Nat} {y : Blk}, (startL G isTab).h.get c = some (t, y) → c < G := by
    intro c t y e
    obtain ⟨p, hp, rfl, rfl, rfl⟩ := startL_get e
    exact (h.tab p hp).1
  have r2 : RW (((phi0 G).put G L.p).put (G + 1) L.c) 0 (addB (addB (startL G isTab) (.ro (Tr.fill pcells 0 .lf) pcells.length)) (.cells (Tr.fill l 0 .lf) l.length none)) w := by
    obtain ⟨arr, el, h1, h2, h3⟩ := h.c
    refine RW.add r1 (by simp [Phi.put, phi0, addB, startL_n, Gk, Nat.add_assoc]) (RB.cells_mk h1 (evl_RL hl) (by rw [← hlen]; exact h2) (fun j hj => h3 j (by rw [hlen]; exact hj))) (fun _ => ⟨Nat.zero_le _, fun c t y a' e ha => ?_⟩) (fun c t y a' e hy ha => ?_)
    · rw [addB_get] at e
      split at e
      · rename_i hc; rw [hc] at ha; simp only [startL_n, Phi.put, if_true, Option.some.injEq] at ha; subst ha; exact hL.pc
      · rename_i hc
        have := ltG e
        unfold Phi.put at ha
        rw [if_neg (by omega)] at ha
        exact (tabne e ha).1
    · rw [addB_get] at e
      split at e
      · cases e; cases hy
      · rw [start_fixed e] at hy; cases hy
  have r3 : RW ((((phi0 G).put G L.p).put (G + 1) L.c).put (G + 2) L.b6) 0 (addB (addB (addB (startL G isTab) (.ro (Tr.fill pcells 0 .lf) pcells.length)) (.cells (Tr.fill l 0 .lf) l.length none)) (.cells .lf 11 none)) w := by
    obtain ⟨arr, el, h1, h2⟩ := h.b6
    refine RW.add r2 (by simp [Phi.put, phi0, addB, startL_n, Gk, Nat.add_assoc]) ⟨arr, el, h1, ⟨h2, fun i v hi hv => by cases hv⟩, fun z hz => by cases hz⟩ (fun _ => ⟨Nat.zero_le _, fun c t y a' e ha => ?_⟩) (fun c t y a' e hy ha => ?_)
    · rw [addB_get] at e
      split at e
      · rename_i hc
        rw [hc] at ha
        have : (addB (startL G isTab) (.ro (Tr.fill pcells 0 .lf) pcells.length)).n = G + 1 := rfl
        rw [this] at ha
        simp only [Phi.put, if_true, Option.some.injEq] at ha; subst ha; exact hL.c6
      · rw [addB_get] at e
        split at e
        · rename_i hc; rw [hc, startL_n] at ha; simp [Phi.put] at ha; subst ha; exact hL.p6
        · have := ltG e
          unfold Phi.put at ha
          rw [if_neg (by omega), if_neg (by omega)] at ha
          exact (tabne e ha).2.1
    · rw [addB_get] at e
      split at e
      · rename_i hc
        rw [hc] at ha
        have : (addB (startL G isTab) (.ro (Tr.fill pcells 0 .lf) pcells.length)).n = G + 1 := rfl
        rw [this] at ha
        simp only [Phi.put, if_true, Option.some.injEq] at ha; subst ha; exact hL.c6
      · rw [addB_get] at e
        split at e
        · cases e; cases hy
        · rw [start_fixed e] at hy; cases hy
  obtain ⟨arr, el, h1, h2⟩ := h.b7
  have main : ∀ c t y a', (addB (addB (addB (startL G isTab) (.ro (Tr.fill pcells 0 .lf) pcells.length)) (.cells (Tr.fill l 0 .lf) l.length none)) (.cells .lf 11 none)).h.get c = some (t, y) → ((((phi0 G).put G L.p).put (G + 1) L.c).put (G + 2) L.b6) c = some a' → a'.blk ≠ L.b7.blk := by
    intro c t y a' e ha
    rw [addB_get] at e
    split at e
    · rename_i hc
      rw [hc] at ha
      have : (addB (addB (startL G isTab) (.ro (Tr.fill pcells 0 .lf) pcells.length)) (.cells (Tr.fill l 0 .lf) l.length none)).n = G + 2 := rfl
      rw [this] at ha
      simp only [Phi.put, if_true, Option.some.injEq] at ha; subst ha; exact hL.b67
    · rw [addB_get] at e
      split at e
      · rename_i hc
        rw [hc] at ha
        have : (addB (startL G isTab) (.ro (Tr.fill pcells 0 .lf) pcells.length)).n = G + 1 := rfl
        rw [this] at ha
        simp [Phi.put] at ha; subst ha; exact hL.c7
      · rw [addB_get] at e
        split at e
        · rename_i hc; rw [hc, startL_n] at ha; simp [Phi.put] at ha; subst ha; exact hL.p7
        · have := ltG e
          unfold Phi.put at ha
          rw [if_neg (by omega), if_neg (by omega), if_neg (by omega)] at ha
          exact (tabne e ha).2.2
  exact RW.add r3 (by simp [Phi.put, phi0, addB, startL_n, Gk, Nat.add_assoc]) ⟨arr, el, h1, ⟨h2, fun i v hi hv => by cases hv⟩, fun z hz => by cases hz⟩ (fun _ => ⟨Nat.zero_le _, main⟩) (fun c t y a' e _ ha => main c t y a' e ha)
end
end
end Go.Proofs.YtkcdcnjpafblfaaDoor.cpuCounts

open Go
namespace Go.Proofs.YtkcdcnjpafblfaaDoor.cpuCounts
noncomputable section
open Go.Abs

def ev1 (env : Nat → Int) (a : AV) : Value := match seOf a with
  | some (k, e) => .int k (e.eval env)
  | none => undef

section
variable [F : Facts] [V : Vals]

theorem ev1_RV {φ : Phi} {a : AV} (h : (seOf a).isSome = true) : RV φ a (ev1 V.env a) := by
  unfold ev1
  cases e : seOf a with
  | none => rw [e] at h; cases h
  | some p => obtain ⟨k, y⟩ := p; exact RV.of_se e
theorem RV_ev1 {φ : Phi} {a : AV} {x : Value} (h : (seOf a).isSome = true) (hr : RV φ a x) : x = ev1 V.env a := by
  unfold ev1
  cases e : seOf a with
  | none => rw [e] at h; cases h
  | some p => obtain ⟨k, y⟩ := p; exact seOf_ok hr e

omit F V in
theorem hasO_ok {o : Option AV} {a : AV} (h : hasO o a = true) : o = some a := by
  unfold hasO at h
  split at h
  · rw [AV.beq_eq h]
  · cases h
omit V in
theorem sameO_ok {o : Option AV} {a : AV} (h : sameO o a = true) : ∃ v, o = some v ∧ sameA v a = true := by
  unfold sameO at h
  split at h
  · exact ⟨_, rfl, h⟩
  · cases h
omit F V in
theorem noDs_ok {l : List ADef} (h : noDs l = true) : l = [] := by
  cases l with
  | nil => rfl
  | cons _ _ => cases h
omit F V in
theorem isN_ok {e : Ex} (h : isN e = true) : e = .normal := by cases e <;> first | rfl | cases h
omit F V in
theorem isR_ok {e : Ex} (h : isR e = true) : e = .ret := by cases e <;> first | rfl | cases h

theorem hasCells_ok {φ : Phi} {B : Nat} {s : HS} {w : World} {b n : Nat} {l : List AV} {a : Lc} (h : RW φ B s w) (ha : φ b = some a) (hl : ∀ a ∈ l, (seOf a).isSome = true) (hn : l.length = n) (hh : hasCells s b n l = true) : Cell w a (evl V.env l) := by
  unfold hasCells at hh
  split at hh
  · rename_i t c m g e
    simp only [Bool.and_eq_true] at hh
    have hm := Nat.eq_of_beq_eq_true hh.1
    subst hm
    obtain ⟨a', ha', hb, _⟩ := h.blk b t _ e
    rw [ha] at ha'; cases ha'
    have hh := hh.2
    split at hh
    · rename_i k hk
      obtain ⟨arr, el, xs, h1, h2, h3, h4, h5⟩ := RB.cells_all hb hk
      have := RL_evl hl (sameL_ok hh h2)
      subst this
      have hlen : (evl V.env l).length = l.length := by simp [evl]
      exact ⟨arr, el, h1, by rw [hlen, hn]; exact h4, fun j hj => h5 j (by rw [hlen, hn] at hj; exact hj)⟩
    · cases hh
  · cases hh

theorem isCells_ok {φ : Phi} {B : Nat} {s : HS} {w : World} {b n : Nat} {a : Lc} (h : RW φ B s w) (ha : φ b = some a) (hh : isCells s b n = true) : Room w a n := by
  unfold isCells at hh
  split at hh
  · rename_i t c m g e
    have hm := Nat.eq_of_beq_eq_true hh
    subst hm
    obtain ⟨a', ha', hb, _⟩ := h.blk b t _ e
    rw [ha] at ha'; cases ha'
    obtain ⟨arr, el, h1, h2, _⟩ := hb
    exact ⟨arr, el, h1, h2.1⟩
  · cases hh

theorem re_t0 {L : Loc} {tmps : Array Value} {c : AV} (hc : (seOf c).isSome = true) (h : Tm L tmps (ev1 V.env c)) : RE (phiT L) (t0 c) 32 tmps := by
  refine ⟨h.size, fun i v hv => ?_⟩
  simp only [t0, Tr.get_set] at hv
  split at hv
  · rename_i e; subst e; cases hv; exact ⟨by omega, by rw [h.t9]; exact ev1_RV hc⟩
  · split at hv
    · rename_i e; subst e; cases hv; exact ⟨by omega, by rw [h.t7]; exact .ptr (phiT_7 L)⟩
    · split at hv
      · rename_i e; subst e; cases hv; exact ⟨by omega, by rw [h.t6]; exact .ptr (phiT_6 L)⟩
      · split at hv
        · rename_i e; subst e; cases hv; exact ⟨by omega, by rw [h.t4]; exact .ptr (phiT_c L)⟩
        · split at hv
          · rename_i e; subst e; cases hv; exact ⟨by omega, by rw [h.t2]; exact .val _⟩
          · split at hv
            · rename_i e; subst e; cases hv; exact ⟨by omega, by rw [h.t0]; exact .sl (phiT_p L) rfl (Nat.le_refl _) (fun _ => rfl)⟩
            · cases hv

theorem far_of {L : Loc} {l : List AV} {w w' : World} {ψ : Phi} {s' : HS} (k : Stp (phiT L) 0 (s0 l) w ψ s' w') : Far L w w' :=
  ⟨k.fr.os, k.fr.tape, k.fr.output, k.fr.size, fun r hr h1 h2 h3 => k.fr.heap r hr fun b t x a e hx ha => by
    rcases s0_open e hx with rfl | rfl | rfl
    · rw [phiT_c] at ha; cases ha; exact fun e => h1 e.symm
    · rw [phiT_6] at ha; cases ha; exact fun e => h2 e.symm
    · rw [phiT_7] at ha; cases ha; exact fun e => h3 e.symm⟩

omit F V in
theorem Text.far {L : Loc} {w w' : World} {l : List Value} (hL : Apart L) (h : Text w L.p l) (k : Far L w w') : Text w' L.p l := by
  obtain ⟨arr, el, fz, h1, h2, h3⟩ := h
  have hlt := (Array.getElem?_eq_some_iff.1 h1).1
  exact ⟨arr, el, fz, by rw [k.heap _ hlt hL.pc hL.p6 hL.p7]; exact h1, h2, h3⟩

omit F V in
theorem tabs_far {L : Loc} {w w' : World} (hL : Apart L) (h : HasTabs' G isTab w) (k : Far L w w') : HasTabs' G isTab w' := by
  intro p hp
  obtain ⟨h1, arr, el, fz, h2, h3⟩ := h p hp
  have hlt := (Array.getElem?_eq_some_iff.1 h2).1
  obtain ⟨a, b, c⟩ := hL.tab p hp
  exact ⟨h1, arr, el, fz, by rw [k.heap _ hlt a b c]; exact h2, h3⟩

theorem callok (B : Nat) : letI := noLoops; CallOK Tryd.prog B (callN Tryd.prog (cfg0 100000) 60) :=
  letI := noLoops
  callN_ok ⟨noLoops_ok, fun _ _ e => by cases e⟩ (fun _ h => region_any h) 60

theorem round_any {n : Int} {L : Loc} (hL : Apart L) (hn : V.env 0 = n) {l : List AV} {c : AV} (hl : ∀ a ∈ l, (seOf a).isSome = true) (hc : (seOf c).isSome = true) {chk : Ex × St → HS → Bool}
    (hrun : (run F l c).every 1000000000 chk = true) (hds : ∀ p s, chk p s = true → p.2.ds = []) {w : World} {tmps : Array Value} (hm : Mem n L w (evl V.env l)) (ht : Tm L tmps (ev1 V.env c))
    {fr : Frame} {cs : List Frame} {k : List Item} (hmode : fr.mode = .run) (hr : fr.roundOf = none) (hfn : fr.fn = 9) (htm : fr.tmps = tmps) (hdf : fr.defers = []) (hin : InFn Tryd.prog none 9 b9) (htodo : fr.todo = .code b9 :: .inLoop b9 :: k) :
    ∃ e st1 s1 ψ w1 tmps1, chk (e, st1) s1 = true ∧ (phiT L).le ψ ∧ RW ψ 0 s1 w1 ∧ Far L w w1 ∧ RE ψ st1.t st1.nt tmps1 ∧ Abs.Left Tryd.prog (lone fr cs w) (Frame' fr tmps1 [] (.inLoop b9 :: k)) (.inLoop b9 :: k) cs w1 e := by
  letI := noLoops
  have hfree : Free (phiT L) (s0 l).n 1000000000 := fun b hb _ => by
    rw [s0_n] at hb
    unfold phiT Phi.put phi0
    rw [if_neg (by omega), if_neg (by omega), if_neg (by omega), if_neg (by omega), if_neg (by omega)]
  obtain ⟨e, st1, s1, ψ, w1, tmps1, h1, h2, h3, h4, h5⟩ := round_run (N := 1000000000) (fr := fr) (cs := cs) (k := k) (noLoops_ok (P := Tryd.prog) (B := 0)) (callok 0) (region_any (callok 0)) (fn := 9) (b := b9) (fuel := 100000) (nt := 32) (t0 := t0 c) (s0 := s0 l) hrun hds
    (rw_s0 hL hl hn hm) (Nat.zero_le _) hfree (fun g hg => phiT_g L hg) (by rw [htm]; exact re_t0 hc ht) hmode hr hfn hdf hin htodo
  exact ⟨e, st1, s1, ψ, w1, tmps1, h1, h2.le, h2.rw, far_of h2, h3, h5⟩

theorem roundN {n : Int} {L : Loc} (hL : Apart L) (hn : V.env 0 = n) {l l' : List AV} {c c' : AV} (hl : ∀ a ∈ l, (seOf a).isSome = true) (hl' : ∀ a ∈ l', (seOf a).isSome = true) (hlen : l'.length = 11) (hc : (seOf c).isSome = true) (hc' : (seOf c').isSome = true)
    (hrun : (run F l c).every 1000000000 (chkN l' c') = true) {w : World} {tmps : Array Value} (hm : Mem n L w (evl V.env l)) (ht : Tm L tmps (ev1 V.env c))
    {fr : Frame} {cs : List Frame} {k : List Item} (hmode : fr.mode = .run) (hr : fr.roundOf = none) (hfn : fr.fn = 9) (htm : fr.tmps = tmps) (hdf : fr.defers = []) (hin : InFn Tryd.prog none 9 b9) (htodo : fr.todo = .code b9 :: .inLoop b9 :: k) :
    ∃ w1 tmps1, Abs.Left Tryd.prog (lone fr cs w) (Frame' fr tmps1 [] (.inLoop b9 :: k)) (.inLoop b9 :: k) cs w1 .normal ∧ Mem n L w1 (evl V.env l') ∧ Tm L tmps1 (ev1 V.env c') ∧ Far L w w1 := by
  obtain ⟨e, st1, s1, ψ, w1, tmps1, h1, hle, hrw, hfar, hre, hleft⟩ := round_any hL hn hl hc hrun (fun p s h => by simp only [chkN, Bool.and_eq_true] at h; exact noDs_ok h.2.1) hm ht hmode hr hfn htm hdf hin htodo
  simp only [chkN, keeps, Bool.and_eq_true] at h1
  obtain ⟨g1, g2, g3, ⟨k0, k2, k4, k6, k7⟩, g5, g6, g7, g8⟩ := h1
  have := isN_ok g1
  subst this
  have hnt := Nat.eq_of_beq_eq_true g3
  refine ⟨w1, tmps1, hleft, ⟨tabs_far hL hm.tab hfar, hm.p.far hL hfar, hasCells_ok hrw (hle _ _ (phiT_c L)) hl' hlen g6, isCells_ok hrw (hle _ _ (phiT_6 L)) g7, isCells_ok hrw (hle _ _ (phiT_7 L)) g8⟩, ?_, hfar⟩
  have ptr : ∀ {i b : Nat} {a : Lc}, st1.t.get i = some (.ptr b 0) → phiT L b = some a → tmps1.getD i undef = .pointer (some ⟨a.blk, a.off + 0, none⟩) := by
    intro i b a e ha
    have := (hre.some i _ e).2
    generalize tmps1.getD i undef = x at this ⊢
    cases this with | ptr e' =>
    rw [hle _ _ ha] at e'; cases e'
    rfl
  obtain ⟨v, hv, hsame⟩ := sameO_ok g5
  refine ⟨by rw [hre.size, hnt], ?_, ?_, ptr (hasO_ok k4) (phiT_c L), ptr (hasO_ok k6) (phiT_6 L), ptr (hasO_ok k7) (phiT_7 L), RV_ev1 hc' (sameA_ok hsame (hre.some 9 v hv).2)⟩
  · have := (hre.some 0 _ (hasO_ok k0)).2
    unfold aSl at this
    generalize tmps1.getD 0 undef = x at this
    cases this with | sl e' hcp hlp hop =>
    rw [hle _ _ (phiT_p L)] at e'; cases e'
    simp only at hcp
    subst hcp
    rw [hop (by omega)]
  · have := (hre.some 2 _ (hasO_ok k2)).2
    unfold I at this
    generalize tmps1.getD 2 undef = x at this
    cases this
    rfl
end
end
end Go.Proofs.YtkcdcnjpafblfaaDoor.cpuCounts

open Go
namespace Go.Proofs.YtkcdcnjpafblfaaDoor.cpuCounts
noncomputable section
open Go.Abs

def ctxv (pc a b c : Int) : List Value := ([0, pc, a, b, c, 0, 0, 0, 0, 0, 0] : List Int).map (.int .i64)
def envQ (n r s c : Int) (i : Nat) : Int := match i with
  | 0 => n
  | 1 => r
  | 2 => s
  | 3 => c
  | _ => 0

structure Bds (n r s c : Int) : Prop where
  n0 : 0 ≤ n
  n1 : n ≤ 255
  r0 : 1 ≤ r
  r1 : r ≤ 256
  s0 : 0 ≤ s
  s1 : s ≤ 256
  c0 : 1 ≤ c
  c1 : c ≤ 1000

theorem envQ_mid {n r s c : Int} (h : Bds n r s c) (i : Nat) : -9223372036854775808 ≤ envQ n r s c i ∧ envQ n r s c i ≤ 18446744073709551615 := by
  obtain ⟨h1, h2, h3, h4, h5, h6, h7, h8⟩ := h
  unfold envQ
  split <;> omega

theorem pc0_ok {n r s c : Int} (h : Bds n r s c) : ∀ p ∈ pc0, p.1.eval (envQ n r s c) = p.2 := by
  intro p hp
  simp only [pc0, List.mem_cons, List.not_mem_nil, or_false] at hp
  rcases hp with rfl | rfl | rfl | rfl | rfl | rfl | rfl | rfl
  · exact decide_eq_true h.n0
  · exact decide_eq_true h.n1
  · exact decide_eq_true h.r0
  · exact decide_eq_true h.r1
  · exact decide_eq_true h.s0
  · exact decide_eq_true h.s1
  · exact decide_eq_true h.c0
  · exact decide_eq_true h.c1

theorem pc1_ok {n r s c : Int} (h : Bds n r s c) {d : Bool} (hd : decide (r = 1) = d) : ∀ p ∈ ((.eq (.var 1) (.lit 1), d) :: pc0 : List (SB × Bool)), p.1.eval (envQ n r s c) = p.2 := by
  intro p hp
  rcases List.mem_cons.1 hp with rfl | hp
  · exact hd
  · exact pc0_ok h p hp

inductive Shape (n : Int) : Nat → List Value → Int → Prop
  | s0 : Shape n 2000 (ctxv 0 0 0 0) 1
  | s1 : Shape n 1999 (ctxv 1 (n + 1) 0 0) 2
  | s2 (r : Int) (h : 1 ≤ r) (h' : r ≤ n + 1) : Shape n (2 * r.toNat + 1) (ctxv 2 r 1 (n + 1 - r)) (3 + 2 * (n + 1 - r))
  | s3 (r : Int) (h : 1 ≤ r) (h' : r ≤ n + 1) : Shape n (2 * r.toNat) (ctxv 3 r 1 (n + 2 - r)) (4 + 2 * (n + 1 - r))
  | s4 : Shape n 0 (ctxv 4 0 1 (n + 1)) (5 + 2 * n)

structure Inv (n : Int) (L : Loc) (we : World) (μ : Nat) (w : World) (tmps : Array Value) : Prop where
  ex : ∃ cv c, Mem n L w cv ∧ Tm L tmps (.int .i64 c) ∧ Shape n μ cv c
  far : Far L we w

structure Post (n : Int) (L : Loc) (we : World) (e : Ex) (w : World) (tmps : Array Value) : Prop where
  ret : e = .ret
  far : Far L we w
  c : Room w L.c 11
  b6 : Cell w L.b6 (ctxv 5 0 1 (n + 1))
  b7 : Cell w L.b7 (([11, n + 1, 0, 0] : List Int).map (.int .i64))
  size : tmps.size = 32
  t6 : tmps.getD 6 undef = .pointer (some ⟨L.b6.blk, L.b6.off + 0, none⟩)
  t7 : tmps.getD 7 undef = .pointer (some ⟨L.b7.blk, L.b7.off + 0, none⟩)
  t8 : tmps.getD 8 undef = .int .i64 (5 + 2 * n)

theorem ints_ctx (pc : Int) {a b c : AV} (ha : (seOf a).isSome = true) (hb : (seOf b).isSome = true) (hc : (seOf c).isSome = true) : ∀ x ∈ ctx pc a b c, (seOf x).isSome = true := by
  intro x hx
  simp only [ctx, List.mem_cons, List.not_mem_nil, or_false] at hx
  rcases hx with rfl | rfl | rfl | rfl | rfl | rfl | rfl | rfl | rfl | rfl | rfl <;> first | rfl | assumption

theorem roundR [F : Facts] [V : Vals] {n : Int} {L : Loc} (hL : Apart L) (hn : V.env 0 = n) {l l' k' : List AV} {c c' : AV} (hl : ∀ a ∈ l, (seOf a).isSome = true) (hl' : ∀ a ∈ l', (seOf a).isSome = true) (hlen : l'.length = 11) (hk' : ∀ a ∈ k', (seOf a).isSome = true) (hklen : k'.length = 4) (hc : (seOf c).isSome = true) (hc' : (seOf c').isSome = true)
    (hrun : (run F l c).every 1000000000 (chkR l' k' c') = true) {w : World} {tmps : Array Value} (hm : Mem n L w (evl V.env l)) (ht : Tm L tmps (ev1 V.env c))
    {fr : Frame} {cs : List Frame} {k : List Item} (hmode : fr.mode = .run) (hr : fr.roundOf = none) (hfn : fr.fn = 9) (htm : fr.tmps = tmps) (hdf : fr.defers = []) (hin : InFn Tryd.prog none 9 b9) (htodo : fr.todo = .code b9 :: .inLoop b9 :: k) :
    ∃ w1 tmps1, Abs.Left Tryd.prog (lone fr cs w) (Frame' fr tmps1 [] (.inLoop b9 :: k)) (.inLoop b9 :: k) cs w1 .ret ∧ Far L w w1 ∧ Room w1 L.c 11 ∧ Cell w1 L.b6 (evl V.env l') ∧ Cell w1 L.b7 (evl V.env k') ∧ tmps1.size = 32 ∧
      tmps1.getD 6 undef = .pointer (some ⟨L.b6.blk, L.b6.off + 0, none⟩) ∧ tmps1.getD 7 undef = .pointer (some ⟨L.b7.blk, L.b7.off + 0, none⟩) ∧ tmps1.getD 8 undef = ev1 V.env c' := by
  obtain ⟨e, st1, s1, ψ, w1, tmps1, h1, hle, hrw, hfar, hre, hleft⟩ := round_any hL hn hl hc hrun (fun p s h => by simp only [chkR, Bool.and_eq_true] at h; exact noDs_ok h.2.1) hm ht hmode hr hfn htm hdf hin htodo
  simp only [chkR, Bool.and_eq_true] at h1
  obtain ⟨g1, g2, g3, k6, k7, g5, g6, g7, g8⟩ := h1
  have := isR_ok g1
  subst this
  have hnt := Nat.eq_of_beq_eq_true g3
  have ptr : ∀ {i b : Nat} {a : Lc}, st1.t.get i = some (.ptr b 0) → phiT L b = some a → tmps1.getD i undef = .pointer (some ⟨a.blk, a.off + 0, none⟩) := by
    intro i b a e ha
    have := (hre.some i _ e).2
    generalize tmps1.getD i undef = x at this ⊢
    cases this with | ptr e' =>
    rw [hle _ _ ha] at e'; cases e'
    rfl
  obtain ⟨v, hv, hsame⟩ := sameO_ok g5
  exact ⟨w1, tmps1, hleft, hfar, isCells_ok hrw (hle _ _ (phiT_c L)) g6, hasCells_ok hrw (hle _ _ (phiT_6 L)) hl' hlen g7, hasCells_ok hrw (hle _ _ (phiT_7 L)) hk' hklen g8, by rw [hre.size, hnt], ptr (hasO_ok k6) (phiT_6 L), ptr (hasO_ok k7) (phiT_7 L), RV_ev1 hc' (sameA_ok hsame (hre.some 8 v hv).2)⟩

theorem all_rounds {n : Int} (hn0 : 0 ≤ n) (hn1 : n ≤ 255) {L : Loc} (hL : Apart L) {we : World} (hin : InFn Tryd.prog none 9 b9) :
    ∀ μ w tmps (fr : Frame) (cs : List Frame) (k : List Item), Inv n L we μ w tmps → fr.mode = .run → fr.roundOf = none → fr.fn = 9 → fr.tmps = tmps → fr.defers = [] → fr.todo = .code b9 :: .inLoop b9 :: k →
      ∃ e w1 tmps1, Abs.Left Tryd.prog (lone fr cs w) (Frame' fr tmps1 [] k) k cs w1 e ∧ Post n L we e w1 tmps1 := by
  refine loop_rounds fun μ w tmps fr cs k hi hmode hr hfn htm hdf htodo => ?_
  obtain ⟨⟨cv, c, hm, ht, hs⟩, hfar⟩ := hi
  cases hs with
  | s0 =>
    have hb : Bds n 1 0 1 := ⟨hn0, hn1, by omega, by omega, by omega, by omega, by omega, by omega⟩
    letI F : Facts := ⟨pc0⟩
    letI V : Vals := ⟨envQ n 1 0 1, pc0_ok hb, envQ_mid hb⟩
    obtain ⟨w1, tmps1, h1, h2, h3, h4⟩ := roundN hL (n := n) rfl (l := ctx 0 (I 0) (I 0) (I 0)) (c := I 1) (ints_ctx _ rfl rfl rfl) (ints_ctx _ rfl rfl rfl) rfl rfl rfl run0 hm ht (fr := fr) (cs := cs) (k := k) hmode hr hfn htm hdf hin htodo
    exact ⟨.normal, w1, tmps1, h1, .inl ⟨rfl, 1999, by omega, ⟨_, 2, h2, h3, .s1⟩, hfar.trans h4⟩⟩
  | s1 =>
    have hb : Bds n 1 0 1 := ⟨hn0, hn1, by omega, by omega, by omega, by omega, by omega, by omega⟩
    letI F : Facts := ⟨pc0⟩
    letI V : Vals := ⟨envQ n 1 0 1, pc0_ok hb, envQ_mid hb⟩
    obtain ⟨w1, tmps1, h1, h2, h3, h4⟩ := roundN hL (n := n) rfl (l := ctx 1 NN (I 0) (I 0)) (c := I 2) (ints_ctx _ rfl rfl rfl) (ints_ctx _ rfl rfl rfl) rfl rfl rfl run1 hm ht (fr := fr) (cs := cs) (k := k) hmode hr hfn htm hdf hin htodo
    have hsh := Shape.s2 (n := n) (n + 1) (by omega) (by omega)
    rw [show n + 1 - (n + 1) = 0 by omega] at hsh
    exact ⟨.normal, w1, tmps1, h1, .inl ⟨rfl, _, by omega, ⟨_, 3, h2, h3, hsh⟩, hfar.trans h4⟩⟩
  | s2 r hr1 hr2 =>
    have hb : Bds n r (n + 1 - r) (3 + 2 * (n + 1 - r)) := ⟨hn0, hn1, by omega, by omega, by omega, by omega, by omega, by omega⟩
    letI F : Facts := ⟨pc0⟩
    letI V : Vals := ⟨envQ n r (n + 1 - r) (3 + 2 * (n + 1 - r)), pc0_ok hb, envQ_mid hb⟩
    obtain ⟨w1, tmps1, h1, h2, h3, h4⟩ := roundN hL (n := n) rfl (l := ctx 2 rr (I 1) ss) (c := cc) (ints_ctx _ rfl rfl rfl) (ints_ctx _ rfl rfl rfl) rfl rfl rfl run2 hm ht (fr := fr) (cs := cs) (k := k) hmode hr hfn htm hdf hin htodo
    have hsh := Shape.s3 (n := n) r hr1 hr2
    rw [show n + 2 - r = n + 1 - r + 1 by omega, show 4 + 2 * (n + 1 - r) = 3 + 2 * (n + 1 - r) + 1 by omega] at hsh
    exact ⟨.normal, w1, tmps1, h1, .inl ⟨rfl, _, by omega, ⟨_, _, h2, h3, hsh⟩, hfar.trans h4⟩⟩
  | s3 r hr1 hr2 =>
    have hb : Bds n r (n + 2 - r) (4 + 2 * (n + 1 - r)) := ⟨hn0, hn1, by omega, by omega, by omega, by omega, by omega, by omega⟩
    by_cases h1r : r = 1
    · letI F : Facts := ⟨(.eq (.var 1) (.lit 1), true) :: pc0⟩
      letI V : Vals := ⟨envQ n r (n + 2 - r) (4 + 2 * (n + 1 - r)), pc1_ok hb (decide_eq_true h1r), envQ_mid hb⟩
      obtain ⟨w1, tmps1, h1, h2, h3, h4⟩ := roundN hL (n := n) rfl (l := ctx 3 rr (I 1) ss) (c := cc) (ints_ctx _ rfl rfl rfl) (ints_ctx _ rfl rfl rfl) rfl rfl rfl run3' hm ht (fr := fr) (cs := cs) (k := k) hmode hr hfn htm hdf hin htodo
      have hsh := Shape.s4 (n := n)
      rw [show n + 1 = n + 2 - r by omega, show 5 + 2 * n = 4 + 2 * (n + 1 - r) + 1 by omega] at hsh
      exact ⟨.normal, w1, tmps1, h1, .inl ⟨rfl, 0, by omega, ⟨_, _, h2, h3, hsh⟩, hfar.trans h4⟩⟩
    · letI F : Facts := ⟨(.eq (.var 1) (.lit 1), false) :: pc0⟩
      letI V : Vals := ⟨envQ n r (n + 2 - r) (4 + 2 * (n + 1 - r)), pc1_ok hb (decide_eq_false h1r), envQ_mid hb⟩
      obtain ⟨w1, tmps1, h1, h2, h3, h4⟩ := roundN hL (n := n) rfl (l := ctx 3 rr (I 1) ss) (c := cc) (ints_ctx _ rfl rfl rfl) (ints_ctx _ rfl rfl rfl) rfl rfl rfl run3 hm ht (fr := fr) (cs := cs) (k := k) hmode hr hfn htm hdf hin htodo
      have hsh := Shape.s2 (n := n) (r + -1) (by omega) (by omega)
      rw [show n + 1 - (r + -1) = n + 2 - r by omega, show 3 + 2 * (n + 2 - r) = 4 + 2 * (n + 1 - r) + 1 by omega] at hsh
      exact ⟨.normal, w1, tmps1, h1, .inl ⟨rfl, _, by omega, ⟨_, _, h2, h3, hsh⟩, hfar.trans h4⟩⟩
  | s4 =>
    have hb : Bds n 1 (n + 1) (5 + 2 * n) := ⟨hn0, hn1, by omega, by omega, by omega, by omega, by omega, by omega⟩
    letI F : Facts := ⟨pc0⟩
    letI V : Vals := ⟨envQ n 1 (n + 1) (5 + 2 * n), pc0_ok hb, envQ_mid hb⟩
    obtain ⟨w1, tmps1, h1, h2, h3, h4, h5, h6, h7, h8, h9⟩ := roundR hL (n := n) rfl (l := ctx 4 (I 0) (I 1) ss) (k' := [I 11, ss, I 0, I 0]) (c := cc) (ints_ctx _ rfl rfl rfl) (ints_ctx _ rfl rfl rfl) rfl
      (fun x hx => by
        simp only [List.mem_cons, List.not_mem_nil, or_false] at hx
        rcases hx with rfl | rfl | rfl | rfl <;> rfl) rfl rfl rfl run4 hm ht (fr := fr) (cs := cs) (k := k) hmode hr hfn htm hdf hin htodo
    exact ⟨.ret, w1, tmps1, h1, .inr ⟨by simp, rfl, hfar.trans h2, h3, h4, h5, h6, h7, h8, h9⟩⟩
end
end Go.Proofs.YtkcdcnjpafblfaaDoor.cpuCounts

open Go
namespace Go.Proofs.YtkcdcnjpafblfaaDoor.cpuCounts
noncomputable section
open Go.Abs

def cntE : SE := .wr .i64 (.add (.wr .i64 (.mul (.lit 2) (.add (.var 0) (.lit 1)))) (.lit 3))
def lastC : List AV := ctx 5 (I 0) (I 1) NN
def lastK : List AV := [I 11, NN, I 0, I 0]
noncomputable def tR : Env := ((Tr.lf.set 6 (.ptr (G + 2) 0)).set 7 (.ptr (G + 3) 0)).set 8 (X cntE)

theorem lastC_int : ∀ a ∈ lastC, (seOf a).isSome = true := ints_ctx _ rfl rfl rfl
theorem lastK_int : ∀ a ∈ lastK, (seOf a).isSome = true := by
  intro x hx
  simp only [lastK, List.mem_cons, List.not_mem_nil, or_false] at hx
  rcases hx with rfl | rfl | rfl | rfl <;> rfl

theorem cntE_eval {env : Nat → Int} {n : Int} (h : env 0 = n) (h0 : 0 ≤ n) (h1 : n ≤ 255) : cntE.eval env = 5 + 2 * n := by
  simp only [cntE, SE.eval, h]
  rw [wrap_in .i64 (2 * (n + 1)) (by simp only [kmin]; omega) (by simp only [kmax]; omega)]
  rw [wrap_in .i64 _ (by simp only [kmin]; omega) (by simp only [kmax]; omega)]
  omega

section
variable [F : Facts]
noncomputable def hasRo (s : HS) : Bool := match s.h.get G with
  | some (_, .ro c m) => Nat.ble 20 m && (match takeA c 0 20 with
    | some k => sameL k pcells
    | none => false)
  | _ => false
noncomputable def head (st : St) (s : HS) : Bool := noDs st.ds && (Nat.beq st.nt 32 && (keeps st.t && (sameO (st.t.get 9) (I 1) && (hasCells s (G + 1) 11 (ctx 0 (I 0) (I 0) (I 0)) && (isCells s (G + 2) 11 && (isCells s (G + 3) 4 && (hasRo s && (isTab.all (tabIn s) && Nat.ble s.lim (G + 1)))))))))
noncomputable def after : M (Ex × St) :=
  M.bind (delB (G + 1)) fun _ => M.bind (setB (G + 2) (.cells (Tr.fill lastC 0 .lf) lastC.length none)) fun _ => M.bind (setB (G + 3) (.cells (Tr.fill lastK 0 .lf) lastK.length none)) fun _ => M.pure (.ret, ⟨tR, 32, []⟩)
noncomputable def f1 (st : St) : M (Ex × St) := fun s => bif head st s then after s else .bad "not the loop's head"
end

@[reducible] noncomputable def loops1 [F : Facts] : Loops := ⟨fun fn key => bif Nat.beq fn 9 && Nat.beq key 3 then some f1 else none⟩

theorem after_tame : Tame after := Tame.bind (Tame.delB _) fun _ => Tame.bind (Tame.setB _ _) fun _ => Tame.bind (Tame.setB _ _) fun _ => Tame.pure _

theorem loops1_inv [F : Facts] {fn key : Nat} {f : St → M (Ex × St)} (h : (loops1 (F := F)).sum fn key = some f) : fn = 9 ∧ key = 3 ∧ f = f1 := by
  rcases bif_some h with ⟨hc, e⟩ | ⟨_, e⟩
  · simp only [Bool.and_eq_true] at hc
    exact ⟨Nat.eq_of_beq_eq_true hc.1, Nat.eq_of_beq_eq_true hc.2, by cases e; rfl⟩
  · cases e

instance tame1 [F : Facts] : @TameL loops1 := by
  letI := loops1 (F := F)
  refine ⟨fun fn key f h st s hs => ?_⟩
  obtain ⟨_, _, rfl⟩ := loops1_inv h
  unfold f1
  cases head st s
  · trivial
  · exact after_tame s hs

section
variable [F : Facts] [V : Vals]

omit F V in
theorem setB_up {s : HS} {b t : Nat} {x y : Blk} (h : s.wf) (he : s.h.get b = some (t, y)) (hy : y.fixed = false) (hx : x.fixed = false) (hl : s.lim ≤ b) : Up s { s with h := s.h.set b (s.clk + 1, x), clk := s.clk + 1 } := by
  have := Tame.setB b x s h
  rw [setB_eq] at this
  simp only [he] at this
  have hc : (Nat.ble s.lim b && !y.fixed && !x.fixed) = true := by simp [hy, hx, hl]
  rw [hc] at this
  exact this

theorem hasRo_ok {φ : Phi} {B : Nat} {s : HS} {w : World} {n : Int} (hn : V.env 0 = n) (h : RW φ B s w) (hh : hasRo s = true) : ∃ a t x, φ G = some a ∧ s.h.get G = some (t, x) ∧ Text w a (pv n) := by
  unfold hasRo at hh
  split at hh
  · rename_i t c m e
    simp only [Bool.and_eq_true] at hh
    have hm := Nat.le_of_ble_eq_true hh.1
    obtain ⟨a, ha, ⟨arr, el, fz, h1, h2⟩, _⟩ := h.blk G t _ e
    have hh := hh.2
    split at hh
    · rename_i k hk
      obtain ⟨xs, k1, k2, k3⟩ := take_ok h2 20 0 k (by omega) hk
      have := RL_evl pcells_int (sameL_ok hh k1)
      rw [pcells_ev hn] at this
      subst this
      have h3 := h2.1
      exact ⟨a, t, _, ha, e, arr, el, fz, h1, by simp [pv]; omega, fun j hj => by simpa using k3 j (by simpa [pv] using hj)⟩
    · cases hh
  · cases hh

omit F V in
theorem isCells_get {s : HS} {b n : Nat} (h : isCells s b n = true) : ∃ t x, s.h.get b = some (t, x) ∧ x.fixed = false := by
  unfold isCells at h
  split at h
  · rename_i t c m g e; exact ⟨t, _, e, rfl⟩
  · cases h
omit V in
theorem hasCells_get {s : HS} {b n : Nat} {l : List AV} (h : hasCells s b n l = true) : ∃ t x, s.h.get b = some (t, x) ∧ x.fixed = false := by
  unfold hasCells at h
  split at h
  · rename_i t c m g e; exact ⟨t, _, e, rfl⟩
  · cases h

omit F V in
theorem tab_lt : ∀ p ∈ isTab, p.1 < Tryd.prog.globals.size := fun p hp => Nat.le_of_ble_eq_true (List.all_eq_true.1 (show (isTab.all fun p => Nat.ble (p.1 + 1) Tryd.prog.globals.size) = true by kernel_rfl) p hp)

theorem loops_ok {n : Int} (hn : V.env 0 = n) (hn0 : 0 ≤ n) (hn1 : n ≤ 255) (B : Nat) : @LoopsOK F V loops1 Tryd.prog B := by
  intro fn key f e b func body hf hb hsub hk N cs st s φ w fr k h hB hfree hg hr hfn ht
  obtain ⟨rfl, rfl, rfl⟩ := loops1_inv e
  have hb9 := loop_is hf hb the_loop hsub hk
  subst hb9
  unfold f1
  cases hh : head st s
  · trivial
  simp only [cond_true]
  simp only [head, keeps, Bool.and_eq_true] at hh
  obtain ⟨g1, g2, ⟨k0, k2, k4, k6, k7⟩, g3, g4, g5, g6, g7, g8, g9⟩ := hh
  have hds := noDs_ok g1
  have hnt := Nat.eq_of_beq_eq_true g2
  have hlim := Nat.le_of_ble_eq_true g9
  obtain ⟨t1, y1, e1, f1'⟩ := hasCells_get g4
  obtain ⟨t2, y2, e2, f2'⟩ := isCells_get g5
  obtain ⟨t3, y3, e3, f3'⟩ := isCells_get g6
  obtain ⟨a0, t00, y0, ha0, e0, htext⟩ := hasRo_ok hn h g7
  obtain ⟨a1, ha1, _, _⟩ := h.blk _ _ _ e1
  obtain ⟨a2, ha2, _, _⟩ := h.blk _ _ _ e2
  obtain ⟨a3, ha3, _, _⟩ := h.blk _ _ _ e3
  have htabs := tabs_in h hg tab_lt g8
  let L : Loc := ⟨a0, a1, a2, a3⟩
  have hL : Apart L := by
    refine ⟨(h.inj _ _ _ _ _ _ _ _ e1 e0 f1' (by omega) ha1 ha0).symm, (h.inj _ _ _ _ _ _ _ _ e2 e0 f2' (by omega) ha2 ha0).symm, (h.inj _ _ _ _ _ _ _ _ e3 e0 f3' (by omega) ha3 ha0).symm, h.inj _ _ _ _ _ _ _ _ e1 e2 f1' (by omega) ha1 ha2, h.inj _ _ _ _ _ _ _ _ e1 e3 f1' (by omega) ha1 ha3, h.inj _ _ _ _ _ _ _ _ e2 e3 f2' (by omega) ha2 ha3, fun p hp => ?_⟩
    have hpt := List.all_eq_true.1 g8 p hp
    have hlt := tab_lt p hp
    have hφ := hg p.1 hlt
    have hltG : p.1 < G := hlt
    unfold tabIn at hpt
    split at hpt
    · rename_i tt cc' nn' ee
      exact ⟨(h.inj _ _ _ _ _ _ _ _ e1 ee f1' (by omega) ha1 hφ).symm, (h.inj _ _ _ _ _ _ _ _ e2 ee f2' (by omega) ha2 hφ).symm, (h.inj _ _ _ _ _ _ _ _ e3 ee f3' (by omega) ha3 hφ).symm⟩
    · cases hpt
  have hmem : Mem n L w (ctxv 0 0 0 0) := ⟨htabs, htext, hasCells_ok h ha1 (ints_ctx _ rfl rfl rfl) rfl g4, isCells_ok h ha2 g5, isCells_ok h ha3 g6⟩
  have ptr : ∀ {i b : Nat} {a : Lc}, st.t.get i = some (.ptr b 0) → φ b = some a → fr.tmps.getD i undef = .pointer (some ⟨a.blk, a.off + 0, none⟩) := by
    intro i b a e ha
    have := (hr.re.some i _ e).2
    generalize fr.tmps.getD i undef = x at this ⊢
    cases this with | ptr e' =>
    rw [ha] at e'; cases e'
    rfl
  have htm : Tm L fr.tmps (.int .i64 1) := by
    obtain ⟨v, hv, hsame⟩ := sameO_ok g3
    refine ⟨by rw [hr.re.size, hnt], ?_, ?_, ptr (hasO_ok k4) ha1, ptr (hasO_ok k6) ha2, ptr (hasO_ok k7) ha3, RV_ev1 (a := I 1) rfl (sameA_ok hsame (hr.re.some 9 v hv).2)⟩
    · have := (hr.re.some 0 _ (hasO_ok k0)).2
      unfold aSl at this
      generalize fr.tmps.getD 0 undef = x at this
      cases this with | sl e' hcp hlp hop =>
      rw [ha0] at e'; cases e'
      simp only at hcp
      subst hcp
      rw [hop (by omega)]
    · have := (hr.re.some 2 _ (hasO_ok k2)).2
      unfold I at this
      generalize fr.tmps.getD 2 undef = x at this
      cases this
      rfl
  have hdf : fr.defers = [] := by
    have := hr.ds
    rw [hds] at this
    generalize fr.defers = d at this
    cases this
    rfl
  obtain ⟨e, w1, tmps1, hleft, hp⟩ := all_rounds hn0 hn1 hL (we := w) (fun _ => ⟨func, body, hf, hb, .loop hsub⟩) 2000 w fr.tmps fr cs k ⟨⟨_, 1, hmem, htm, .s0⟩, Far.refl _ _⟩ hr.mode hr.round hfn rfl hdf ht
  have he := hp.ret
  subst he
  unfold after
  refine wp_bind (delB_wp fun t1' y1' e1' hf1 hl1 => ?_)
  refine wp_bind (setB_wp fun t2' y2' e2' hf2 hx2 hl2 => ?_)
  refine wp_bind (setB_wp fun t3' y3' e3' hf3 hx3 hl3 => ?_)
  refine wp_pure fun hN => ?_
  have d := del_stp h e1' hf1 hl1
  have up2 := setB_up (x := .cells (Tr.fill lastC 0 .lf) lastC.length none) d.rw.wf e2' hf2 hx2 hl2
  have up3 := setB_up (x := .cells (Tr.fill lastK 0 .lf) lastK.length none) up2.wf e3' hf3 hx3 hl3
  have hlc : (evl V.env lastC) = ctxv 5 0 1 (n + 1) := by simp [evl, lastC, ctx, ctxv, I, X, NN, seOf, SE.eval, hn]
  have hlk : (evl V.env lastK) = ([11, n + 1, 0, 0] : List Int).map (.int .i64) := by simp [evl, lastK, I, X, NN, seOf, SE.eval, hn]
  refine ⟨φ, w1, tmps1, [], Stp.of_world h ((d.up.trans up2).trans up3) rfl hp.far.os hp.far.tape hp.far.output hp.far.size (fun r hr' hno => hp.far.heap r hr' (fun e => hno _ _ _ _ e1 f1' ha1 e.symm) (fun e => hno _ _ _ _ e2 f2' ha2 e.symm) (fun e => hno _ _ _ _ e3 f3' ha3 e.symm)) (fun b t x ex => ?_), ?_, .nil, hleft⟩
  · simp only [Tr.get_set, Tr.get_del] at ex
    split at ex
    · rename_i hb3; subst hb3; cases ex
      refine ⟨t3, y3, e3, fun _ => f3', fun a ha _ => ?_⟩
      rw [ha3] at ha; cases ha
      obtain ⟨arr, el, q1, q2, q3⟩ := hp.b7
      exact RB.cells_mk q1 (evl_RL lastK_int) (by simpa [lastK] using q2) (fun j hj => by rw [hlk]; exact q3 j (by simpa [lastK] using hj))
    · split at ex
      · rename_i hb2; subst hb2; cases ex
        refine ⟨t2, y2, e2, fun _ => f2', fun a ha _ => ?_⟩
        rw [ha2] at ha; cases ha
        obtain ⟨arr, el, q1, q2, q3⟩ := hp.b6
        exact RB.cells_mk q1 (evl_RL lastC_int) (by simpa [lastC, ctx, ctxv] using q2) (fun j hj => by rw [hlc]; exact q3 j (by simpa [lastC, ctx, ctxv] using hj))
      · split at ex
        · cases ex
        · rename_i nb3 nb2 nb1
          refine ⟨t, x, ex, fun hx => hx, fun a ha hrb => hrb.of_heap (hp.far.heap _ hrb.lt ?_ ?_ ?_)⟩
          · exact (h.inj _ _ _ _ _ _ _ _ e1 ex f1' (fun e => nb1 e.symm) ha1 ha).symm
          · exact (h.inj _ _ _ _ _ _ _ _ e2 ex f2' (fun e => nb2 e.symm) ha2 ha).symm
          · exact (h.inj _ _ _ _ _ _ _ _ e3 ex f3' (fun e => nb3 e.symm) ha3 ha).symm
  · show RE φ tR 32 tmps1
    refine ⟨hp.size, fun i v hv => ?_⟩
    simp only [tR, Tr.get_set] at hv
    split at hv
    · rename_i ei; subst ei; cases hv
      exact ⟨by omega, by rw [hp.t8]; exact .sx (cntE_eval hn hn0 hn1)⟩
    · split at hv
      · rename_i ei; subst ei; cases hv; exact ⟨by omega, by rw [hp.t7]; exact .ptr ha3⟩
      · split at hv
        · rename_i ei; subst ei; cases hv; exact ⟨by omega, by rw [hp.t6]; exact .ptr ha2⟩
        · cases hv
end
end
end Go.Proofs.YtkcdcnjpafblfaaDoor.cpuCounts

open Go
namespace Go.Proofs.YtkcdcnjpafblfaaDoor.cpuCounts
noncomputable section
open Go.Abs

@[reducible] def F0 : Facts := ⟨pcOf [(0, .u8)]⟩
noncomputable def sT : HS := addB (startL G isTab) (.ro (Tr.fill pcells 0 .lf) pcells.length)
def ctx0 : List AV := ctx 0 (I 0) (I 0) (I 0)
noncomputable def args9 : List AV := [aSl, .agg ctx0, I 2000]
def chkV [Facts] (v : AV) (_ : HS) : Bool := match v with
  | .tup [.agg l, .agg k, c] => sameL l lastC && (sameL k lastK && sameA c (X cntE))
  | _ => false
set_option maxRecDepth 1000000 in
theorem run9 : ((letI := F0; letI := loops1; callN Tryd.prog (cfg0 100000) 60 (.f 9) args9 sT).every 1000000000 (letI := F0; chkV)) = true := by kernel_rfl

section
variable [Facts]
def hasP (s : HS) (b : Nat) : Bool := match s.h.get b with
  | some (_, .cells c m _) => Nat.ble 20 m && (match takeA c 0 20 with
    | some k => sameL k pcells
    | none => false)
  | _ => false
noncomputable def known9 (bs : List AV) : M AV := fun s => match bs with
  | [.sl b 0 4 5 (some 5), .agg l, .val (.int .i64 2000)] => bif AV.beqL l ctx0 && (hasP s b && isTab.all (tabIn s)) then .ok (.tup [.agg lastC, .agg lastK, X cntE]) s else .bad "another call of Run"
  | _ => .bad "another call of Run"
end

theorem ctx0_int : ∀ a ∈ ctx0, (seOf a).isSome = true := ints_ctx _ rfl rfl rfl
theorem cntE_int : (seOf (X cntE)).isSome = true := rfl

theorem lastC_ev {env : Nat → Int} {n : Int} (hn : env 0 = n) : evl env lastC = ctxv 5 0 1 (n + 1) := by simp [evl, lastC, ctx, ctxv, I, X, NN, seOf, SE.eval, hn]
theorem lastK_ev {env : Nat → Int} {n : Int} (hn : env 0 = n) : evl env lastK = ([11, n + 1, 0, 0] : List Int).map (.int .i64) := by simp [evl, lastK, I, X, NN, seOf, SE.eval, hn]
theorem ctx0_ev {env : Nat → Int} : evl env ctx0 = ctxv 0 0 0 0 := by simp [evl, ctx0, ctx, ctxv, I, seOf, SE.eval]

theorem hasP_ok [Facts] [V : Vals] {φ : Phi} {B : Nat} {s : HS} {w : World} {b : Nat} {n : Int} {a : Lc} (hn : V.env 0 = n) (h : RW φ B s w) (ha : φ b = some a) (hh : hasP s b = true) : Text w a (pv n) := by
  unfold hasP at hh
  split at hh
  · rename_i t c m g e
    simp only [Bool.and_eq_true] at hh
    have hm := Nat.le_of_ble_eq_true hh.1
    obtain ⟨a', ha', ⟨arr, el, h1, h2, _⟩, _⟩ := h.blk b t _ e
    rw [ha] at ha'; cases ha'
    have hh := hh.2
    split at hh
    · rename_i k hk
      obtain ⟨xs, k1, k2, k3⟩ := take_ok h2 20 0 k (by omega) hk
      have := RL_evl pcells_int (sameL_ok hh k1)
      rw [pcells_ev hn] at this
      subst this
      have h3 := h2.1
      exact ⟨arr, el, _, h1, by simp [pv]; omega, fun j hj => by simpa using k3 j (by simpa [pv] using hj)⟩
    · cases hh
  · cases hh

theorem F0_ok {n : Int} (hn0 : 0 ≤ n) (hn1 : n ≤ 255) : ∀ p ∈ pcOf [(0, .u8)], p.1.eval (envQ n 1 0 1) = p.2 :=
  pcOf_ok (env := envQ n 1 0 1) (ks := [(0, .u8)]) ⟨⟨hn0, hn1⟩, trivial⟩

/-- What 'Run' comes to. -/
theorem run_inner {n : Int} (hn0 : 0 ≤ n) (hn1 : n ≤ 255) {w : World} {a : Lc} (htab : HasTabs' G isTab w) (ht : Text w a (pv n)) {o : Nat} (ho : o = a.off + 0) {kind : CallKind} (hkind : kind = .normal ∨ kind = .deferred) (cs : List Frame) :
    ∃ w', RowKit.Below w.heap.size w w' ∧ FnInv Tryd.prog 9 #[.slice (some ⟨a.blk, o, none⟩) 5 5, .agg ⟨ctxv 0 0 0 0⟩, .int .i64 2000] w (.tuple #[.agg ⟨ctxv 5 0 1 (n + 1)⟩, .agg ⟨([11, n + 1, 0, 0] : List Int).map (.int .i64)⟩, .int .i64 (5 + 2 * n)]) w' kind cs := by
  have hb : Bds n 1 0 1 := ⟨hn0, hn1, by omega, by omega, by omega, by omega, by omega, by omega⟩
  letI F : Facts := F0
  letI V : Vals := ⟨envQ n 1 0 1, F0_ok hn0 hn1, envQ_mid hb⟩
  letI := loops1
  have hn : V.env 0 = n := rfl
  have hrw : RW ((phi0 G).put G a) w.heap.size sT w := by
    obtain ⟨arr, el, fz, h1, h2, h3⟩ := ht
    exact RW.add (start_rw' _ htab) (by simp [phi0, startL_n]) (RB.ro_mk h1 (evl_RL pcells_int) (by simpa [pv, pcells] using h2) (fun j hj => by rw [pcells_ev hn]; exact h3 j (by simpa [pv, pcells] using hj))) (fun h => by cases h) (fun c t y a' e hy => by rw [start_fixed e] at hy; cases hy)
  have hself : ((phi0 G).put G a) G = some a := Phi.put_self _ _ _
  have hc := callN_ok (P := Tryd.prog) (B := w.heap.size) (cfg := cfg0 100000) ⟨loops_ok hn hn0 hn1 w.heap.size, fun g k e => by cases e⟩ (fun _ h => region_any h) 60
  have hrl : RL ((phi0 G).put G a) args9 [.slice (some ⟨a.blk, o, none⟩) 5 5, .agg ⟨ctxv 0 0 0 0⟩, .int .i64 2000] := by
    refine .cons (.sl hself rfl (Nat.le_refl _) (fun _ => ho)) (.cons (.agg ?_) (.cons (.val _) .nil))
    have := evl_RL (φ := (phi0 G).put G a) ctx0_int
    rw [ctx0_ev] at this
    exact this
  have := hc.f 9 args9 sT 1000000000 ((phi0 G).put G a) w #[.slice (some ⟨a.blk, o, none⟩) 5 5, .agg ⟨ctxv 0 0 0 0⟩, .int .i64 2000] kind cs hkind hrw (Nat.le_refl _)
    (fun b hb _ => by
      have hb : G + 1 ≤ b := hb
      unfold Phi.put phi0
      rw [if_neg (by omega), if_neg (by omega)]) (fun g hg => by
      have hg : g < G := hg
      unfold Phi.put phi0
      rw [if_neg (by omega), if_pos hg]) hrl
  obtain ⟨v, s', hp, hN, hq⟩ := R.every_wp run9 this
  obtain ⟨ψ, w', x, q1, q2, q3⟩ := hq hN
  refine ⟨w', Stp.belowB hrw q1 (Nat.le_refl _), ?_⟩
  unfold chkV at hp
  split at hp
  · rename_i l k c
    simp only [Bool.and_eq_true] at hp
    obtain ⟨p1, p2, p3⟩ := hp
    cases q2 with | tup q2 =>
    cases q2 with | cons r1 q2 =>
    cases q2 with | cons r2 q2 =>
    cases q2 with | cons r3 q2 =>
    cases q2
    cases r1 with | agg r1 =>
    cases r2 with | agg r2 =>
    have e1 := RL_evl lastC_int (sameL_ok p1 r1)
    have e2 := RL_evl lastK_int (sameL_ok p2 r2)
    have e3 := RV_ev1 cntE_int (sameA_ok p3 r3)
    rw [lastC_ev hn] at e1
    rw [lastK_ev hn] at e2
    have e4 : ev1 V.env (X cntE) = .int .i64 (5 + 2 * n) := by
      show Value.int .i64 (cntE.eval V.env) = _
      rw [cntE_eval hn hn0 hn1]
    rw [e4] at e3
    subst e1 e2 e3
    exact q3
  · cases hp

theorem known9_ok [Facts] [V : Vals] {n : Int} (hn : V.env 0 = n) (hn0 : 0 ≤ n) (hn1 : n ≤ 255) {B : Nat} : (∀ bs, Tame (known9 bs)) ∧ ∀ bs s N φ w (xs : Array Value) (kind : CallKind) (cs : List Frame), kind = .normal ∨ kind = .deferred → RW φ B s w → B ≤ w.heap.size → Free φ s.n N → GOk Tryd.prog φ → RL φ bs xs.toList →
    (known9 bs s).wp fun v s' => s'.n ≤ N → ∃ ψ w' x, Stp φ B s w ψ s' w' ∧ RV ψ v x ∧ FnInv Tryd.prog 9 xs w x w' kind cs := by
  refine ⟨fun bs s hs => ?_, fun bs s N φ w xs kind cs hkind h hB hf hg hx => ?_⟩
  · unfold known9
    split
    · rename_i b l
      cases (AV.beqL l ctx0 && (hasP s b && isTab.all (tabIn s)))
      · trivial
      · exact Up.refl hs
    · trivial
  · unfold known9
    split
    · rename_i b l
      cases hc : (AV.beqL l ctx0 && (hasP s b && isTab.all (tabIn s)))
      · trivial
      · simp only [Bool.and_eq_true] at hc
        intro _
        obtain ⟨c1, c2, c3⟩ := hc
        have hl := AV.beqL_eq c1
        subst hl
        obtain ⟨xs⟩ := xs
        cases hx with | cons x1 hx =>
        cases hx with | cons x2 hx =>
        cases hx with | cons x3 hx =>
        cases hx
        cases x1 with | sl e' hcp hlp hop =>
        simp only at hcp
        subst hcp
        cases x2 with | agg x2 =>
        have e2 := RL_evl ctx0_int x2
        rw [ctx0_ev] at e2
        subst e2
        cases x3
        obtain ⟨w', h1, h2⟩ := run_inner hn0 hn1 (tabs_in h hg tab_lt c3) (hasP_ok hn h e' c2) (hop (by omega)) hkind cs
        refine ⟨φ, w', _, below_stp h h1, ?_, h2⟩
        have r1 := evl_RL (φ := φ) lastC_int
        have r2 := evl_RL (φ := φ) lastK_int
        rw [lastC_ev hn] at r1
        rw [lastK_ev hn] at r2
        exact .tup (.cons (.agg r1) (.cons (.agg r2) (.cons (.sx (cntE_eval hn hn0 hn1)) .nil)))
    · trivial
end
end Go.Proofs.YtkcdcnjpafblfaaDoor.cpuCounts

open Go
namespace Go.Proofs.YtkcdcnjpafblfaaDoor.cpuCounts
noncomputable section
open Go.Abs

noncomputable def cfgC [Facts] : Cfg := { mg := fun _ => false, known := fun g => bif Nat.beq g 9 then some known9 else knowTrue 8 isTab g, fuel := 100000 }

set_option maxRecDepth 1000000 in
theorem run_lives : ((letI : Facts := ⟨[]⟩; letI := noLoops; callN Tryd.prog (cfg0 100000) 200 (.f 8) [] (startL G isTab)).every 1000000000 isTrue) = true := by kernel_rfl

set_option maxRecDepth 1000000 in
theorem runC : ((letI := F0; letI := noLoops; callN Tryd.prog cfgC 200 (.f 5) [.sx .u8 (.var 0)] (startL G isTab)).every 1000000000 isTrue) = true := by kernel_rfl

theorem known_ok [Facts] [V : Vals] {n : Int} (hn : V.env 0 = n) (hn0 : 0 ≤ n) (hn1 : n ≤ 255) (B : Nat) : letI := noLoops; KnownOK Tryd.prog B cfgC := by
  letI := noLoops
  refine ⟨noLoops_ok, fun g k e => ?_⟩
  rcases bif_some e with ⟨hg, e⟩ | ⟨_, e⟩
  · cases e
    have hg := Nat.eq_of_beq_eq_true hg
    subst hg
    exact known9_ok hn hn0 hn1
  · exact (know_ok (g := 8) (n := 200) (N := 1000000000) (fuel := 100000) (tabs := isTab) (fun _ => noLoops_ok) (fun _ _ h => region_any h) tab_lt run_lives { mg := fun _ => false, known := knowTrue 8 isTab, fuel := 100000 } rfl B).2 g k e

theorem walk (n : Int) (hn : kmin .u8 ≤ n ∧ n ≤ kmax .u8) (w : World) (hw : HasTabs G isTab w) : Calls Tryd.prog 5 #[.int .u8 n] w fun e w' => e = .returned (.bool true) ∧ RowKit.Below w.heap.size w w' := by
  obtain ⟨hn0, hn1⟩ := hn
  simp only [kmin, kmax] at hn0 hn1
  have hb : Bds n 1 0 1 := ⟨hn0, hn1, by omega, by omega, by omega, by omega, by omega, by omega⟩
  letI F : Facts := F0
  letI V : Vals := ⟨envQ n 1 0 1, F0_ok hn0 hn1, envQ_mid hb⟩
  letI := noLoops
  exact calls_trueL (cfg := cfgC) (fun B => known_ok (n := n) rfl hn0 hn1 B) (fun _ _ h => region_any h) (fun _ => .cons (.sx rfl) .nil) runC w hw
end
end Go.Proofs.YtkcdcnjpafblfaaDoor.cpuCounts
