/- The run of the law 'RingCopies', by what its loops come to. Conditions: those that each theorem names. -/
import Derived.Test.YtlbehjagidopkaaRings
open Go
namespace Go.Proofs.Ytlbehjagidopkaa.ringCopies
noncomputable section
open Go.Abs Go.Proofs.Ytlbehjagidopkaa.rings

/-- All, of none. -/
def shA0 (ab : Code × Code) (G : Nat) : Nat → Shape
  | 0 => shA ab G 0
  | _ => ⟨[], blsA ab G false⟩
def AS0 (ab : Code × Code) (G : Nat) (N f n R : SE) : LoopSpec :=
  ⟨35, 2, 22, shA0 ab G, z3 N f n (.lit 0) (.lit 0), [.tab 32, R], nmA, [⟨.exit 0, 1, z3 N f n (.lit 0) (.lit 0), [.tab 32, R]⟩], 6⟩
/-- The very same, of none. -/
def shI0 : Nat → Shape
  | 0 => ⟨[(12, X 5), (13, X 6)], []⟩
  | _ => ⟨[], []⟩
def IS0 : LoopSpec :=
  ⟨20, 5, 26, shI0, z3 (.lit 1) (.lit 0) (.lit 0) (.lit 0) (.lit 0), [.tab 32], fun _ _ => [], [⟨.exit 0, 1, z3 (.lit 1) (.lit 0) (.lit 0) (.lit 0) (.lit 0), [.tab 32]⟩], 0⟩

/-- Which way the law goes: are there acts, are there more, is the document's list made, has the queue none, has the copy none. -/
structure W where
  hA : Bool
  hM : Bool
  l : Bool
  z1 : Bool
  z2 : Bool
  long : Bool
  longM : Bool

def sub9 (f : SE) : SE := .sub (.lit 9) f
/-- What Copy makes of a row. -/
def cpE (f T : SE) : SE :=
  .cat (.cat c0 (.lit 0) (.cat (.sh T f) (sub9 f) (.sh c0 (sub9 f)))) (sub9 f) (.cat T f (.sh (.cat c0 (.lit 0) (.cat (.sh T f) (sub9 f) (.sh c0 (sub9 f)))) (.add (sub9 f) f)))
def cpZ : SE := .cat (.cat c0 (.lit 0) (.cat c0 (.lit 9) (.sh c0 (.lit 9)))) (.lit 9) (.cat c0 (.lit 0) (.sh (.cat c0 (.lit 0) (.cat c0 (.lit 9) (.sh c0 (.lit 9)))) (.lit 9)))
def N9 : SE := .lit 9
def W.f1 (k : W) : SE := bif k.hA then .var 12 else .lit 0
def W.n1 (k : W) : SE := bif k.l then .var 13 else .lit 0
def W.R1 (k : W) : SE := bif k.hA then .tab 41 else c0
def W.cp (k : W) : SE := bif k.hA then cpE (.var 12) (.tab 41) else cpZ
def W.L0 (k : W) : SE := .cat c0 (.lit 0) (bif k.l then .tab 42 else c0)
def W.f2 (k : W) : SE := bif k.hM then .var 22 else .lit 0
def W.n2 (k : W) : SE := bif k.hM then .var 23 else k.n1
def W.R2 (k : W) : SE := bif k.hM then .tab 51 else k.cp
def W.L2 (k : W) : SE := bif k.hM then .tab 52 else k.L0
def pcOne (f n : Nat) : List (SB × Bool) := [(.le (.lit 0) (.var f), true), (.le (.var f) (.lit 8), true), (.le (.lit 0) (.var n), true), (.le (.var n) (.lit 9), true)]
def pcZ (z : Bool) (i : Nat) : List (SB × Bool) := bif z then [(.eq (.var i) (.lit 0), true)] else [(.le (.lit 1) (.var i), true), (.eq (.var i) (.lit 0), false)]
def W.pc (k : W) : List (SB × Bool) :=
  bif k.long then [(.le (.var 2) (.lit 200), false)]
  else bif k.longM then [(.le (.var 2) (.lit 200), true), (.le (.var 1) (.lit 200), false)]
  else [tt, (.le (.lit 0) (.var 2), true), (.le (.var 2) (.lit 200), true), (.le (.lit 0) (.var 1), true), (.le (.var 1) (.lit 200), true)] ++ (pcOne 12 13 ++ (pcOne 22 23 ++ (pcZ k.z1 13 ++ pcZ k.z2 23)))
def pnB (hm : Bool) (st : St) (_ : HS) : List Nat := bif hm then ssOf (st.t.get 1) else []
def pnC (st : St) (_ : HS) : List Nat := rings.ptrOf (st.t.get 5) ++ rings.ptrOf (st.t.get 6)
def W.spB (k : W) (A : AL) (G : Nat) : LoopSpec := A.spec G (pnB k.hM) false k.l (.lit 9) (.var 1) (.var 2) (.lit 0) (.lit 0) (.tab 32) c0 c0 (.tab 35) (.var 12) (.var 13) (.tab 41) (.tab 42)
def W.spC (k : W) (A : AL) (G : Nat) : LoopSpec := A.spec G pnC true true (.lit 9) (.var 1) (.var 1) (.lit 0) k.n1 (.tab 35) k.cp k.L0 (.tab 36) (.var 22) (.var 23) (.tab 51) (.tab 52)
def W.s1 (k : W) (ab : Code × Code) (G : Nat) : List LoopSpec := bif k.z1 then [AS0 ab G N9 k.f1 k.n1 k.R1, IS0] else [AS ab G N9 k.f1 k.n1 k.R1 (.tab 43), IS G k.n1 (.tab 43) (.tab 42)]
def W.s2 (k : W) (ab : Code × Code) (G : Nat) : List LoopSpec := bif k.z2 then [AS0 ab G N9 k.f2 k.n2 k.R2, IS0] else [AS ab G N9 k.f2 k.n2 k.R2 (.tab 53), IS G k.n2 (.tab 53) k.L2]
def W.specs (k : W) (B C : AL) (ab : Code × Code) (G : Nat) : List LoopSpec :=
  bif k.long || k.longM then [] else (bif k.hA then [k.spB B G] else []) ++ ((bif k.hM then [k.spC C G] else []) ++ (k.s1 ab G ++ k.s2 ab G))
def W.heap (k : W) (G : Nat) : HS := let s := bif k.hM then Abs.addB (startL G []) moreTab else startL G []
  bif k.hA then Abs.addB s (aTab (.var 2)) else s
def W.args (k : W) (G : Nat) : List AV := [bif k.hA then .ss (bif k.hM then G + 1 else G) 2 (.lit 0) (.var 2) else .so (.lit 0), bif k.hM then .ss G 2 (.lit 0) (.var 1) else .so (.lit 0)]

def endA0 : Case := ⟨(.eq (.var 5) (.lit 0), true) :: pcN, .exit 0, 1, [], [], []⟩
def endI0 : Case := ⟨[tt, (.eq (.var 5) (.lit 0), true), (.eq (.var 6) (.lit 0), true)], .exit 0, 1, [], [], []⟩
noncomputable def cfgO : Cfg := { mg := fun _ => false, known := knowTrue 7 [], fuel := 100000 }

set_option maxRecDepth 1000000
theorem rA0 : chk1 35 2 22 (shA0 abK Try.prog.globals.size) 6 0 endA0 = true := by kernel_rfl
theorem rI0 : chk1 20 5 26 shI0 0 0 endI0 = true := by kernel_rfl
theorem goodA0 (S : LoopSpec) (hS : S.shapes = shA0 abK Try.prog.globals.size) (o : LoopEnd) (ho : S.outs = [o]) (hj : o.j = 1) : S.good Try.prog.globals.size = true := by
  unfold LoopSpec.good
  rw [ho, hS]
  simp only [List.all_cons, List.all_nil, hj]
  kernel_rfl
theorem goodI0 (S : LoopSpec) (hS : S.shapes = shI0) (o : LoopEnd) (ho : S.outs = [o]) (hj : o.j = 1) : S.good Try.prog.globals.size = true := by
  unfold LoopSpec.good
  rw [ho, hS]
  simp only [List.all_cons, List.all_nil, hj]
  kernel_rfl
theorem upsA0 : ∀ i, (shA0 abK Try.prog.globals.size i).ups 8 3 = true := by
  intro i
  rcases i with _ | i <;> kernel_rfl
theorem upsI0 : ∀ i, (shI0 i).ups 8 3 = true := by
  intro i
  rcases i with _ | i <;> kernel_rfl
theorem fixA0 : ShapesOK (shA0 abK Try.prog.globals.size) 6 [true, true, true, false, false, false] := by
  intro i
  rcases i with _ | i <;> exact ⟨Nat.le_refl _, rfl, rfl⟩
theorem fixI0 : ShapesOK shI0 0 [] := by
  intro i
  rcases i with _ | i <;> exact ⟨Nat.le_refl _, rfl, rfl⟩
theorem run_lives : ((letI : Facts := ⟨[]⟩; letI := noLoops; callN Try.prog (cfg0 100000) 200 (.f 7) [] (startL Try.prog.globals.size [])).every 1000000000 isTrue) = true := by kernel_rfl

noncomputable def W.sp (k : W) : List LoopSpec := k.specs (actsB k.hM) actsC abK Try.prog.globals.size
noncomputable def W.hp (k : W) : HS := k.heap Try.prog.globals.size
noncomputable def W.as (k : W) : List AV := k.args Try.prog.globals.size
noncomputable def W.run (k : W) : Bool := (letI : Facts := ⟨k.pc⟩; letI := manyLoops Try.prog.globals.size [] k.sp; callN Try.prog cfgO 200 (.f 5) k.as k.hp).every 1000000000 isTrue
/-- May it go so? -/
def W.may (k : W) : Bool := bif k.long then k.hA else bif k.longM then k.hM else (k.hA || !k.l) && ((k.l || k.z1) && (k.hM || (k.z1 && k.z2 || !k.z1 && !k.z2)))
theorem run1 (z1 z2 : Bool) : (W.mk true true true z1 z2 false false).run = true := by
  cases z1 <;> cases z2 <;> kernel_rfl
theorem run2 (z2 : Bool) : (W.mk true true false true z2 false false).run = true := by
  cases z2 <;> kernel_rfl
theorem run3 (z : Bool) : (W.mk true false true z z false false).run = true := by
  cases z <;> kernel_rfl
theorem run4 : (W.mk true false false true true false false).run = true := by kernel_rfl
theorem run5 (z2 : Bool) : (W.mk false true false true z2 false false).run = true := by
  cases z2 <;> kernel_rfl
theorem run6 : (W.mk false false false true true false false).run = true := by kernel_rfl
theorem run7 (hM l z1 z2 d : Bool) : (W.mk true hM l z1 z2 true d).run = true := by
  cases hM <;> kernel_rfl
theorem run8 (hA l z1 z2 : Bool) : (W.mk hA true l z1 z2 false true).run = true := by
  cases hA <;> kernel_rfl
theorem runs (k : W) (h : k.may = true) : k.run = true := by
  obtain ⟨hA, hM, l, z1, z2, lg, lm⟩ := k
  cases lg with
  | true =>
    cases hA with
    | true => exact run7 hM l z1 z2 lm
    | false => exact absurd h (by simp [W.may])
  | false =>
    cases lm with
    | true =>
      cases hM with
      | true => exact run8 hA l z1 z2
      | false => exact absurd h (by simp [W.may])
    | false =>
      cases hA with
      | true =>
        cases hM with
        | true =>
          cases l with
          | true => exact run1 z1 z2
          | false =>
            cases z1 with
            | true => exact run2 z2
            | false => exact absurd h (by simp [W.may])
        | false =>
          cases l with
          | true =>
            cases z1 with
            | true =>
              cases z2 with
              | true => exact run3 true
              | false => exact absurd h (by simp [W.may])
            | false =>
              cases z2 with
              | true => exact absurd h (by simp [W.may])
              | false => exact run3 false
          | false =>
            cases z1 with
            | true =>
              cases z2 with
              | true => exact run4
              | false => exact absurd h (by simp [W.may])
            | false => exact absurd h (by simp [W.may])
      | false =>
        cases l with
        | true => exact absurd h (by simp [W.may])
        | false =>
          cases z1 with
          | false => exact absurd h (by cases hM <;> simp [W.may])
          | true =>
            cases hM with
            | true => exact run5 z2
            | false =>
              cases z2 with
              | true => exact run6
              | false => exact absurd h (by simp [W.may])

section
variable [F : Facts] [V : Vals]

/-- A loop that ends in its first round. -/
theorem exit_proof (S : LoopSpec) {fx : List Bool} (hfx : ShapesOK S.shapes S.stay fx) (hgood : S.good Try.prog.globals.size = true) (hups : ∀ i, (S.shapes i).ups 8 3 = true)
    (hloop : ((Try.prog.funcs[S.fn]?).bind (·.body)).map (fun c => loopsKey S.key (subs c)) = some [bodyK S.fn S.key])
    (c : Case) (hchk : chk0 S 0 c = true) (hf : c.f = []) (hg : c.g = []) (he : c.e ≠ .normal) (hpc : ∀ p ∈ c.pc, p.1.eval (intoEnv S.f0v S.g0v V.env) = p.2)
    (hf0 : S.f0.length ≤ 8) (hg0 : S.g0.length ≤ 3) (hm : ∀ j, In64 (intoEnv S.f0v S.g0v V.env j))
    (o : LoopEnd) (ho : S.outs = [o]) (oe : o.e = c.e) (oj : o.j = c.to) (of_ : o.f = S.f0) (og : o.g = S.g0) : LoopProof Try.prog [] S := by
  have e1 : o.fv = S.f0v := by funext i; unfold LoopEnd.fv LoopSpec.f0v; rw [of_]
  have e2 : o.gv = S.g0v := by funext i; unfold LoopEnd.gv LoopSpec.g0v; rw [og]
  refine spec_proof2 (N := 1000000000) (fuel := 100000) S (fun p hp => by cases hp) hloop hfx hgood (σ := Unit) (fun _ => intoEnv S.f0v S.g0v V.env) 8 3 (by decide) hups hf0 hg0
    (I := fun _ i _ => i = 0) (Post := fun e j _ => e = c.e ∧ j = c.to) (fun B μ i s hI => ?_) 0 () rfl hm ⟨fun _ _ => rfl, fun _ _ _ _ _ _ => rfl⟩ (fun e j s hp => ?_)
  · have hI : i = 0 := hI
    subst hI
    refine ⟨c, (), noLoops, call ⟨c.pc⟩, noRnd B _ _, hchk, hpc, by rw [hf]; decide, by rw [hg]; decide, hm, ⟨fun i hi => ?_, fun a r k h1 h2 h3 => ?_⟩, .inr ⟨he, rfl, rfl⟩⟩
    · rw [Case.next, intoEnv_one (by omega), Case.fv, hf]
      rfl
    · rw [Case.next, intoEnv_cell h1 (by omega) h3, Case.gv, hg]
      rfl
  · obtain ⟨rfl, rfl⟩ := hp
    exact ⟨0, o, by rw [ho]; rfl, oe, oj, by rw [of_]; exact hf0, by rw [og]; exact hg0, by rw [e1, e2]; exact ⟨fun _ _ => rfl, fun _ _ _ _ _ _ => rfl⟩⟩

theorem AS0_proof {N f n R : SE} (hN : 1 ≤ N.eval V.env ∧ N.eval V.env ≤ 4096) (hf : 0 ≤ f.eval V.env ∧ f.eval V.env < N.eval V.env) (hn : n.eval V.env = 0) (hR : ∀ r c : Nat, In64 (R.row V.env r c)) : LoopProof Try.prog [] (AS0 abK Try.prog.globals.size N f n R) := by
  obtain ⟨S, hS⟩ : ∃ S, S = AS0 abK Try.prog.globals.size N f n R := ⟨_, rfl⟩
  rw [← hS]
  have hf0 : ∀ i, S.f0v i = ((z3 N f n (.lit 0) (.lit 0))[i]?).getD (.var i) := fun i => by rw [hS]; rfl
  have hg0 : ∀ a, S.g0v a = (([.tab 32, R] : List SE)[a - 32]?).getD (.tab a) := fun a => by rw [hS]; rfl
  have e0 : intoEnv S.f0v S.g0v V.env 0 = N.eval V.env := by rw [intoEnv_one (by decide), hf0]; rfl
  have e4 : intoEnv S.f0v S.g0v V.env 4 = f.eval V.env := by rw [intoEnv_one (by decide), hf0]; rfl
  have e5 : intoEnv S.f0v S.g0v V.env 5 = n.eval V.env := by rw [intoEnv_one (by decide), hf0]; rfl
  refine exit_proof S (fx := [true, true, true, false, false, false]) (by rw [hS]; exact fixA0) (goodA0 S (by rw [hS]; rfl) _ (by rw [hS]; rfl) rfl) (by rw [hS]; exact upsA0) (by rw [hS]; exact isL) endA0 (by rw [hS]; exact rA0) rfl rfl (by simp [endA0]) (fun p hp => ?_) (by rw [hS]; exact Nat.le_of_ble_eq_true rfl) (by rw [hS]; exact Nat.le_of_ble_eq_true rfl) (fun j => ?_)
    ⟨.exit 0, 1, z3 N f n (.lit 0) (.lit 0), [.tab 32, R]⟩ (by rw [hS]; rfl) rfl rfl (by rw [hS]; rfl) (by rw [hS]; rfl)
  · simp only [endA0, pcN, tt, List.mem_cons, List.not_mem_nil, or_false] at hp
    rcases hp with rfl | rfl | rfl | rfl | rfl | rfl | rfl | rfl | rfl | rfl
    all_goals first | rfl | exact decide_eq_true (by simp only [SE.eval, e0, e4, e5]; omega)
  · unfold intoEnv
    split
    · rw [hf0]
      have z : In64 0 := by unfold In64; omega
      rcases j with _ | _ | _ | _ | _ | _ | _ | _ | j
      · show In64 (N.eval V.env); unfold In64; omega
      · exact z
      · exact z
      · exact z
      · show In64 (f.eval V.env); unfold In64; omega
      · show In64 (n.eval V.env); unfold In64; omega
      · exact z
      · exact z
      · exact V.mid _
    · rw [hg0]
      by_cases h : j % 64 = 33
      · rw [h]; exact hR _ _
      · by_cases h2 : j % 64 = 32
        · rw [h2]; exact V.mid _
        · rw [List.getElem?_eq_none (by show 2 ≤ _; omega)]; exact V.mid _

theorem IS0_proof : LoopProof Try.prog [] IS0 := by
  obtain ⟨S, hS⟩ : ∃ S, S = IS0 := ⟨_, rfl⟩
  rw [← hS]
  have hf0 : ∀ i, S.f0v i = ((z3 (.lit 1) (.lit 0) (.lit 0) (.lit 0) (.lit 0))[i]?).getD (.var i) := fun i => by rw [hS]; rfl
  have hg0 : ∀ a, S.g0v a = (([.tab 32] : List SE)[a - 32]?).getD (.tab a) := fun a => by rw [hS]; rfl
  refine exit_proof S (fx := []) (by rw [hS]; exact fixI0) (goodI0 S (by rw [hS]; rfl) _ (by rw [hS]; rfl) rfl) (by rw [hS]; exact upsI0) (by rw [hS]; exact isI) endI0 (by rw [hS]; exact rI0) rfl rfl (by simp [endI0]) (fun p hp => ?_) (by rw [hS]; exact Nat.le_of_ble_eq_true rfl) (by rw [hS]; exact Nat.le_of_ble_eq_true rfl) (fun j => ?_)
    ⟨.exit 0, 1, z3 (.lit 1) (.lit 0) (.lit 0) (.lit 0) (.lit 0), [.tab 32]⟩ (by rw [hS]; rfl) rfl rfl (by rw [hS]; rfl) (by rw [hS]; rfl)
  · rw [hS]
    simp only [endI0, tt, List.mem_cons, List.not_mem_nil, or_false] at hp
    rcases hp with rfl | rfl | rfl <;> rfl
  · unfold intoEnv
    split
    · rw [hf0]
      have z : In64 0 := by unfold In64; omega
      rcases j with _ | _ | _ | _ | _ | _ | _ | _ | j
      · show In64 1; unfold In64; omega
      · exact z
      · exact z
      · exact z
      · exact z
      · exact z
      · exact z
      · exact z
      · exact V.mid _
    · rw [hg0]
      by_cases h2 : j % 64 = 32
      · rw [h2]; exact V.mid _
      · rw [List.getElem?_eq_none (by show 1 ≤ _; omega)]; exact V.mid _
end

def q0 : Q := ⟨0, 0, 0, fun _ _ => 0, fun _ _ => 0, false⟩
def aM (m : Int) (ra : TT) : Acts := ⟨9, m, fun i => ra i 0, fun i => ra i 1⟩
/-- A row's cell, wherever it is asked. -/
def wr (a : Nat) (T : TT) (x : Int) (c : Nat) : Int := T (cellIx a x c / 4096) (cellIx a x c / 64 % 64)
theorem wr_nat {a : Nat} {T : TT} {x c : Nat} (ha : a < 64) (hc : c < 64) : wr a T (x : Int) c = T x c := by
  unfold wr cellIx
  rw [Int.toNat_natCast]
  congr 1 <;> omega
theorem envT_at {sc : Nat → Int} {tb : Nat → TT} {a c : Nat} {x : Int} (h1 : 32 ≤ a) (h2 : a < 64) : envT sc tb (cellIx a x c) = wr a (tb a) x c := by
  have e : cellIx a x c % 64 = a := by unfold cellIx; omega
  unfold envT wr
  rw [e, if_neg (by omega)]

def cpA (f : Int) (w : Int → Nat → Int) (x : Int) (c : Nat) : Int := if x < 0 then 0 else if x - 0 < 9 - f then w (x - 0 + f) c else 0
/-- What Copy makes of a row. -/
def cpT (f : Int) (w : Int → Nat → Int) : TT := fun r c => if (r : Int) < 9 - f then cpA f w r c else if (r : Int) - (9 - f) < f then w ((r : Int) - (9 - f)) c else cpA f w ((r : Int) - (9 - f) - f + (9 - f + f)) c
def l0T (w : Int → Nat → Int) : TT := fun r c => if (r : Int) < 0 then 0 else w ((r : Int) - 0) c

theorem cp_at {f : Int} {w : Int → Nat → Int} (hf : 0 ≤ f ∧ f < 9) {i : Nat} (hi : i < 9) : cpT f w i 0 = w ((f + i).tmod 9) 0 := by
  unfold cpT cpA
  have ht := at_two (f := f) (i := i) (N := 9) (by decide) hf ⟨by omega, by omega⟩
  rw [ht]
  by_cases h : (i : Int) < 9 - f
  · rw [if_pos h, if_neg (by omega), if_pos (by omega), if_pos (by omega)]
    congr 1; omega
  · rw [if_neg h, if_pos (by omega), if_neg (by omega)]
    congr 1; omega

section
variable (hA : Bool) (mA mM : Int) (ra rm : TT)
def q1 : Q := Q.iter (aM mA ra) mA.toNat q0
def qc0 : Q := ⟨0, 0, (q1 mA ra).n, bif hA then cpT (q1 mA ra).f (wr 41 (q1 mA ra).R) else fun _ _ => 0, bif (q1 mA ra).l then l0T (wr 42 (q1 mA ra).L) else fun _ _ => 0, true⟩
def q2 : Q := Q.iter (aM mM rm) mM.toNat (qc0 hA mA ra)
def scO (ok : Bool) (i : Nat) : Int := match i with
  | 1 => mM
  | 2 => mA
  | 12 => bif ok then (q1 mA ra).f else 0
  | 13 => bif ok then (q1 mA ra).n else 0
  | 22 => bif ok then (q2 hA mA mM ra rm).f else 0
  | 23 => bif ok then (q2 hA mA mM ra rm).n else 0
  | _ => 0
def tbO (ok : Bool) (a : Nat) : TT := match a with
  | 32 => ra
  | 35 => rm
  | 41 => bif ok then (q1 mA ra).R else fun _ _ => 0
  | 42 => bif ok then (q1 mA ra).L else fun _ _ => 0
  | 43 => bif ok then allT (q1 mA ra).f 9 (q1 mA ra).R (q1 mA ra).n else fun _ _ => 0
  | 51 => bif ok then (q2 hA mA mM ra rm).R else fun _ _ => 0
  | 52 => bif ok then (q2 hA mA mM ra rm).L else fun _ _ => 0
  | 53 => bif ok then allT (q2 hA mA mM ra rm).f 9 (q2 hA mA mM ra rm).R (q2 hA mA mM ra rm).n else fun _ _ => 0
  | _ => fun _ _ => 0
def envO (ok : Bool) : Nat → Int := envT (scO hA mA mM ra rm ok) (tbO hA mA mM ra rm ok)
def okOf : Bool := decide (mA ≤ 200) && decide (mM ≤ 200)
/-- Which way the law goes. -/
def way (hM : Bool) : W := ⟨hA, hM, (q1 mA ra).l, decide ((q1 mA ra).n = 0), decide ((q2 hA mA mM ra rm).n = 0), decide (200 < mA), decide (200 < mM)⟩
end

section
variable {hA : Bool} {mA mM : Int} {ra rm : TT}

theorem q0_inv (hm : 0 ≤ mA ∧ mA ≤ 200) (hra : ∀ r c, In64 (ra r c)) : q0.Inv (aM mA ra) :=
  ⟨⟨by show (1 : Int) ≤ 9; decide, by show (9 : Int) ≤ 4096; decide⟩, ⟨Int.le_refl 0, by show (0 : Int) < 9; decide⟩, ⟨Int.le_refl 0, by show (0 : Int) ≤ 9; decide⟩, ⟨Int.le_refl 0, hm.1, by show mA ≤ 300; omega⟩, fun _ _ => mid_zero, fun _ _ => mid_zero, fun i => hra i 1, fun i hi => by
    have hi : (i : Int) < 0 := hi
    omega, fun _ => rfl⟩
theorem q1_inv (hm : 0 ≤ mA ∧ mA ≤ 200) (hra : ∀ r c, In64 (ra r c)) : (q1 mA ra).Inv (aM mA ra) :=
  (Q.iter_inv mA.toNat q0 (q0_inv hm hra) (by show (0 : Int) + mA.toNat ≤ mA; omega)).1

theorem wr_mid {a : Nat} {T : TT} (h : ∀ r c, In64 (T r c)) (x : Int) (c : Nat) : In64 (wr a T x c) := h _ _
theorem cpA_mid {f : Int} {w : Int → Nat → Int} (h : ∀ x c, In64 (w x c)) (x : Int) (c : Nat) : In64 (cpA f w x c) := by
  unfold cpA
  repeat' split
  all_goals first | exact h _ _ | exact mid_zero
theorem cpT_mid {f : Int} {w : Int → Nat → Int} (h : ∀ x c, In64 (w x c)) (r c : Nat) : In64 (cpT f w r c) := by
  unfold cpT
  repeat' split
  all_goals first | exact h _ _ | exact cpA_mid h _ _
theorem l0T_mid {w : Int → Nat → Int} (h : ∀ x c, In64 (w x c)) (r c : Nat) : In64 (l0T w r c) := by
  unfold l0T
  split
  · exact mid_zero
  · exact h _ _

theorem q1_none (h : mA = 0) : q1 mA ra = q0 := by
  unfold q1
  rw [h]; rfl

theorem qc0_inv (hm : 0 ≤ mA ∧ mA ≤ 200) (hM : 0 ≤ mM ∧ mM ≤ 200) (hra : ∀ r c, In64 (ra r c)) (hrm : ∀ r c, In64 (rm r c)) (hhas : hA = false → mA = 0) : (qc0 hA mA ra).Inv (aM mM rm) := by
  have h := q1_inv hm hra
  have hf : 0 ≤ (q1 mA ra).f ∧ (q1 mA ra).f < 9 := h.f
  have hn : 0 ≤ (q1 mA ra).n ∧ (q1 mA ra).n ≤ 9 := h.n
  refine ⟨⟨by show (1 : Int) ≤ 9; decide, by show (9 : Int) ≤ 4096; decide⟩, ⟨Int.le_refl 0, by show (0 : Int) < 9; decide⟩, hn, ⟨Int.le_refl 0, hM.1, by show mM ≤ 300; omega⟩, fun r c => ?_, fun r c => ?_, fun i => hrm i 1, fun i hi => ?_, fun e => by cases e⟩
  · show In64 ((bif hA then cpT (q1 mA ra).f (wr 41 (q1 mA ra).R) else fun _ _ => 0) r c)
    cases hA
    · exact mid_zero
    · exact cpT_mid (wr_mid h.R) r c
  · show In64 ((bif (q1 mA ra).l then l0T (wr 42 (q1 mA ra).L) else fun _ _ => 0) r c)
    cases (q1 mA ra).l
    · exact mid_zero
    · exact l0T_mid (wr_mid h.L) r c
  · have hi : (i : Int) < (q1 mA ra).n := hi
    have hl : (q1 mA ra).l = true := by
      cases e : (q1 mA ra).l
      · have := h.l e; omega
      · rfl
    have hh : hA = true := by
      cases hA
      · have := q1_none (ra := ra) (hhas rfl)
        rw [this] at hl; cases hl
      · rfl
    subst hh
    show cpT (q1 mA ra).f (wr 41 (q1 mA ra).R) (at' 0 9 i) 0 = (bif (q1 mA ra).l then l0T (wr 42 (q1 mA ra).L) else fun _ _ => 0) i 0
    have hat : at' 0 9 i = i := by
      unfold at'
      rw [Int.zero_add, Int.tmod_eq_of_lt (by omega) (by omega)]; rfl
    rw [hat, cp_at hf (by omega), hl, cond_true]
    unfold l0T
    rw [if_neg (by omega), Int.sub_zero, wr_nat (by decide) (by decide), ← h.same i hi]
    have hpos := (modIn (N := 9) (f := (q1 mA ra).f) (i := i) (by decide) (by omega)).1
    have e := wr_nat (a := 41) (T := (q1 mA ra).R) (x := (((q1 mA ra).f + i).tmod 9).toNat) (c := 0) (by decide) (by decide)
    rw [Int.toNat_of_nonneg hpos] at e
    rw [e]; rfl

theorem q2_inv (hm : 0 ≤ mA ∧ mA ≤ 200) (hM : 0 ≤ mM ∧ mM ≤ 200) (hra : ∀ r c, In64 (ra r c)) (hrm : ∀ r c, In64 (rm r c)) (hhas : hA = false → mA = 0) : (q2 hA mA mM ra rm).Inv (aM mM rm) :=
  (Q.iter_inv mM.toNat (qc0 hA mA ra) (qc0_inv hm hM hra hrm hhas) (by show (0 : Int) + mM.toNat ≤ mM; omega)).1

theorem q2_none (h : mM = 0) : q2 hA mA mM ra rm = qc0 hA mA ra := by
  unfold q2
  rw [h]; rfl

theorem step_l {q : Q} {a : Acts} (h : q.l = true) : (q.step a).l = true := by
  unfold Q.step
  repeat' split
  all_goals first | rfl | exact h
theorem iter_l {a : Acts} : ∀ (k : Nat) (q : Q), q.l = true → (Q.iter a k q).l = true := by
  intro k
  induction k with
  | zero => intro q h; exact h
  | succ k ih => intro q h; exact ih _ (step_l h)
theorem q2_l : (q2 hA mA mM ra rm).l = true := iter_l _ _ rfl

theorem okOf_true (h : okOf mA mM = true) : mA ≤ 200 ∧ mM ≤ 200 := by
  simp only [okOf, Bool.and_eq_true, decide_eq_true_eq] at h
  exact h

theorem way_may {hM : Bool} (h1 : 0 ≤ mA) (h2 : 0 ≤ mM) (hra : ∀ r c, In64 (ra r c)) (hhas : hA = false → mA = 0) (hhasM : hM = false → mM = 0) : (way hA mA mM ra rm hM).may = true := by
  unfold way W.may
  simp only
  by_cases c1 : 200 < mA
  · rw [decide_eq_true c1, cond_true]
    cases hA
    · have := hhas rfl; omega
    · rfl
  rw [decide_eq_false c1, cond_false]
  by_cases c2 : 200 < mM
  · rw [decide_eq_true c2, cond_true]
    cases hM
    · have := hhasM rfl; omega
    · rfl
  rw [decide_eq_false c2, cond_false]
  have h := q1_inv ⟨h1, by omega⟩ hra
  have e1 : (hA || !(q1 mA ra).l) = true := by
    cases hA
    · rw [q1_none (hhas rfl)]; rfl
    · rfl
  have e2 : ((q1 mA ra).l || decide ((q1 mA ra).n = 0)) = true := by
    cases e : (q1 mA ra).l
    · rw [decide_eq_true (h.l e)]; rfl
    · rfl
  have e3 : (hM || (decide ((q1 mA ra).n = 0) && decide ((q2 hA mA mM ra rm).n = 0) || !decide ((q1 mA ra).n = 0) && !decide ((q2 hA mA mM ra rm).n = 0))) = true := by
    cases hM
    · rw [q2_none (hhasM rfl)]
      show (false || (decide ((q1 mA ra).n = 0) && decide ((q1 mA ra).n = 0) || !decide ((q1 mA ra).n = 0) && !decide ((q1 mA ra).n = 0))) = true
      cases decide ((q1 mA ra).n = 0) <;> rfl
    · rfl
  rw [e1, e2, e3]; rfl

theorem envO_mid {ok : Bool} (h1 : 0 ≤ mA ∧ In64 mA) (h2 : 0 ≤ mM ∧ In64 mM) (hra : ∀ r c, In64 (ra r c)) (hrm : ∀ r c, In64 (rm r c)) (hhas : hA = false → mA = 0) (hok : ok = true → mA ≤ 200 ∧ mM ≤ 200) : ∀ j, In64 (envO hA mA mM ra rm ok j) := by
  cases ok with
  | false =>
    refine envT_mid (fun i => ?_) (fun a r c => ?_)
    · unfold scO
      split
      · exact h2.2
      · exact h1.2
      all_goals exact mid_zero
    · unfold tbO
      split
      · exact hra r c
      · exact hrm r c
      all_goals exact mid_zero
  | true =>
    obtain ⟨k1, k2⟩ := hok rfl
    have i1 := q1_inv ⟨h1.1, k1⟩ hra
    have i2 := q2_inv (hA := hA) ⟨h1.1, k1⟩ ⟨h2.1, k2⟩ hra hrm hhas
    have f1 : 0 ≤ (q1 mA ra).f ∧ (q1 mA ra).f < 9 := i1.f
    have n1 : 0 ≤ (q1 mA ra).n ∧ (q1 mA ra).n ≤ 9 := i1.n
    have f2 : 0 ≤ (q2 hA mA mM ra rm).f ∧ (q2 hA mA mM ra rm).f < 9 := i2.f
    have n2 : 0 ≤ (q2 hA mA mM ra rm).n ∧ (q2 hA mA mM ra rm).n ≤ 9 := i2.n
    refine envT_mid (fun i => ?_) (fun a r c => ?_)
    · unfold scO
      split
      · exact h2.2
      · exact h1.2
      · show In64 (q1 mA ra).f; unfold In64; omega
      · show In64 (q1 mA ra).n; unfold In64; omega
      · show In64 (q2 hA mA mM ra rm).f; unfold In64; omega
      · show In64 (q2 hA mA mM ra rm).n; unfold In64; omega
      · exact mid_zero
    · unfold tbO
      split
      · exact hra r c
      · exact hrm r c
      · exact i1.R r c
      · exact i1.L r c
      · exact allT_mid i1.R r c
      · exact i2.R r c
      · exact i2.L r c
      · exact allT_mid i2.R r c
      · exact mid_zero

/-- The facts of the way hold. -/
theorem pc_ok {hM : Bool} (h1 : 0 ≤ mA) (h2 : 0 ≤ mM) (hra : ∀ r c, In64 (ra r c)) (hrm : ∀ r c, In64 (rm r c)) (hhas : hA = false → mA = 0) : ∀ p ∈ (way hA mA mM ra rm hM).pc, p.1.eval (envO hA mA mM ra rm (okOf mA mM)) = p.2 := by
  unfold way W.pc
  simp only
  by_cases c1 : 200 < mA
  · rw [decide_eq_true c1, cond_true]
    intro p hp
    simp only [List.mem_cons, List.not_mem_nil, or_false] at hp
    subst hp
    exact decide_eq_false (show ¬ mA ≤ 200 by omega)
  rw [decide_eq_false c1, cond_false]
  by_cases c2 : 200 < mM
  · rw [decide_eq_true c2, cond_true]
    intro p hp
    simp only [List.mem_cons, List.not_mem_nil, or_false] at hp
    rcases hp with rfl | rfl
    · exact decide_eq_true (show mA ≤ 200 by omega)
    · exact decide_eq_false (show ¬ mM ≤ 200 by omega)
  rw [decide_eq_false c2, cond_false]
  have ok : okOf mA mM = true := by
    simp only [okOf, Bool.and_eq_true, decide_eq_true_eq]; omega
  rw [ok]
  have i1 := q1_inv ⟨h1, by omega⟩ hra
  have i2 := q2_inv (hA := hA) ⟨h1, by omega⟩ ⟨h2, by omega⟩ hra hrm hhas
  have f1 : 0 ≤ (q1 mA ra).f ∧ (q1 mA ra).f < 9 := i1.f
  have n1 : 0 ≤ (q1 mA ra).n ∧ (q1 mA ra).n ≤ 9 := i1.n
  have f2 : 0 ≤ (q2 hA mA mM ra rm).f ∧ (q2 hA mA mM ra rm).f < 9 := i2.f
  have n2 : 0 ≤ (q2 hA mA mM ra rm).n ∧ (q2 hA mA mM ra rm).n ≤ 9 := i2.n
  have hz : ∀ (n : Int) (i : Nat), envO hA mA mM ra rm true i = n → 0 ≤ n → ∀ p ∈ pcZ (decide (n = 0)) i, p.1.eval (envO hA mA mM ra rm true) = p.2 := fun n i e hn p hp => by
    by_cases c : n = 0
    · rw [decide_eq_true c] at hp
      simp only [pcZ, cond_true, List.mem_cons, List.not_mem_nil, or_false] at hp
      subst hp
      exact decide_eq_true (show envO hA mA mM ra rm true i = 0 by rw [e]; exact c)
    · rw [decide_eq_false c] at hp
      simp only [pcZ, cond_false, List.mem_cons, List.not_mem_nil, or_false] at hp
      rcases hp with rfl | rfl
      · exact decide_eq_true (show 1 ≤ envO hA mA mM ra rm true i by rw [e]; omega)
      · exact decide_eq_false (show ¬ envO hA mA mM ra rm true i = 0 by rw [e]; exact c)
  refine app (fun p hp => ?_) (app (fun p hp => ?_) (app (fun p hp => ?_) (app (hz _ 13 rfl n1.1) (hz _ 23 rfl n2.1))))
  · simp only [tt, List.mem_cons, List.not_mem_nil, or_false] at hp
    rcases hp with rfl | rfl | rfl | rfl | rfl
    · rfl
    · exact decide_eq_true h1
    · exact decide_eq_true (show mA ≤ 200 by omega)
    · exact decide_eq_true h2
    · exact decide_eq_true (show mM ≤ 200 by omega)
  · simp only [pcOne, List.mem_cons, List.not_mem_nil, or_false] at hp
    rcases hp with rfl | rfl | rfl | rfl
    · exact decide_eq_true f1.1
    · exact decide_eq_true (show (q1 mA ra).f ≤ 8 by omega)
    · exact decide_eq_true n1.1
    · exact decide_eq_true n1.2
  · simp only [pcOne, List.mem_cons, List.not_mem_nil, or_false] at hp
    rcases hp with rfl | rfl | rfl | rfl
    · exact decide_eq_true f2.1
    · exact decide_eq_true (show (q2 hA mA mM ra rm).f ≤ 8 by omega)
    · exact decide_eq_true n2.1
    · exact decide_eq_true n2.2
end

section
variable {hA hM : Bool} {mA mM : Int} {ra rm : TT} [F : Facts] [V : Vals]

theorem tab_at {a c : Nat} {x : Int} (hV : V.env = envO hA mA mM ra rm true) (h1 : 32 ≤ a) (h2 : a < 64) : V.env (cellIx a x c) = wr a (tbO hA mA mM ra rm true a) x c := by
  rw [hV]
  exact envT_at h1 h2
theorem tab_row {a r c : Nat} (hV : V.env = envO hA mA mM ra rm true) (h1 : 32 ≤ a) (h2 : a < 64) (hc : c < 64) : (SE.tab a).row V.env (r : Int) c = tbO hA mA mM ra rm true a r c := by
  show V.env (cellIx a (r : Int) c) = _
  rw [tab_at hV h1 h2, wr_nat h2 hc]

/-- A loop of acts, of nine places. -/
theorem acts9 {A : AL} {fx : List Bool} (hA' : A.OK fx) (pn : St → HS → List Nat) (st l : Bool) {m n acts R L more f' n' R' L' : SE} {v1 : SE} {S : LoopSpec} (hS : S = A.spec Try.prog.globals.size pn st l (.lit 9) v1 m (.lit 0) n acts R L more f' n' R' L')
    {mm : Int} {rr : TT} {qs qF : Q} (hv1 : In64 (v1.eval V.env)) (hm : m.eval V.env = mm) (hm64 : In64 mm) (hacts : ∀ r c : Nat, c < 64 → acts.row V.env r c = rr r c) (hacts64 : ∀ r c : Nat, In64 (acts.row V.env r c)) (hmore : ∀ r c : Nat, In64 (more.row V.env r c))
    (hq : qs.j = 0 ∧ qs.f = 0 ∧ qs.l = st) (hn : n.eval V.env = qs.n) (hR : ∀ r c : Nat, R.row V.env r c = qs.R r c) (hL : ∀ r c : Nat, L.row V.env r c = qs.L r c) (hinv : qs.Inv (aM mm rr)) (hF : Q.iter (aM mm rr) mm.toNat qs = qF)
    (hl : qF.l = l) (hf : f'.eval V.env = qF.f) (hn' : n'.eval V.env = qF.n) (hR' : ∀ r c : Nat, c < 64 → R'.row V.env r c = qF.R r c) (hL' : ∀ r c : Nat, c < 64 → L'.row V.env r c = qF.L r c) : LoopProof Try.prog [] S := by
  have hf0 : ∀ i, S.f0v i = (([.lit 9, v1, m, .lit 0, .lit 0, n] : List SE)[i]?).getD (.var i) := fun i => by rw [hS]; rfl
  have hg0 : ∀ a, S.g0v a = (([acts, R, L, more] : List SE)[a - 32]?).getD (.tab a) := fun a => by rw [hS]; rfl
  have b0 : base S 0 = 9 := by rw [base_one (by decide), hf0]; rfl
  have b2 : base S 2 = mm := by rw [base_one (by decide), hf0]; exact hm
  have bt : ∀ (r c : Nat), c < 64 → base S (cellIx 32 (r : Int) c) = rr r c := fun r c hc => by
    rw [base_tab (by decide) (by decide) hc, hg0]
    exact hacts r c hc
  have ha : actsOf (base S) = aM mm rr := by
    unfold actsOf aM
    rw [b0, b2]
    congr 1
    · funext i; exact bt i 0 (by decide)
    · funext i; exact bt i 1 (by decide)
  have hst : rings.start S st = qs := by
    obtain ⟨j, f, n', R', L', l'⟩ := qs
    obtain ⟨rfl, rfl, rfl⟩ := hq
    unfold rings.start
    congr 1
    · rw [hf0]; rfl
    · rw [hf0]; exact hn
    · funext r c; rw [hg0]; exact hR r c
    · funext r c; rw [hg0]; exact hL r c
  refine acts_proof A hA' pn st l S hS (envT_mid (fun i => ?_) (fun a r c => ?_)) (by rw [ha, hst]; exact hinv) qF (by rw [ha, hst, hm]; exact hF) hl hf hn' hR' hL'
  · split
    · rw [hf0]
      rcases i with _ | _ | _ | _ | _ | _ | i
      · show In64 9; unfold In64; omega
      · exact hv1
      · show In64 (m.eval V.env); rw [hm]; exact hm64
      · exact mid_zero
      · exact mid_zero
      · show In64 (n.eval V.env)
        rw [hn]
        have h1 : 0 ≤ qs.n ∧ qs.n ≤ 9 := hinv.n
        unfold In64; omega
      · omega
    · exact mid_zero
  · rw [hg0]
    by_cases h : a < 36
    · by_cases h' : 32 ≤ a
      · rcases (show a = 32 ∨ a = 33 ∨ a = 34 ∨ a = 35 by omega) with rfl | rfl | rfl | rfl
        · exact hacts64 _ _
        · show In64 (R.row V.env r c); rw [hR]; exact hinv.R _ _
        · show In64 (L.row V.env r c); rw [hL]; exact hinv.L _ _
        · exact hmore _ _
      · rw [show a - 32 = 0 by omega]
        exact hacts64 _ _
    · rw [List.getElem?_eq_none (by show 4 ≤ _; omega)]
      exact V.mid _

/-- All that is in a queue, and whether it is the very same as the document's. -/
theorem all_ok {q : Q} {a : Acts} (hN : a.N = 9) (hi : q.Inv a) {f n R T L : SE} (hf : f.eval V.env = q.f) (hn : n.eval V.env = q.n) (hR : ∀ r c : Nat, c < 64 → R.row V.env r c = q.R r c) (hR64 : ∀ r c : Nat, In64 (R.row V.env r c)) (hT : ∀ r c : Nat, c < 64 → T.row V.env r c = allT q.f 9 q.R q.n r c)
    (hT64 : ∀ r c : Nat, In64 (T.row V.env r c)) (hL : ∀ r c : Nat, c < 64 → L.row V.env r c = q.L r c) (hL64 : ∀ r c : Nat, In64 (L.row V.env r c)) :
    ∀ S ∈ (bif decide (q.n = 0) then [AS0 abK Try.prog.globals.size N9 f n R, IS0] else [AS abK Try.prog.globals.size N9 f n R T, IS Try.prog.globals.size n T L]), LoopProof Try.prog [] S := by
  have hfi : 0 ≤ q.f ∧ q.f < 9 := by have := hi.f; rw [hN] at this; exact this
  have hni : 0 ≤ q.n ∧ q.n ≤ 9 := by have := hi.n; rw [hN] at this; exact this
  have n9 : N9.eval V.env = 9 := rfl
  intro S hS
  by_cases c : q.n = 0
  · rw [decide_eq_true c, cond_true] at hS
    simp only [List.mem_cons, List.not_mem_nil, or_false] at hS
    rcases hS with rfl | rfl
    · exact AS0_proof (by rw [n9]; omega) (by rw [n9, hf]; exact hfi) (by rw [hn]; exact c) hR64
    · exact IS0_proof
  · rw [decide_eq_false c, cond_false] at hS
    simp only [List.mem_cons, List.not_mem_nil, or_false] at hS
    rcases hS with rfl | rfl
    · refine AS_proof (by rw [n9]; omega) (by rw [n9, hf]; exact hfi) (by rw [n9, hn]; omega) hR64 (fun r c hc => ?_)
      rw [hT r c hc, hf, n9, hn]
      unfold allT
      simp only [hR _ 0 (show 0 < 64 by decide)]
    · refine IS_proof (by rw [hn]; omega) hT64 hL64 (fun s k1 k2 => ?_)
      rw [hn] at k2
      obtain ⟨i, rfl⟩ : ∃ i : Nat, s = i := ⟨s.toNat, by omega⟩
      rw [hT _ 0 (by decide), hL _ 0 (by decide)]
      unfold allT
      rw [if_pos ⟨k2, rfl⟩]
      have := hi.same i k2
      rw [hN] at this
      exact this

theorem specs_ok (hV : V.env = envO hA mA mM ra rm (okOf mA mM)) (h1 : 0 ≤ mA ∧ In64 mA) (h2 : 0 ≤ mM ∧ In64 mM) (hra : ∀ r c, In64 (ra r c)) (hrm : ∀ r c, In64 (rm r c)) (hhas : hA = false → mA = 0) (hhasM : hM = false → mM = 0) :
    ∀ S ∈ (way hA mA mM ra rm hM).sp, LoopProof Try.prog [] S := by
  by_cases c1 : 200 < mA
  · unfold way W.sp W.specs
    simp only
    rw [decide_eq_true c1]
    intro S hS; cases hS
  by_cases c2 : 200 < mM
  · unfold way W.sp W.specs
    simp only
    rw [decide_eq_true c2, Bool.or_true]
    intro S hS; cases hS
  have ok : okOf mA mM = true := by
    simp only [okOf, Bool.and_eq_true, decide_eq_true_eq]; omega
  rw [ok] at hV
  have b1 : 0 ≤ mA ∧ mA ≤ 200 := by omega
  have b2 : 0 ≤ mM ∧ mM ≤ 200 := by omega
  have i1 := q1_inv b1 hra
  have ic := qc0_inv (rm := rm) (hA := hA) b1 b2 hra hrm hhas
  have i2 := q2_inv (hA := hA) b1 b2 hra hrm hhas
  have v1 : V.env 1 = mM := by rw [hV]; rfl
  have v2 : V.env 2 = mA := by rw [hV]; rfl
  have v12 : V.env 12 = (q1 mA ra).f := by rw [hV]; rfl
  have v13 : V.env 13 = (q1 mA ra).n := by rw [hV]; rfl
  have v22 : V.env 22 = (q2 hA mA mM ra rm).f := by rw [hV]; rfl
  have v23 : V.env 23 = (q2 hA mA mM ra rm).n := by rw [hV]; rfl
  have m4 : ∀ a (r c : Nat), In64 ((SE.tab a).row V.env (r : Int) c) := fun a r c => V.mid _
  have tr : ∀ a (r c : Nat), 32 ≤ a → a < 64 → c < 64 → (SE.tab a).row V.env (r : Int) c = tbO hA mA mM ra rm true a r c := fun a r c k1 k2 k3 => tab_row hV k1 k2 k3
  generalize hk : way hA mA mM ra rm hM = k
  have khA : k.hA = hA := by rw [← hk]; rfl
  have khM : k.hM = hM := by rw [← hk]; rfl
  have kl : k.l = (q1 mA ra).l := by rw [← hk]; rfl
  have kz1 : k.z1 = decide ((q1 mA ra).n = 0) := by rw [← hk]; rfl
  have kz2 : k.z2 = decide ((q2 hA mA mM ra rm).n = 0) := by rw [← hk]; rfl
  have kg : (k.long || k.longM) = false := by
    rw [← hk]
    show (decide (200 < mA) || decide (200 < mM)) = false
    rw [decide_eq_false c1, decide_eq_false c2]; rfl
  have ef1 : k.f1.eval V.env = (q1 mA ra).f := by
    unfold W.f1
    rw [khA]
    cases hA
    · rw [q1_none (hhas rfl)]; rfl
    · exact v12
  have en1 : k.n1.eval V.env = (q1 mA ra).n := by
    unfold W.n1
    rw [kl]
    cases e : (q1 mA ra).l
    · rw [i1.l e]; rfl
    · exact v13
  have eR1 : ∀ r c : Nat, c < 64 → k.R1.row V.env r c = (q1 mA ra).R r c := fun r c hc => by
    unfold W.R1
    rw [khA]
    cases hA
    · rw [q1_none (hhas rfl)]; rfl
    · exact tr 41 r c (by decide) (by decide) hc
  have mR1 : ∀ r c : Nat, In64 (k.R1.row V.env r c) := fun r c => by
    unfold W.R1
    rw [khA]
    cases hA
    · exact mid_zero
    · exact m4 41 r c
  have ecp : ∀ r c : Nat, k.cp.row V.env r c = (qc0 hA mA ra).R r c := fun r c => by
    unfold W.cp
    rw [khA]
    have e41 : ∀ x c, (SE.tab 41).row V.env x c = wr 41 (q1 mA ra).R x c := fun x c => tab_at hV (by decide) (by decide)
    cases hA
    · show cpZ.row V.env r c = 0
      unfold cpZ
      simp only [SE.row, c0, SE.eval]
      repeat' split
      all_goals rfl
    · show (cpE (.var 12) (.tab 41)).row V.env r c = cpT (q1 mA ra).f (wr 41 (q1 mA ra).R) r c
      have e : wr 41 (q1 mA ra).R = (SE.tab 41).row V.env := by funext x c; exact (e41 x c).symm
      rw [e, ← v12]
      rfl
  have eL0 : ∀ r c : Nat, k.L0.row V.env r c = (qc0 hA mA ra).L r c := fun r c => by
    unfold W.L0
    rw [kl]
    show _ = (bif (q1 mA ra).l then l0T (wr 42 (q1 mA ra).L) else fun _ _ => 0) r c
    have e42 : ∀ x c, (SE.tab 42).row V.env x c = wr 42 (q1 mA ra).L x c := fun x c => tab_at hV (by decide) (by decide)
    cases (q1 mA ra).l
    · simp only [cond_false, SE.row, c0, SE.eval]
      split <;> rfl
    · have e : wr 42 (q1 mA ra).L = (SE.tab 42).row V.env := by funext x c; exact (e42 x c).symm
      rw [e]
      rfl
  have ef2 : k.f2.eval V.env = (q2 hA mA mM ra rm).f := by
    unfold W.f2
    rw [khM]
    cases hM
    · rw [q2_none (hhasM rfl)]; rfl
    · exact v22
  have en2 : k.n2.eval V.env = (q2 hA mA mM ra rm).n := by
    unfold W.n2
    rw [khM]
    cases hM
    · rw [q2_none (hhasM rfl)]; exact en1
    · exact v23
  have eR2 : ∀ r c : Nat, c < 64 → k.R2.row V.env r c = (q2 hA mA mM ra rm).R r c := fun r c hc => by
    unfold W.R2
    rw [khM]
    cases hM
    · rw [q2_none (hhasM rfl)]; exact ecp r c
    · exact tr 51 r c (by decide) (by decide) hc
  have mR2 : ∀ r c : Nat, In64 (k.R2.row V.env r c) := fun r c => by
    unfold W.R2
    rw [khM]
    cases hM
    · rw [cond_false, ecp]; exact ic.R r c
    · exact m4 51 r c
  have eL2 : ∀ r c : Nat, c < 64 → k.L2.row V.env r c = (q2 hA mA mM ra rm).L r c := fun r c hc => by
    unfold W.L2
    rw [khM]
    cases hM
    · rw [q2_none (hhasM rfl)]; exact eL0 r c
    · exact tr 52 r c (by decide) (by decide) hc
  have mL2 : ∀ r c : Nat, In64 (k.L2.row V.env r c) := fun r c => by
    unfold W.L2
    rw [khM]
    cases hM
    · rw [cond_false, eL0]; exact ic.L r c
    · exact m4 52 r c
  intro S hS
  unfold W.sp W.specs at hS
  rw [kg, cond_false, List.mem_append, List.mem_append, List.mem_append] at hS
  rcases hS with hS | hS | hS | hS
  · have : S = k.spB (actsB k.hM) Try.prog.globals.size := by
      cases e : k.hA
      · rw [e] at hS; cases hS
      · rw [e] at hS; simpa using hS
    refine acts9 (okB k.hM) (pnB k.hM) false k.l (v1 := .var 1) this (mm := mA) (rr := ra) (qs := q0) (qF := q1 mA ra) (V.mid _) v2 h1.2 (fun r c hc => tr 32 r c (by decide) (by decide) hc) (fun r c => m4 32 r c) (fun r c => m4 35 r c) ⟨rfl, rfl, rfl⟩ rfl (fun _ _ => rfl) (fun _ _ => rfl) (q0_inv b1 hra) rfl kl.symm v12 v13 (fun r c hc => tr 41 r c (by decide) (by decide) hc) (fun r c hc => tr 42 r c (by decide) (by decide) hc)
  · have : S = k.spC actsC Try.prog.globals.size := by
      cases e : k.hM
      · rw [e] at hS; cases hS
      · rw [e] at hS; simpa using hS
    refine acts9 okC pnC true true (v1 := .var 1) this (mm := mM) (rr := rm) (qs := qc0 hA mA ra) (qF := q2 hA mA mM ra rm) (V.mid _) v1 h2.2 (fun r c hc => tr 35 r c (by decide) (by decide) hc) (fun r c => m4 35 r c) (fun r c => m4 36 r c) ⟨rfl, rfl, rfl⟩ en1 ecp eL0 ic rfl q2_l v22 v23 (fun r c hc => tr 51 r c (by decide) (by decide) hc) (fun r c hc => tr 52 r c (by decide) (by decide) hc)
  · unfold W.s1 at hS
    rw [kz1] at hS
    exact all_ok rfl i1 ef1 en1 eR1 mR1 (fun r c hc => tr 43 r c (by decide) (by decide) hc) (fun r c => m4 43 r c) (fun r c hc => tr 42 r c (by decide) (by decide) hc) (fun r c => m4 42 r c) S hS
  · unfold W.s2 at hS
    rw [kz2] at hS
    exact all_ok rfl i2 ef2 en2 eR2 mR2 (fun r c hc => tr 53 r c (by decide) (by decide) hc) (fun r c => m4 53 r c) eL2 mL2 S hS
end

theorem walkG {hA hM : Bool} {mA mM : Int} {ra rm : TT} (h1 : 0 ≤ mA ∧ In64 mA) (h2 : 0 ≤ mM ∧ In64 mM) (hra : ∀ r c, In64 (ra r c)) (hrm : ∀ r c, In64 (rm r c)) (hhas : hA = false → mA = 0) (hhasM : hM = false → mM = 0)
    {w : World} {φ : Phi} {v1 v2 : Value} (hrw : ∀ q : Other, q.V.env = envO hA mA mM ra rm (okOf mA mM) → @RW q.F q.V φ w.heap.size (way hA mA mM ra rm hM).hp w) (hf : Free φ (way hA mA mM ra rm hM).hp.n 1000000000) (hg : GOk Try.prog φ)
    (hx : ∀ q : Other, q.V.env = envO hA mA mM ra rm (okOf mA mM) → @RL q.F q.V φ (way hA mA mM ra rm hM).as [v1, v2]) :
    Calls Try.prog 5 #[v1, v2] w fun e w' => e = .returned (.bool true) ∧ RowKit.Below w.heap.size w w' := by
  letI Fa : Facts := ⟨(way hA mA mM ra rm hM).pc⟩
  letI Va : Vals := ⟨envO hA mA mM ra rm (okOf mA mM), pc_ok h1.1 h2.1 hra hrm hhas, envO_mid h1 h2 hra hrm hhas okOf_true⟩
  letI := manyLoops Try.prog.globals.size [] (way hA mA mM ra rm hM).sp
  have sp := specs_ok (V := Va) (hM := hM) rfl h1 h2 hra hrm hhas hhasM
  letI := manyLoops_tame sp
  have hk : KnownOK Try.prog w.heap.size cfgO :=
    know_ok (g := 7) (n := 200) (N := 1000000000) (fuel := 100000) (tabs := []) (fun B => manyLoops_ok sp B) (fun _ _ h => region_any h) (fun p hp => by cases hp) run_lives cfgO rfl _
  have hrun := runs _ (way_may (rm := rm) h1.1 h2.1 hra hhas hhasM)
  unfold W.run at hrun
  have hrw := hrw ⟨Fa, Va⟩ rfl
  have hx := hx ⟨Fa, Va⟩ rfl
  revert hrw hf hrun
  generalize (way hA mA mM ra rm hM).hp = s
  intro hf hrun hrw
  exact calls_from (cfg := cfgO) hk (fun _ h => region_any h) hrw hf hg hx hrun

noncomputable abbrev G : Nat := Try.prog.globals.size
/-- The acts that came in: none, or rows of two numbers. -/
def ActsIs (w : World) (v : Value) (e : Bool) (len : Int) (row : Nat → Nat → Int) : Prop :=
  bif e then ∃ (b o l cap : Nat) (arr : Array Value) (el : TypeId) (fz : Nat × Nat), v = .slice (some ⟨b, o, none⟩) l cap ∧ len = l ∧ l ≤ cap ∧ w.heap[b]? = some (.cells arr el fz) ∧ o + l * 2 ≤ arr.size ∧ ∀ (r c : Nat) (k' : CK), r < l → [CK.i .i64, CK.i .i64][c]? = some k' → ∃ x, arr[o + (r * 2 + c)]? = some x ∧ CKv k' (row r c) x
  else len = 0 ∧ ∃ p c, v = .slice p 0 c

theorem start0 (q : Other) (w : World) : @RW q.F q.V (phi0 G) w.heap.size (startL G []) w := @start_rw' q.F q.V G _ [] w (fun p hp => by cases hp)

theorem phi0_none {b : Nat} (h : G ≤ b) : phi0 G b = none := by
  unfold phi0
  rw [if_neg (by omega)]

theorem put_other {φ : Phi} {b c : Nat} {a : Lc} (h : c ≠ b) : (φ.put b a) c = φ c := by
  unfold Phi.put
  rw [if_neg h]

theorem add_tab {q : Other} {φ : Phi} {s : HS} {w : World} {a : Lc} {x : Blk} (h : @RW q.F q.V φ w.heap.size s w) (hf : φ s.n = none) (hb : @RB q.F q.V φ w a x) (hx : x.fixed = true) (hy : ∀ c t y, s.h.get c = some (t, y) → y.fixed = true) : @RW q.F q.V (φ.put s.n a) w.heap.size (Abs.addB s x) w :=
  @RW.add q.F q.V φ w.heap.size s w h a x hf hb (fun h => by rw [hx] at h; cases h) (fun c t y a' e hy' => by rw [hy c t y e] at hy'; cases hy')

/-- A slice of acts is a table. -/
theorem acts_rb {w : World} {φ : Phi} {b o l cap : Nat} {arr : Array Value} {el : TypeId} {fz : Nat × Nat} {row : Nat → Nat → Int} {t : Nat} {n : SE} (q : Other) (ha : w.heap[b]? = some (.cells arr el fz)) (hs : o + l * 2 ≤ arr.size)
    (hr : ∀ (r c : Nat) (k' : CK), r < l → [CK.i .i64, CK.i .i64][c]? = some k' → ∃ x, arr[o + (r * 2 + c)]? = some x ∧ CKv k' (row r c) x) (hn : n.eval q.V.env = l) (hrow : ∀ r c : Nat, c < 2 → q.V.env (cellIx t (r : Int) c) = row r c) :
    @RB q.F q.V φ w ⟨b, o, cap⟩ (.arr [.i .i64, .i .i64] (.tab t) n true) :=
  @rows_rb q.F q.V φ w b o l [.i .i64, .i .i64] row arr el fz (.tab t) n cap ha hs hr hn (fun r c hc => hrow r c hc)

/-- What one slice adds to what is there. -/
theorem slice_more {w : World} {v : Value} {e : Bool} {len : Int} {row : Nat → Nat → Int} (h : ActsIs w v e len row) {s : HS} {φ : Phi} {env : Nat → Int} {t i : Nat} (ht : 32 ≤ t ∧ t < 64) (hi : env i = len) (hrow : ∀ r c : Nat, c < 2 → env (cellIx t (r : Int) c) = row r c)
    (hs : ∀ q : Other, q.V.env = env → @RW q.F q.V φ w.heap.size s w) (hfx : ∀ c t y, s.h.get c = some (t, y) → y.fixed = true) (hfree : ∀ b, s.n ≤ b → φ b = none) (hgn : G ≤ s.n) :
    ∃ ψ : Phi, (∀ b, b ≠ s.n → ψ b = φ b) ∧ (∀ q : Other, q.V.env = env → @RW q.F q.V ψ w.heap.size (bif e then Abs.addB s (.arr [.i .i64, .i .i64] (.tab t) (.var i) true) else s) w) ∧
      (∀ c tt y, (bif e then Abs.addB s (.arr [.i .i64, .i .i64] (.tab t) (.var i) true) else s).h.get c = some (tt, y) → y.fixed = true) ∧
      (∀ b, (bif e then Abs.addB s (.arr [.i .i64, .i .i64] (.tab t) (.var i) true) else s).n ≤ b → ψ b = none) ∧
      ∀ (q : Other) (χ : Phi), q.V.env = env → (e = true → χ s.n = ψ s.n) → @RV q.F q.V χ (bif e then .ss s.n 2 (.lit 0) (.var i) else .so (.lit 0)) v := by
  cases e with
  | false =>
    obtain ⟨hl, p, c, rfl⟩ := h
    exact ⟨φ, fun _ _ => rfl, hs, hfx, hfree, fun q χ hq _ => @RV.so q.F q.V _ _ _ _ _ rfl⟩
  | true =>
    obtain ⟨b, o, l, cap, arr, el, fz, rfl, hlt, hcap, ha, hsz, hr⟩ := h
    refine ⟨φ.put s.n ⟨b, o, cap⟩, fun b hb => put_other hb, fun q hq => add_tab (hs q hq) (hfree _ (Nat.le_refl _)) (acts_rb q ha hsz hr (show q.V.env i = l by rw [hq, hi, hlt]) (fun r c hc => by rw [hq]; exact hrow r c hc)) rfl hfx, fun c tt y e => ?_, fun b hb => ?_, fun q χ hq he => ?_⟩
    · simp only [cond_true, Abs.addB, Tr.get_set] at e
      split at e
      · cases e; rfl
      · exact hfx c tt y e
    · have hb : s.n + 1 ≤ b := hb
      rw [put_other (by omega)]
      exact hfree b (by omega)
    · have hp : χ s.n = some ⟨b, o, cap⟩ := (he rfl).trans (Phi.put_self _ _ _)
      exact @RV.ss q.F q.V _ _ _ _ _ _ _ _ _ _ hp rfl (show q.V.env i = l by rw [hq, hi, hlt]) ⟨hcap, Nat.le_of_eq (Nat.zero_add _)⟩ (fun _ => by simp)

theorem walk {eA eM : Bool} {mA mM : Int} {ra rm : TT} (h1 : 0 ≤ mA ∧ mA ≤ 9223372036854775807) (h2 : 0 ≤ mM ∧ mM ≤ 9223372036854775807) (hra : ∀ r c, In64 (ra r c)) (hrm : ∀ r c, In64 (rm r c)) {w : World} {v1 v2 : Value} (s1 : ActsIs w v1 eA mA ra) (s2 : ActsIs w v2 eM mM rm) :
    Calls Try.prog 5 #[v1, v2] w fun e w' => e = .returned (.bool true) ∧ RowKit.Below w.heap.size w w' := by
  have k1 : 0 ≤ mA ∧ In64 mA := ⟨h1.1, by unfold In64; omega⟩
  have k2 : 0 ≤ mM ∧ In64 mM := ⟨h2.1, by unfold In64; omega⟩
  have hhas : eA = false → mA = 0 := fun h => by subst h; exact s1.1
  have hhasM : eM = false → mM = 0 := fun h => by subst h; exact s2.1
  obtain ⟨ψ1, a1, a2, a3, a4, a5⟩ := slice_more s2 (s := startL G []) (φ := phi0 G) (env := envO eA mA mM ra rm (okOf mA mM)) (t := 35) (i := 1) ⟨by decide, by decide⟩ rfl (fun r c hc => envT_cell (by decide) (by decide) (by omega)) (fun q _ => start0 q w) (fun c t y e => by obtain ⟨p, hp, _⟩ := startL_get e; cases hp) (fun b hb => phi0_none hb) (Nat.le_refl _)
  have hn : (bif eM then Abs.addB (startL G []) moreTab else startL G []).n = bif eM then G + 1 else G := by cases eM <;> rfl
  have hle : G ≤ (bif eM then Abs.addB (startL G []) moreTab else startL G []).n := by rw [hn]; cases eM <;> simp
  obtain ⟨ψ2, b1, b2, b3, b4, b5⟩ := slice_more s1 (s := bif eM then Abs.addB (startL G []) moreTab else startL G []) (φ := ψ1) (env := envO eA mA mM ra rm (okOf mA mM)) (t := 32) (i := 2) ⟨by decide, by decide⟩ rfl (fun r c hc => envT_cell (by decide) (by decide) (by omega)) a2 a3 a4 hle
  have hG : ∀ b, b < G → ψ2 b = phi0 G b := fun b hb => by
    rw [b1 b (by omega), a1 b (by show b ≠ G; omega)]
  have gl : GOk Try.prog ψ2 := fun g hg => by
    have hg : g < G := hg
    rw [hG g hg]
    unfold phi0
    rw [if_pos hg]
  refine walkG (hA := eA) (hM := eM) (mA := mA) (mM := mM) (ra := ra) (rm := rm) (φ := ψ2) k1 k2 hra hrm hhas hhasM (fun q hq => b2 q hq) (fun b hb _ => b4 b hb) gl (fun q hq => ?_)
  have r1 := b5 q ψ2 hq (fun _ => rfl)
  rw [hn] at r1
  have r2 := a5 q ψ2 hq (fun he => b1 _ (by subst he; show G ≠ G + 1; omega))
  exact @RL.cons q.F q.V _ _ _ _ _ r1 (@RL.cons q.F q.V _ _ _ _ _ r2 (@RL.nil q.F q.V _))
end
end Go.Proofs.Ytlbehjagidopkaa.ringCopies
