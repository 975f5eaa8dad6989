/- The law's loops. Conditions: those that each theorem names. -/
import Derived.Test.YtaliacnncemneaaWheelWalk
open Go
noncomputable section

namespace Go.Proofs.Wheels
open Go.Abs

def shA4 (G : Nat) : Nat → Shape
  | 0 => ⟨[(1, ss (G + 7) (v 6)), (13, .ptr G 0), (16, X 7), (103, ss (G + 8) (v 8)), (104, X 8), (105, X 9)], wheelB G ++ [T1u 133 (v 6), T1 134 (v 8)]⟩
  | _ => ⟨[(1, ss (G + 7) (v 6)), (13, .ptr G 0), (16, X 7)], wheelB G ++ [T1u 133 (v 6), T1 134 (v 8)]⟩
def shA3 (has : Bool) (G : Nat) : Nat → Shape
  | 0 => ⟨(bif has then [(1, ss (G + 7) (v 6))] else []) ++ [(13, .ptr G 0), (16, X 7)], wheelB G ++ bif has then [T1u 133 (v 6)] else []⟩
  | _ => ⟨(bif has then [(1, ss (G + 7) (v 6))] else []) ++ [(13, .ptr G 0)], wheelB G ++ bif has then [T1u 133 (v 6)] else []⟩
def nmA4 (st : St) (s : HS) : List Nat := wheelOf s (st.t.get 13) ++ ssOf (st.t.get 1) ++ ssOf (st.t.get 103)
def nmA3 (st : St) (s : HS) : List Nat := wheelOf s (st.t.get 13) ++ ssOf (st.t.get 1)
def nmB3 (st : St) (s : HS) : List Nat := wheelOf s (st.t.get 13)
def fA4 (n now : SE) (c : C4) (len t m i : SE) : List SE := [n, now, c.a, c.b, c.c, c.d, len, t, m, i]
def gA4 (w : SE) (K : K4) (A T : SE) : List SE := [w, K.a, K.b, K.c, K.d, A, T]
def a4S (G : Nat) (n now : SE) (c : C4) (len t m : SE) (w : SE) (K : K4) (A T : SE) : LoopSpec :=
  ⟨3, 36, 125, shA4 G, fA4 n now c len t m (L 0), gA4 w K A T, nmA4, [⟨.exit 8, 1, fA4 n now c len t m m, gA4 w K A T⟩], 9⟩
def K135 : K4 := ⟨.tab 135, .tab 136, .tab 137, .tab 138⟩
def tk3 (f : Fns) (b : Bool) : FunSpec := tickS f (v 0) (v 1) (add (v 1) (L 1)) C0 C8 (v 12) (.tab 128) (.tab 134) K0 K135 (.tab 139) b
def a4L (G : Nat) : LoopSpec := a4S G (v 0) (add (v 1) (L 1)) C8 (v 6) (v 7) (v 12) (.tab 134) K135 (.tab 133) (.tab 139)
def idE : SE := sel 134 (v 9)
def afE4 : SE := sel 133 idE
def pcA4 : List (SB × Bool) := [tt, nle (v 8) (v 9), le (L 0) (v 9), le (v 9) (L 4095), le (v 8) (L 4096), le (v 9) (add (v 8) (L (-1))), le (L 0) (v 6), le (v 6) (L 40)] ++ (inR (L 0) idE (add (v 6) (L (-1))) ++ (inR (L 0) afE4 (L 65535) ++ (inR (L 0) (.rem afE4 (L 200)) (L 199) ++ [eq (add (L 1) (.rem afE4 (L 200))) (v 7)])))
def csA4 : Case := ⟨pcA4, .normal, 0, [.var 0, .var 1, .var 2, .var 3, .var 4, .var 5, .var 6, .var 7, .var 8, add (v 9) (L 1)], [], []⟩
def csA4E : Case := ⟨[tt, le (v 8) (v 9)], .exit 8, 1, [], [], []⟩
def pcA3 : List (SB × Bool) := pcW ++ (inR (L 1) (v 7) (L 200) ++ inR (L 0) (v 6) (L 40))
def fT3 : List SE := [.var 0, add (v 1) (L 1), v 8, v 9, v 10, v 11, v 6, add (v 7) (L 1)]
def gT3 : List SE := [.tab 134, .tab 135, .tab 136, .tab 137, .tab 138, .tab 133]
def csT0 : Case := ⟨pcA3, .normal, 0, fT3, gT3, []⟩
def csT1 : Case := ⟨pcA3 ++ inR (L 1) (v 12) (L 4096), .normal, 0, fT3, gT3, []⟩
def csT9 : Case := ⟨pcW ++ [nle (v 7) (L 200)], .exit 6, 1, [], [], []⟩
def a3S (has : Bool) (G : Nat) (n now now' : SE) (c c' : C4) (len : SE) (w w' : SE) (K K' : K4) (A : SE) : LoopSpec :=
  ⟨3, 33, 125, shA3 has G, [n, now, c.a, c.b, c.c, c.d, len, L 1], gA1 w K A, bif has then nmA3 else nmB3, [⟨.exit 6, 1, [n, now', c'.a, c'.b, c'.c, c'.d, len, L 201], gA1 w' K' A⟩], bif has then 8 else 7⟩
end Go.Proofs.Wheels
namespace Go.Proofs.Ytaliacnncemneaa.wheels
open Go.Abs Go.Proofs.Wheels

/-- A loop's round, with loops within. -/
noncomputable def runL (fn key nt : Nat) (shapes : Nat → Shape) (stay i : Nat) (c : Case) (ls : List LoopSpec) (fs : List FunSpec) : Bool :=
  (@code ⟨c.pc⟩ Try.prog (@manyLoops ⟨c.pc⟩ PG [] ls) (callL c.pc ls fs) none fn fuel (bodyK fn key) ⟨tmps (shapes i).t, nt, [.rest]⟩ ((shapes i).heap PG [])).every NN (@Case.chk ⟨c.pc⟩ PG nt stay (shapes c.to) c)
theorem manyRnd (B : Nat) (pc : List (SB × Bool)) (env : Nat → Int) (ls : List LoopSpec) (fs : List FunSpec) (hl : ∀ V : @Vals ⟨pc⟩, V.env = env → ∀ S ∈ ls, @LoopProof ⟨pc⟩ V Try.prog [] S) (h : ∀ V : @Vals ⟨pc⟩, V.env = env → ∀ S ∈ fs, @FunProof ⟨pc⟩ V Try.prog [] S) :
    Rnd Try.prog B pc env (@manyLoops ⟨pc⟩ PG [] ls) (callL pc ls fs) :=
  ⟨fun V hV => letI : Facts := ⟨pc⟩; letI := V; manyLoops_tame (hl V hV), fun V hV => letI : Facts := ⟨pc⟩; letI := V; manyLoops_ok (hl V hV) B, fun V hV => callL_ok B V (hl V hV) (h V hV)⟩

set_option maxRecDepth 1000000
theorem run_4 : runR 3 36 125 (shA4 PG) 9 0 csA4 [] = true := by kernel_rfl
theorem run_4E : runR 3 36 125 (shA4 PG) 9 0 csA4E [] = true := by kernel_rfl
theorem run_30 : runL 3 33 125 (shA3 true PG) 8 0 csT0 [] [tk3 fns false] = true := by kernel_rfl
theorem run_31 : runL 3 33 125 (shA3 true PG) 8 0 csT1 [a4L PG] [tk3 fns true] = true := by kernel_rfl
theorem run_39 : runR 3 33 125 (shA3 true PG) 8 0 csT9 [] = true := by kernel_rfl
theorem run_b0 : runL 3 33 125 (shA3 false PG) 7 0 csT0 [] [tk3 fns false] = true := by kernel_rfl
theorem run_b9 : runR 3 33 125 (shA3 false PG) 7 0 csT9 [] = true := by kernel_rfl
theorem isA4 : ((Try.prog.funcs[3]?).bind (·.body)).map (fun c => loopsKey 36 (subs c)) = some [bodyK 3 36] := by kernel_rfl
theorem isA3 : ((Try.prog.funcs[3]?).bind (·.body)).map (fun c => loopsKey 33 (subs c)) = some [bodyK 3 33] := by kernel_rfl
theorem fxIn4 : ShapesOK (shA4 PG) 9 [false, false, false, false, false, false, false, true, false] := fun i => by rcases i with _ | i <;> exact ⟨Nat.le_refl _, rfl, rfl⟩
theorem goodTin : goodAt PG (shA4 PG 1) = true := by kernel_rfl
theorem upsIn4 : ∀ i, (shA4 PG i).ups 10 7 = true := fun i => by rcases i with _ | i <;> kernel_rfl
def fx3 (has : Bool) : List Bool := bif has then [false, false, false, false, false, false, false, true] else [false, false, false, false, false, false, false]
theorem fxTi (has : Bool) : ShapesOK (shA3 has PG) (bif has then 8 else 7) (fx3 has) := fun i => by cases has <;> rcases i with _ | i <;> exact ⟨Nat.le_refl _, rfl, rfl⟩
theorem goodTi (has : Bool) : goodAt PG (shA3 has PG 1) = true := by cases has <;> kernel_rfl
theorem upsTi (has : Bool) : ∀ i, (shA3 has PG i).ups 8 6 = true := fun i => by cases has <;> rcases i with _ | i <;> kernel_rfl
end Go.Proofs.Ytaliacnncemneaa.wheels

namespace Go.Proofs.Ytaliacnncemneaa.wheels
open Go.Abs Go.Proofs.Wheels

/-! ### The inner loop: who was woken, and when -/

def encI (s : WS) (ln : Nat) (t : Int) (ql : List Int) (A : TT) (i : Nat) : Nat → Int :=
  encL ([s.n, s.now] ++ (s.cs ++ [(ln : Int), t, (ql.length : Int), (i : Int)])) ([s.when_] ++ (s.k.list ++ [A, listT ql]))

theorem inner_proof [F : Facts] [V : Vals] {n now len t m w Ae T : SE} {c : C4} {K : K4} {s : WS} {q : Int → List Int} {A : TT} {ln : Nat} {ti : Int} {ql : List Int} (hs : wsE V.env n now c w K = s) (h : WBase s q) (hm : WMid s) (hlen : len.eval V.env = ln) (hl40 : ln ≤ 40) (ht : t.eval V.env = ti) (hti : In64 ti)
    (hmany : m.eval V.env = ql.length) (hql : ql.length ≤ 4096) (hA : RowEq (rowE V.env Ae) A) (hAm : MidT A) (hT : RowEq (rowE V.env T) (listT ql)) (hx : ∀ x ∈ ql, 0 ≤ x ∧ x < ln ∧ 0 ≤ g0 A x ∧ g0 A x ≤ 65535 ∧ 1 + g0 A x % 200 = ti) : LoopProof Try.prog [] (a4S PG n now c len t m w K Ae T) := by
  have hn := h.rep.n1
  have h0 := h.now0
  have hnow := hm.now
  have sn : n.eval V.env = s.n := by rw [← hs]; rfl
  have snow : now.eval V.env = s.now := by rw [← hs]; rfl
  have sc : ∀ i, cE V.env c i = s.c i := fun i => by rw [← hs]; rfl
  have sw : rowE V.env w = s.when_ := by rw [← hs]; rfl
  have sk : lkE V.env K = s.k := by rw [← hs]; rfl
  obtain ⟨E, hE⟩ : ∃ E, E = encI s ln ti ql A := ⟨_, rfl⟩
  have one : ∀ {i j : Nat} {x : Int}, ([s.n, s.now] ++ (s.cs ++ [(ln : Int), ti, (ql.length : Int), (i : Int)]))[j]? = some x → j < 128 → E i j = x := fun h1 h2 => by rw [hE]; exact encL_one h1 h2
  have tab : ∀ {i a : Nat} {X : TT}, ([s.when_] ++ (s.k.list ++ [A, listT ql]))[a - 128]? = some X → 128 ≤ a → a < 256 → RowEq (tabE (E i) a) X := fun h1 h2 h3 => by rw [hE]; exact encL_tab h1 h2 h3
  have emid : ∀ i, i ≤ ql.length → ∀ j, In64 (E i j) := fun i hi => by
    rw [hE]
    refine encL_mid (fun y hy => ?_) (fun Y hY => ?_)
    · rcases List.mem_append.1 hy with hy | hy
      · simp only [List.mem_cons, List.not_mem_nil, or_false] at hy
        rcases hy with rfl | rfl
        · exact i64 (by omega) (by omega)
        · exact i64 (by omega) (by omega)
      · rcases List.mem_append.1 hy with hy | hy
        · exact h.cs_mid y hy
        · simp only [List.mem_cons, List.not_mem_nil, or_false] at hy
          rcases hy with rfl | rfl | rfl | rfl
          · exact i64 (by omega) (by omega)
          · exact hti
          · exact i64 (by omega) (by omega)
          · exact i64 (by omega) (by omega)
    · rcases List.mem_append.1 hY with hY | hY
      · simp only [List.mem_cons, List.not_mem_nil, or_false] at hY
        subst hY; exact hm.w
      · rcases List.mem_append.1 hY with hY | hY
        · exact LK.list_mid hm.k Y hY
        · simp only [List.mem_cons, List.not_mem_nil, or_false] at hY
          rcases hY with rfl | rfl
          · exact hAm
          · exact listT_mid fun x hxx => by
              have := hx x hxx
              exact i64 (by omega) (by omega)
  have E6 : ∀ i, (v 6).eval (E i) = ln := fun i => one (i := i) (j := 6) rfl (by decide)
  have E7 : ∀ i, (v 7).eval (E i) = ti := fun i => one (i := i) (j := 7) rfl (by decide)
  have E8 : ∀ i, (v 8).eval (E i) = ql.length := fun i => one (i := i) (j := 8) rfl (by decide)
  have E9 : ∀ i, (v 9).eval (E i) = i := fun i => one (i := i) (j := 9) rfl (by decide)
  have ag : ∀ i, (∀ a, a < 10 → ((([n, now, c.a, c.b, c.c, c.d, len, t, m] : List SE)[a]?).map fun e => e.eval V.env) = some (E i a) ∨ 9 ≤ a) ∧ (∀ a, 128 ≤ a → a < 128 + 7 → RowEq (rowE V.env (((gA4 w K Ae T)[a - 128]?).getD (.tab a))) (tabE (E i) a)) := fun i => by
    refine ⟨fun a ha => ?_, fun a h1 h2 => ?_⟩
    · rcases (show a = 0 ∨ a = 1 ∨ a = 2 ∨ a = 3 ∨ a = 4 ∨ a = 5 ∨ a = 6 ∨ a = 7 ∨ a = 8 ∨ a = 9 by omega) with rfl | rfl | rfl | rfl | rfl | rfl | rfl | rfl | rfl | rfl
      · exact .inl (congrArg some (sn.trans (one (i := i) (j := 0) rfl (by decide)).symm))
      · exact .inl (congrArg some (snow.trans (one (i := i) (j := 1) rfl (by decide)).symm))
      · exact .inl (congrArg some ((sc 0).trans (one (i := i) (j := 2) rfl (by decide)).symm))
      · exact .inl (congrArg some ((sc 1).trans (one (i := i) (j := 3) rfl (by decide)).symm))
      · exact .inl (congrArg some ((sc 2).trans (one (i := i) (j := 4) rfl (by decide)).symm))
      · exact .inl (congrArg some ((sc 3).trans (one (i := i) (j := 5) rfl (by decide)).symm))
      · exact .inl (congrArg some (hlen.trans (E6 i).symm))
      · exact .inl (congrArg some (ht.trans (E7 i).symm))
      · exact .inl (congrArg some (hmany.trans (E8 i).symm))
      · exact .inr (Nat.le_refl _)
    · rcases (show a = 128 ∨ a = 129 ∨ a = 130 ∨ a = 131 ∨ a = 132 ∨ a = 133 ∨ a = 134 by omega) with rfl | rfl | rfl | rfl | rfl | rfl | rfl
      · exact (show RowEq (rowE V.env w) s.when_ by rw [sw]; exact .refl _).trans (tab (a := 128) rfl (by decide) (by decide)).symm
      · exact (show RowEq (lkE V.env K).N s.k.N by rw [sk]; exact .refl _).trans (tab (a := 129) rfl (by decide) (by decide)).symm
      · exact (show RowEq (lkE V.env K).B s.k.B by rw [sk]; exact .refl _).trans (tab (a := 130) rfl (by decide) (by decide)).symm
      · exact (show RowEq (lkE V.env K).L s.k.L by rw [sk]; exact .refl _).trans (tab (a := 131) rfl (by decide) (by decide)).symm
      · exact (show RowEq (lkE V.env K).C s.k.C by rw [sk]; exact .refl _).trans (tab (a := 132) rfl (by decide) (by decide)).symm
      · exact hA.trans (tab (a := 133) rfl (by decide) (by decide)).symm
      · exact hT.trans (tab (a := 134) rfl (by decide) (by decide)).symm
  have ags : ∀ (i : Nat) (e : SE), e.eval V.env = (i : Int) → AgreeN 10 7 (intoEnv (fvL (fA4 n now c len t m e)) (gvL (gA4 w K Ae T)) V.env) (E i) := fun i e he => by
    refine agree_of (by decide) (by decide) (fun a ha => ?_) (ag i).2
    rcases (show a < 9 ∨ a = 9 by omega) with h9 | rfl
    · have h1 := ((ag i).1 a (by omega)).resolve_right (by omega)
      rcases (show a = 0 ∨ a = 1 ∨ a = 2 ∨ a = 3 ∨ a = 4 ∨ a = 5 ∨ a = 6 ∨ a = 7 ∨ a = 8 by omega) with rfl | rfl | rfl | rfl | rfl | rfl | rfl | rfl | rfl
      all_goals exact Option.some.inj h1
    · exact he.trans (E9 i).symm
  refine spec_proof2 (N := NN) (fuel := fuel) (a4S PG n now c len t m w K Ae T) noTabs (fx := [false, false, false, false, false, false, false, true, false]) (b0 := bodyK 3 36) isA4 fxIn4 (good_one rfl goodTin) (σ := Nat) E 10 7 (by decide) upsIn4 (Nat.le_refl _) (Nat.le_refl _)
    (I := fun μ j i => j = 0 ∧ i ≤ ql.length ∧ μ = ql.length - i) (Post := fun e j i => e = .exit 8 ∧ j = 1 ∧ i = ql.length) (fun B μ j i hI => ?_) ql.length 0 ⟨rfl, Nat.zero_le _, rfl⟩ (emid 0 (Nat.zero_le _)) (ags 0 (L 0) rfl) (fun e j i hp => ?_)
  · obtain ⟨rfl, hi, rfl⟩ := hI
    by_cases hlt : i < ql.length
    · obtain ⟨x0, x1, x2, x3, x4⟩ := hx _ (List.getElem_mem hlt)
      have ei : idE.eval (E i) = ql[i] := by
        refine (sel_eval _ 134 (v 9)).trans ?_
        rw [E9, (tab (i := i) (a := 134) (X := listT ql) rfl (by decide) (by decide)).g]
        show listT ql (i : Int).toNat 0 = _
        unfold listT
        rw [if_pos rfl, Int.toNat_natCast, List.getElem?_eq_getElem hlt]
        rfl
      have ea : afE4.eval (E i) = g0 A ql[i] := by
        refine (sel_eval _ 133 idE).trans ?_
        rw [ei, (tab (i := i) (a := 133) (X := A) rfl (by decide) (by decide)).g]
      have er : (SE.rem afE4 (L 200)).eval (E i) = g0 A ql[i] % 200 := by
        show (afE4.eval (E i)).tmod 200 = _
        rw [ea, tmod_pos x2]
      have run := run_4
      refine ⟨csA4, i + 1, noLoops, callF csA4.pc [], noRnd B _ _ _ (fun V hV S hS => by cases hS), ?_, ?_, Nat.le_refl _, Nat.zero_le _, emid (i + 1) hlt, ?_, .inl ⟨rfl, ql.length - (i + 1), by omega, rfl, hlt, rfl⟩⟩
      · exact run
      · show Fx (E i) pcA4
        refine .app (.cons rfl (.cons (nle_ok ?_) (.cons (le_ok ?_) (.cons (le_ok ?_) (.cons (le_ok ?_) (.cons (le_ok ?_) (.cons (le_ok ?_) (.cons (le_ok ?_) .nil)))))))) (.app (inR_ok ?_ ?_) (.app (inR_ok ?_ ?_) (.app (inR_ok ?_ ?_) (one_ok (eq_ok ?_)))))
        · rw [E8, E9]; omega
        · rw [E9]; show (0 : Int) ≤ _; omega
        · rw [E9]; show _ ≤ (4095 : Int); omega
        · rw [E8]; show _ ≤ (4096 : Int); omega
        · rw [E9]; show _ ≤ (v 8).eval (E i) + (-1); rw [E8]; omega
        · rw [E6]; show (0 : Int) ≤ _; omega
        · rw [E6]; show _ ≤ (40 : Int); omega
        · rw [ei]; exact x0
        · rw [ei]; show _ ≤ (v 6).eval (E i) + (-1); rw [E6]; omega
        · rw [ea]; exact x2
        · rw [ea]; exact x3
        · rw [er]; show (0 : Int) ≤ _; exact Int.emod_nonneg _ (by omega)
        · rw [er]; show _ ≤ (199 : Int); have := Int.emod_lt_of_pos (g0 A ql[i]) (show (0 : Int) < 200 by omega); omega
        · show 1 + (SE.rem afE4 (L 200)).eval (E i) = (v 7).eval (E i)
          rw [er, E7]; exact x4
      · refine agree_of (by decide) (by decide) (fun a ha => ?_) (fun a h1 h2 => ?_)
        · rcases (show a < 9 ∨ a = 9 by omega) with h9 | rfl
          · rcases (show a = 0 ∨ a = 1 ∨ a = 2 ∨ a = 3 ∨ a = 4 ∨ a = 5 ∨ a = 6 ∨ a = 7 ∨ a = 8 by omega) with rfl | rfl | rfl | rfl | rfl | rfl | rfl | rfl | rfl
            · exact (one (i := i) (j := 0) (x := s.n) rfl (by decide)).trans (one (i := i + 1) (j := 0) (x := s.n) rfl (by decide)).symm
            · exact (one (i := i) (j := 1) (x := s.now) rfl (by decide)).trans (one (i := i + 1) (j := 1) (x := s.now) rfl (by decide)).symm
            · exact (one (i := i) (j := 2) (x := s.c 0) rfl (by decide)).trans (one (i := i + 1) (j := 2) (x := s.c 0) rfl (by decide)).symm
            · exact (one (i := i) (j := 3) (x := s.c 1) rfl (by decide)).trans (one (i := i + 1) (j := 3) (x := s.c 1) rfl (by decide)).symm
            · exact (one (i := i) (j := 4) (x := s.c 2) rfl (by decide)).trans (one (i := i + 1) (j := 4) (x := s.c 2) rfl (by decide)).symm
            · exact (one (i := i) (j := 5) (x := s.c 3) rfl (by decide)).trans (one (i := i + 1) (j := 5) (x := s.c 3) rfl (by decide)).symm
            · exact (E6 i).trans (E6 (i + 1)).symm
            · exact (E7 i).trans (E7 (i + 1)).symm
            · exact (E8 i).trans (E8 (i + 1)).symm
          · refine Eq.trans ?_ (E9 (i + 1)).symm
            show (v 9).eval (E i) + 1 = ((i + 1 : Nat) : Int)
            rw [E9]; omega
        · rw [show csA4.gv a = .tab a from rfl, rowE_tab]
          exact ((ag i).2 a h1 h2).symm.trans ((ag (i + 1)).2 a h1 h2)
    · have run := run_4E
      refine ⟨csA4E, i, noLoops, callF csA4E.pc [], noRnd B _ _ _ (fun V hV S hS => by cases hS), ?_, ?_, Nat.zero_le _, Nat.zero_le _, emid i hi, ?_, .inr ⟨by simp [csA4E], rfl, rfl, by omega⟩⟩
      · exact run
      · show Fx (E i) [tt, le (v 8) (v 9)]
        refine .cons rfl (one_ok (le_ok ?_))
        rw [E8, E9]; omega
      · exact agree_of (by decide) (by decide) (fun i hi => rfl) (fun a h1 h2 => RowEq.refl _)
  · obtain ⟨rfl, rfl, hin⟩ := hp
    subst hin
    exact ⟨0, ⟨.exit 8, 1, fA4 n now c len t m m, gA4 w K Ae T⟩, rfl, rfl, rfl, Nat.le_refl _, Nat.le_refl _, agree_symm (ags _ m hmany)⟩
end Go.Proofs.Ytaliacnncemneaa.wheels

namespace Go.Proofs.Ytaliacnncemneaa.wheels
open Go.Abs Go.Proofs.Wheels

def tks (s : WS) : Nat → WS
  | 0 => s
  | i + 1 => (tks s i).fin
structure TkI (s : WS) (i : Nat) : Prop where
  q : ∃ q, WInv (tks s i) q
  mid : WMid (tks s i)
  n : (tks s i).n = s.n
  now : (tks s i).now = s.now + i
  w : ∀ t : Int, 0 ≤ t → g0 (tks s i).when_ t = 0 ∨ g0 (tks s i).when_ t = g0 s.when_ t
theorem tks_inv {s : WS} {q : Int → List Int} (h : WInv s q) (hm : WMid s) {N : Nat} (hnow : s.now + N ≤ 999000000) : ∀ {i : Nat}, i ≤ N → TkI s i := by
  intro i
  induction i with
  | zero => intro _; exact ⟨⟨q, h⟩, hm, rfl, by show s.now = s.now + 0; omega, fun t _ => .inr rfl⟩
  | succ i ih =>
    intro hi
    have d := ih (by omega)
    obtain ⟨q1, d1⟩ := d.q
    have dn := d.now
    obtain ⟨qt, qf, ha⟩ := tk_all d1 d.mid (by omega)
    have k := fin_keep (s := tks s i)
    refine ⟨⟨qf, ha.fin⟩, ha.finM, k.1.trans d.n, ?_, fun t t0 => ?_⟩
    · show (tks s i).fin.now = _
      rw [k.2, dn]; omega
    · show g0 (tks s i).fin.when_ t = 0 ∨ g0 (tks s i).fin.when_ t = _
      rw [fin_when ha t0]
      split
      · exact .inl rfl
      · exact d.w t t0

def encT3 (s : WS) (ln : Nat) (A : TT) (i : Nat) : Nat → Int :=
  encL ([(tks s i).n, (tks s i).now] ++ ((tks s i).cs ++ ([(ln : Int), (i : Int) + 1] ++ ((tks s i).fin.cs ++ [((tks s i).raw.length : Int)]))))
    ([(tks s i).when_] ++ ((tks s i).k.list ++ ([A] ++ ([(tks s i).fin.when_] ++ ((tks s i).fin.k.list ++ [listT (sorted (tks s i).raw)])))))
section
variable {s : WS} {ln : Nat} {A : TT} {i : Nat}
theorem t3_one {j : Nat} {x : Int} (h : ([(tks s i).n, (tks s i).now] ++ ((tks s i).cs ++ ([(ln : Int), (i : Int) + 1] ++ ((tks s i).fin.cs ++ [((tks s i).raw.length : Int)]))))[j]? = some x) (hj : j < 128) : encT3 s ln A i j = x := encL_one h hj
theorem t3_tab {a : Nat} {X : TT} (h : ([(tks s i).when_] ++ ((tks s i).k.list ++ ([A] ++ ([(tks s i).fin.when_] ++ ((tks s i).fin.k.list ++ [listT (sorted (tks s i).raw)])))))[a - 128]? = some X) (h1 : 128 ≤ a) (h2 : a < 256) : RowEq (tabE (encT3 s ln A i) a) X := encL_tab h h1 h2
theorem t3_ws : WSEq (wsE (encT3 s ln A i) (v 0) (v 1) C0 (.tab 128) K0) (tks s i) := by
  refine ⟨t3_one (s := s) (ln := ln) (A := A) (i := i) (j := 0) rfl (by decide), t3_one (s := s) (ln := ln) (A := A) (i := i) (j := 1) rfl (by decide), t3_tab (s := s) (ln := ln) (A := A) (i := i) (a := 128) rfl (by decide) (by decide), ⟨t3_tab (s := s) (ln := ln) (A := A) (i := i) (a := 129) rfl (by decide) (by decide), t3_tab (s := s) (ln := ln) (A := A) (i := i) (a := 130) rfl (by decide) (by decide), t3_tab (s := s) (ln := ln) (A := A) (i := i) (a := 131) rfl (by decide) (by decide), t3_tab (s := s) (ln := ln) (A := A) (i := i) (a := 132) rfl (by decide) (by decide)⟩, fun r hr => ?_⟩
  rcases (show r = 0 ∨ r = 1 ∨ r = 2 ∨ r = 3 by omega) with rfl | rfl | rfl | rfl
  · exact t3_one (s := s) (ln := ln) (A := A) (i := i) (j := 2) rfl (by decide)
  · exact t3_one (s := s) (ln := ln) (A := A) (i := i) (j := 3) rfl (by decide)
  · exact t3_one (s := s) (ln := ln) (A := A) (i := i) (j := 4) rfl (by decide)
  · exact t3_one (s := s) (ln := ln) (A := A) (i := i) (j := 5) rfl (by decide)
theorem t3_fw : RowEq (tabE (encT3 s ln A i) 134) (tks s i).fin.when_ := t3_tab (s := s) (ln := ln) (A := A) (i := i) (a := 134) rfl (by decide) (by decide)
theorem t3_fk : LKEq (lkT (encT3 s ln A i) 135) (tks s i).fin.k := ⟨t3_tab (s := s) (ln := ln) (A := A) (i := i) (a := 135) rfl (by decide) (by decide), t3_tab (s := s) (ln := ln) (A := A) (i := i) (a := 136) rfl (by decide) (by decide), t3_tab (s := s) (ln := ln) (A := A) (i := i) (a := 137) rfl (by decide) (by decide), t3_tab (s := s) (ln := ln) (A := A) (i := i) (a := 138) rfl (by decide) (by decide)⟩
theorem t3_fc {r : Nat} (hr : r < 4) : encT3 s ln A i (8 + r) = (tks s i).fin.c r := by
  rcases (show r = 0 ∨ r = 1 ∨ r = 2 ∨ r = 3 by omega) with rfl | rfl | rfl | rfl
  · exact t3_one (s := s) (ln := ln) (A := A) (i := i) (j := 8) rfl (by decide)
  · exact t3_one (s := s) (ln := ln) (A := A) (i := i) (j := 9) rfl (by decide)
  · exact t3_one (s := s) (ln := ln) (A := A) (i := i) (j := 10) rfl (by decide)
  · exact t3_one (s := s) (ln := ln) (A := A) (i := i) (j := 11) rfl (by decide)
theorem t3_6 : encT3 s ln A i 6 = ln := t3_one (s := s) (ln := ln) (A := A) (i := i) (j := 6) rfl (by decide)
theorem t3_7 : encT3 s ln A i 7 = (i : Int) + 1 := t3_one (s := s) (ln := ln) (A := A) (i := i) (j := 7) rfl (by decide)
theorem t3_m : encT3 s ln A i 12 = (tks s i).raw.length := t3_one (s := s) (ln := ln) (A := A) (i := i) (j := 12) rfl (by decide)
theorem t3_A : RowEq (tabE (encT3 s ln A i) 133) A := t3_tab (s := s) (ln := ln) (A := A) (i := i) (a := 133) rfl (by decide) (by decide)
theorem t3_T : RowEq (tabE (encT3 s ln A i) 139) (listT (sorted (tks s i).raw)) := t3_tab (s := s) (ln := ln) (A := A) (i := i) (a := 139) rfl (by decide) (by decide)
theorem t3_fin : WSEq (wsE (encT3 s ln A i) (v 0) (add (v 1) (L 1)) C8 (.tab 134) K135) (tks s i).fin := by
  have k := fin_keep (s := tks s i)
  refine ⟨(t3_one (s := s) (ln := ln) (A := A) (i := i) (j := 0) (x := (tks s i).n) rfl (by decide)).trans k.1.symm, ?_, t3_fw, t3_fk, fun r hr => ?_⟩
  · show encT3 s ln A i 1 + 1 = _
    rw [k.2, t3_one (s := s) (ln := ln) (A := A) (i := i) (j := 1) (x := (tks s i).now) rfl (by decide)]
  · rcases (show r = 0 ∨ r = 1 ∨ r = 2 ∨ r = 3 by omega) with rfl | rfl | rfl | rfl
    · exact t3_fc (s := s) (ln := ln) (A := A) (i := i) (r := 0) (by decide)
    · exact t3_fc (s := s) (ln := ln) (A := A) (i := i) (r := 1) (by decide)
    · exact t3_fc (s := s) (ln := ln) (A := A) (i := i) (r := 2) (by decide)
    · exact t3_fc (s := s) (ln := ln) (A := A) (i := i) (r := 3) (by decide)

theorem t3_mid {q : Int → List Int} (h : WInv (tks s i) q) (hm : WMid (tks s i)) (hnow : (tks s i).now + 1 ≤ 999000000) (hl : ln ≤ 40) (hi : i ≤ 1000) (hA : MidT A) : ∀ j, In64 (encT3 s ln A i j) := by
  obtain ⟨qt, qf, ha⟩ := tk_all h hm hnow
  have hn := h.rep.n1
  have h0 := h.now0
  have hlen := ha.len
  have app : ∀ {α : Type} {p : α → Prop} {l m : List α}, (∀ x ∈ l, p x) → (∀ x ∈ m, p x) → ∀ x ∈ l ++ m, p x := fun h1 h2 x hx => (List.mem_append.1 hx).elim (h1 x) (h2 x)
  have one : ∀ {α : Type} {p : α → Prop} {a : α}, p a → ∀ x ∈ [a], p x := fun h1 x hx => by
    simp only [List.mem_cons, List.not_mem_nil, or_false] at hx
    subst hx; exact h1
  have two : ∀ {α : Type} {p : α → Prop} {a b : α}, p a → p b → ∀ x ∈ [a, b], p x := fun h1 h2 x hx => by
    simp only [List.mem_cons, List.not_mem_nil, or_false] at hx
    rcases hx with rfl | rfl
    · exact h1
    · exact h2
  refine encL_mid (app (two (i64 (by omega) (by omega)) (i64 (by omega) (by omega))) (app h.toWBase.cs_mid (app (two (i64 (by omega) (by omega)) (i64 (by omega) (by omega))) (app ha.fin.toWBase.cs_mid (one (i64 (by omega) (by omega)))))))
    (app (one hm.w) (app (LK.list_mid hm.k) (app (one hA) (app (one ha.finM.w) (app (LK.list_mid ha.finM.k) (one (listT_mid fun t ht => raw_mid h ha t (sorted_mem.1 ht))))))))

theorem tk3_ok (hC : SortC Try.prog 27) {q : Int → List Int} (h : WInv (tks s i) q) (hm : WMid (tks s i)) (hnow : (tks s i).now + 1 ≤ 999000000) {b : Bool} (hb : b = true ↔ (tks s i).raw ≠ []) [F : Facts] [V : Vals] (hV : V.env = encT3 s ln A i) : FunProof Try.prog [] (tk3 fns b) := by
  have w := t3_ws (s := s) (ln := ln) (A := A) (i := i)
  obtain ⟨s', hs'⟩ : ∃ s', s' = wsE (encT3 s ln A i) (v 0) (v 1) C0 (.tab 128) K0 := ⟨_, rfl⟩
  rw [← hs'] at w
  have hr := raw_congr w
  have hf := fin_congr w
  refine tick_proof (s := s') (q := q) hC (by rw [hV]; exact hs'.symm) (h.of w) (hm.of w) (by rw [w.now]; exact hnow) ?_ ?_ ?_ (fun r hr4 => ?_) ?_ ?_ (by rw [hr]; exact hb)
  all_goals rw [hV]
  · rw [hr]; exact t3_m
  · show encT3 s ln A i 1 + 1 = s'.now + 1
    rw [w.now, t3_one (s := s) (ln := ln) (A := A) (i := i) (j := 1) (x := (tks s i).now) rfl (by decide)]
  · exact t3_fw.trans hf.w.symm
  · rw [hf.c r hr4]
    rcases (show r = 0 ∨ r = 1 ∨ r = 2 ∨ r = 3 by omega) with rfl | rfl | rfl | rfl
    · exact t3_fc (s := s) (ln := ln) (A := A) (i := i) (r := 0) (by decide)
    · exact t3_fc (s := s) (ln := ln) (A := A) (i := i) (r := 1) (by decide)
    · exact t3_fc (s := s) (ln := ln) (A := A) (i := i) (r := 2) (by decide)
    · exact t3_fc (s := s) (ln := ln) (A := A) (i := i) (r := 3) (by decide)
  · exact t3_fk.trans hf.k.symm
  · rw [hr]; exact t3_T
end
end Go.Proofs.Ytaliacnncemneaa.wheels

namespace Go.Proofs.Ytaliacnncemneaa.wheels
open Go.Abs Go.Proofs.Wheels

theorem run_t0 (has : Bool) : runL 3 33 125 (shA3 has PG) (bif has then 8 else 7) 0 csT0 [] [tk3 fns false] = true := by
  cases has
  · exact run_b0
  · exact run_30
theorem run_t9 (has : Bool) : runR 3 33 125 (shA3 has PG) (bif has then 8 else 7) 0 csT9 [] = true := by
  cases has
  · exact run_b9
  · exact run_39

theorem ticks_proof [F : Facts] [V : Vals] (hC : SortC Try.prog 27) {has : Bool} {n now now' len w w' Ae : SE} {c c' : C4} {K K' : K4} {s : WS} {q : Int → List Int} {A : TT} {ln : Nat}
    (hs : wsE V.env n now c w K = s) (h : WInv s q) (hm : WMid s) (hnow0 : s.now = 0) (hlen : len.eval V.env = ln) (hl40 : ln ≤ 40) (hA : RowEq (rowE V.env Ae) A) (hAm : MidT A) (hAr : ∀ t, t < ln → 0 ≤ A t 0 ∧ A t 0 ≤ 65535)
    (hw : ∀ t : Int, 0 ≤ t → t < s.n → g0 s.when_ t = if t < ln then s.now + addA A 200 t.toNat else 0) (hhas : has = false → ln = 0) (hnow' : now'.eval V.env = 200)
    (hc' : ∀ r, r < 4 → cE V.env c' r = (tks s 200).c r) (hw' : RowEq (rowE V.env w') (tks s 200).when_) (hK' : LKEq (lkE V.env K') (tks s 200).k) : LoopProof Try.prog [] (a3S has PG n now now' c c' len w w' K K' Ae) := by
  have sn : n.eval V.env = s.n := by rw [← hs]; rfl
  have snow : now.eval V.env = s.now := by rw [← hs]; rfl
  have sc : ∀ i, cE V.env c i = s.c i := fun i => by rw [← hs]; rfl
  have sw : rowE V.env w = s.when_ := by rw [← hs]; rfl
  have sk : lkE V.env K = s.k := by rw [← hs]; rfl
  have inv : ∀ {i : Nat}, i ≤ 200 → TkI s i := fun hi => tks_inv h hm (N := 200) (by omega) hi
  obtain ⟨E, hE⟩ : ∃ E, E = encT3 s ln A := ⟨_, rfl⟩
  have emid : ∀ i, i ≤ 200 → ∀ j, In64 (E i j) := fun i hi => by
    obtain ⟨q1, d1⟩ := (inv hi).q
    have := (inv hi).now
    rw [hE]
    exact t3_mid d1 (inv hi).mid (by omega) hl40 (by omega) hAm
  have E0 : ∀ i, i ≤ 200 → E i 0 = s.n := fun i hi => by rw [hE]; exact (t3_one (s := s) (ln := ln) (A := A) (i := i) (j := 0) rfl (by decide)).trans (inv hi).n
  have E1 : ∀ i, i ≤ 200 → E i 1 = s.now + i := fun i hi => by rw [hE]; exact (t3_one (s := s) (ln := ln) (A := A) (i := i) (j := 1) rfl (by decide)).trans (inv hi).now
  have Ec : ∀ i r, r < 4 → E i (2 + r) = (tks s i).c r := fun i r hr => by
    rw [hE]
    rcases (show r = 0 ∨ r = 1 ∨ r = 2 ∨ r = 3 by omega) with rfl | rfl | rfl | rfl
    · exact t3_one (s := s) (ln := ln) (A := A) (i := i) (j := 2) rfl (by decide)
    · exact t3_one (s := s) (ln := ln) (A := A) (i := i) (j := 3) rfl (by decide)
    · exact t3_one (s := s) (ln := ln) (A := A) (i := i) (j := 4) rfl (by decide)
    · exact t3_one (s := s) (ln := ln) (A := A) (i := i) (j := 5) rfl (by decide)
  have E6 : ∀ i, E i 6 = ln := fun i => by rw [hE]; exact t3_6
  have E7 : ∀ i, E i 7 = (i : Int) + 1 := fun i => by rw [hE]; exact t3_7
  have Ed : ∀ i r, r < 4 → E i (8 + r) = (tks s i).fin.c r := fun i r hr => by rw [hE]; exact t3_fc hr
  have Ew : ∀ i, RowEq (tabE (E i) 128) (tks s i).when_ := fun i => by rw [hE]; exact t3_tab (s := s) (ln := ln) (A := A) (i := i) (a := 128) rfl (by decide) (by decide)
  have Ek : ∀ i, LKEq (lkT (E i) 129) (tks s i).k := fun i => by
    rw [hE]
    exact ⟨t3_tab (s := s) (ln := ln) (A := A) (i := i) (a := 129) rfl (by decide) (by decide), t3_tab (s := s) (ln := ln) (A := A) (i := i) (a := 130) rfl (by decide) (by decide), t3_tab (s := s) (ln := ln) (A := A) (i := i) (a := 131) rfl (by decide) (by decide), t3_tab (s := s) (ln := ln) (A := A) (i := i) (a := 132) rfl (by decide) (by decide)⟩
  have EA : ∀ i, RowEq (tabE (E i) 133) A := fun i => by rw [hE]; exact t3_A
  have Ew' : ∀ i, RowEq (tabE (E i) 134) (tks s i).fin.when_ := fun i => by rw [hE]; exact t3_fw
  have Ek' : ∀ i, LKEq (lkT (E i) 135) (tks s i).fin.k := fun i => by rw [hE]; exact t3_fk
  have goS : ∀ i, i < 200 → ∀ cs : Case, cs.f = fT3 → cs.g = gT3 → AgreeN 8 6 (cs.next (E i)) (E (i + 1)) := fun i hi cs hf hg => by
    have hfv : cs.fv = fvL fT3 := by unfold Case.fv; rw [hf]; rfl
    have hgv : cs.gv = gvL gT3 := by unfold Case.gv; rw [hg]; rfl
    show AgreeN 8 6 (intoEnv cs.fv cs.gv (E i)) (E (i + 1))
    rw [hfv, hgv]
    refine agree_of (by decide) (by decide) (fun a ha => ?_) (fun a h1 h2 => ?_)
    · rcases (show a = 0 ∨ a = 1 ∨ a = 2 ∨ a = 3 ∨ a = 4 ∨ a = 5 ∨ a = 6 ∨ a = 7 by omega) with rfl | rfl | rfl | rfl | rfl | rfl | rfl | rfl
      · exact (E0 i (by omega)).trans (E0 (i + 1) (by omega)).symm
      · refine Eq.trans ?_ (E1 (i + 1) (by omega)).symm
        show E i 1 + 1 = _
        rw [E1 i (by omega)]; omega
      · exact (Ed i 0 (by decide)).trans (Ec (i + 1) 0 (by decide)).symm
      · exact (Ed i 1 (by decide)).trans (Ec (i + 1) 1 (by decide)).symm
      · exact (Ed i 2 (by decide)).trans (Ec (i + 1) 2 (by decide)).symm
      · exact (Ed i 3 (by decide)).trans (Ec (i + 1) 3 (by decide)).symm
      · exact (E6 i).trans (E6 (i + 1)).symm
      · refine Eq.trans ?_ (E7 (i + 1)).symm
        show E i 7 + 1 = _
        rw [E7 i]; omega
    · have ek := Ek (i + 1)
      have ek' := Ek' i
      rcases (show a = 128 ∨ a = 129 ∨ a = 130 ∨ a = 131 ∨ a = 132 ∨ a = 133 by omega) with rfl | rfl | rfl | rfl | rfl | rfl
      · exact (Ew' i).trans (Ew (i + 1)).symm
      · exact ek'.N.trans ek.N.symm
      · exact ek'.B.trans ek.B.symm
      · exact ek'.L.trans ek.L.symm
      · exact ek'.C.trans ek.C.symm
      · exact (EA i).trans (EA (i + 1)).symm
  refine spec_proof2 (N := NN) (fuel := fuel) (a3S has PG n now now' c c' len w w' K K' Ae) noTabs (fx := fx3 has) (b0 := bodyK 3 33) isA3 (fxTi has) (good_one rfl (goodTi has)) (σ := Nat) E 8 6 (by decide) (upsTi has) (Nat.le_refl _) (Nat.le_refl _)
    (I := fun μ j i => j = 0 ∧ i ≤ 200 ∧ μ = 200 - i) (Post := fun e j i => e = .exit 6 ∧ j = 1 ∧ i = 200) (fun B μ j i hI => ?_) 200 0 ⟨rfl, Nat.zero_le _, rfl⟩ (emid 0 (Nat.zero_le _)) ?_ (fun e j i hp => ?_)
  · obtain ⟨rfl, hi, rfl⟩ := hI
    have d := inv hi
    have dnow := d.now
    obtain ⟨q1, d1⟩ := d.q
    have pw : Fx (E i) pcW := ws_facts d1.toWBase d.mid ((E0 i hi).trans d.n.symm) ((E1 i hi).trans d.now.symm) fun r hr => Ec i r hr
    by_cases hlt : i < 200
    · have pt : Fx (E i) pcA3 := by
        refine .app pw (.app (inR_ok ?_ ?_) (inR_ok ?_ ?_))
        · show (1 : Int) ≤ E i 7; rw [E7]; omega
        · show E i 7 ≤ 200; rw [E7]; omega
        · show (0 : Int) ≤ E i 6; rw [E6]; omega
        · show E i 6 ≤ 40; rw [E6]; omega
      obtain ⟨qt, qf, ha⟩ := tk_all d1 d.mid (by omega)
      by_cases hr : (tks s i).raw = []
      · have run := run_t0 has
        refine ⟨csT0, i + 1, @manyLoops ⟨csT0.pc⟩ PG [] [], callL csT0.pc [] [tk3 fns false], manyRnd B _ _ _ _ (fun V hV S hS => by cases hS) (fun V hV S hS => ?_), ?_, pt, Nat.le_refl _, Nat.le_refl _, emid (i + 1) hlt, goS i hlt csT0 rfl rfl, .inl ⟨rfl, 200 - (i + 1), by omega, rfl, hlt, rfl⟩⟩
        · simp only [List.mem_cons, List.not_mem_nil, or_false] at hS
          subst hS
          exact @tk3_ok s ln A i hC q1 d1 d.mid (by omega) false (by simp [hr]) ⟨_⟩ V (by rw [hV, hE])
        · exact run
      · have hl1 : 1 ≤ (tks s i).raw.length := by
          cases e : (tks s i).raw with
          | nil => exact absurd e hr
          | cons a l => simp
        have hlen4 := ha.len
        -- who is woken
        have who : ∀ x ∈ (tks s i).raw, 0 ≤ x ∧ x < ln ∧ 0 ≤ g0 A x ∧ g0 A x ≤ 65535 ∧ 1 + g0 A x % 200 = (i : Int) + 1 := fun x hx => by
          obtain ⟨x0, x1, x2⟩ := (raw_mem ha).1 hx
          rw [d.n] at x1
          have hne : g0 (tks s i).when_ x ≠ 0 := by omega
          have hx' := (d.w x x0).resolve_left hne
          rw [hx', hw x x0 x1, dnow] at x2
          by_cases hxl : x < ln
          · rw [if_pos hxl] at x2
            obtain ⟨a0, a1⟩ := hAr x.toNat (by omega)
            refine ⟨x0, hxl, a0, a1, ?_⟩
            have e : addA A 200 x.toNat = 1 + g0 A x % 200 := rfl
            rw [e] at x2
            omega
          · rw [if_neg hxl] at x2
            omega
        have hh : has = true := by
          cases hb : has with
          | true => rfl
          | false =>
            have h0 := hhas hb
            cases e : (tks s i).raw with
            | nil => exact absurd e hr
            | cons a l =>
              have := who a (by rw [e]; exact .head _)
              omega
        subst hh
        have run := run_31
        refine ⟨csT1, i + 1, @manyLoops ⟨csT1.pc⟩ PG [] [a4L PG], callL csT1.pc [a4L PG] [tk3 fns true], manyRnd B _ _ _ _ (fun V hV S hS => ?_) (fun V hV S hS => ?_), ?_, ?_, Nat.le_refl _, Nat.le_refl _, emid (i + 1) hlt, goS i hlt csT1 rfl rfl, .inl ⟨rfl, 200 - (i + 1), by omega, rfl, hlt, rfl⟩⟩
        · simp only [List.mem_cons, List.not_mem_nil, or_false] at hS
          subst hS
          have hV' : V.env = encT3 s ln A i := by rw [hV, hE]
          have wf := t3_fin (s := s) (ln := ln) (A := A) (i := i)
          obtain ⟨s', hs'⟩ : ∃ s', s' = wsE (encT3 s ln A i) (v 0) (add (v 1) (L 1)) C8 (.tab 134) K135 := ⟨_, rfl⟩
          rw [← hs'] at wf
          refine @inner_proof ⟨_⟩ V (v 0) (add (v 1) (L 1)) (v 6) (v 7) (v 12) (.tab 134) (.tab 133) (.tab 139) C8 K135 s' qf A ln ((i : Int) + 1) (sorted (tks s i).raw) ?_ (ha.fin.toWBase.of wf) (ha.finM.of wf) ?_ hl40 ?_ (i64 (by omega) (by omega)) ?_ (by rw [sorted_len]; exact hlen4) ?_ hAm ?_ (fun x hx => who x (sorted_mem.1 hx))
          all_goals rw [hV']
          · exact hs'.symm
          · exact t3_6
          · exact t3_7
          · rw [sorted_len]; exact t3_m
          · exact t3_A
          · exact t3_T
        · simp only [List.mem_cons, List.not_mem_nil, or_false] at hS
          subst hS
          exact @tk3_ok s ln A i hC q1 d1 d.mid (by omega) true (by simp [hr]) ⟨_⟩ V (by rw [hV, hE])
        · exact run
        · show Fx (E i) (pcA3 ++ inR (L 1) (v 12) (L 4096))
          have em : E i 12 = (tks s i).raw.length := by rw [hE]; exact t3_m
          refine .app pt (inR_ok ?_ ?_)
          · show (1 : Int) ≤ E i 12; rw [em]; omega
          · show E i 12 ≤ 4096; rw [em]; omega
    · have run := run_t9 has
      refine ⟨csT9, i, noLoops, callF csT9.pc [], noRnd B _ _ _ (fun V hV S hS => by cases hS), ?_, ?_, Nat.zero_le _, Nat.zero_le _, emid i hi, ?_, .inr ⟨by simp [csT9], rfl, rfl, by omega⟩⟩
      · exact run
      · show Fx (E i) (pcW ++ [nle (v 7) (L 200)])
        refine .app pw (one_ok (nle_ok ?_))
        show (200 : Int) < E i 7
        rw [E7]; omega
      · exact agree_of (by decide) (by decide) (fun i hi => rfl) (fun a h1 h2 => RowEq.refl _)
  · refine agree_of (by decide) (by decide) (fun a ha => ?_) (fun a h1 h2 => ?_)
    · rcases (show a = 0 ∨ a = 1 ∨ a = 2 ∨ a = 3 ∨ a = 4 ∨ a = 5 ∨ a = 6 ∨ a = 7 by omega) with rfl | rfl | rfl | rfl | rfl | rfl | rfl | rfl
      · exact sn.trans (E0 0 (by omega)).symm
      · refine snow.trans (Eq.trans ?_ (E1 0 (by omega)).symm)
        show s.now = s.now + 0; omega
      · exact (sc 0).trans (Ec 0 0 (by decide)).symm
      · exact (sc 1).trans (Ec 0 1 (by decide)).symm
      · exact (sc 2).trans (Ec 0 2 (by decide)).symm
      · exact (sc 3).trans (Ec 0 3 (by decide)).symm
      · exact hlen.trans (E6 0).symm
      · exact (E7 0).symm
    · have ek := Ek 0
      rcases (show a = 128 ∨ a = 129 ∨ a = 130 ∨ a = 131 ∨ a = 132 ∨ a = 133 by omega) with rfl | rfl | rfl | rfl | rfl | rfl
      · exact (show RowEq (rowE V.env w) s.when_ by rw [sw]; exact .refl _).trans (Ew 0).symm
      · exact (show RowEq (lkE V.env K).N s.k.N by rw [sk]; exact .refl _).trans ek.N.symm
      · exact (show RowEq (lkE V.env K).B s.k.B by rw [sk]; exact .refl _).trans ek.B.symm
      · exact (show RowEq (lkE V.env K).L s.k.L by rw [sk]; exact .refl _).trans ek.L.symm
      · exact (show RowEq (lkE V.env K).C s.k.C by rw [sk]; exact .refl _).trans ek.C.symm
      · exact hA.trans (EA 0).symm
  · obtain ⟨rfl, rfl, hin⟩ := hp
    subst hin
    refine ⟨0, ⟨.exit 6, 1, [n, now', c'.a, c'.b, c'.c, c'.d, len, L 201], gA1 w' K' Ae⟩, rfl, rfl, rfl, Nat.le_refl _, Nat.le_refl _, agree_symm ?_⟩
    refine agree_of (by decide) (by decide) (fun a ha => ?_) (fun a h1 h2 => ?_)
    · rcases (show a = 0 ∨ a = 1 ∨ a = 2 ∨ a = 3 ∨ a = 4 ∨ a = 5 ∨ a = 6 ∨ a = 7 by omega) with rfl | rfl | rfl | rfl | rfl | rfl | rfl | rfl
      · exact sn.trans (E0 200 (by omega)).symm
      · refine hnow'.trans (Eq.trans ?_ (E1 200 (by omega)).symm)
        rw [hnow0]; omega
      · exact (hc' 0 (by decide)).trans (Ec 200 0 (by decide)).symm
      · exact (hc' 1 (by decide)).trans (Ec 200 1 (by decide)).symm
      · exact (hc' 2 (by decide)).trans (Ec 200 2 (by decide)).symm
      · exact (hc' 3 (by decide)).trans (Ec 200 3 (by decide)).symm
      · exact hlen.trans (E6 200).symm
      · exact (E7 200).symm
    · have ek := Ek 200
      rcases (show a = 128 ∨ a = 129 ∨ a = 130 ∨ a = 131 ∨ a = 132 ∨ a = 133 by omega) with rfl | rfl | rfl | rfl | rfl | rfl
      · exact hw'.trans (Ew 200).symm
      · exact hK'.N.trans ek.N.symm
      · exact hK'.B.trans ek.B.symm
      · exact hK'.L.trans ek.L.symm
      · exact hK'.C.trans ek.C.symm
      · exact hA.trans (EA 200).symm
end Go.Proofs.Ytaliacnncemneaa.wheels

namespace Go.Proofs.Wheels
open Go.Abs

def Ca : C4 := ⟨v 4, v 5, v 6, v 7⟩
def Cb : C4 := ⟨v 9, v 10, v 11, v 12⟩
def Cc : C4 := ⟨v 61, v 62, v 63, v 64⟩
def Cd : C4 := ⟨v 65, v 66, v 67, v 68⟩
def Ka : K4 := ⟨.tab 132, .tab 133, .tab 134, .tab 135⟩
def Kb : K4 := ⟨.tab 137, .tab 138, .tab 139, .tab 140⟩
def Kc : K4 := ⟨.tab 183, .tab 184, .tab 185, .tab 186⟩
def Kd : K4 := ⟨.tab 188, .tab 189, .tab 190, .tab 191⟩
def lw0 (f : Fns) : LoopSpec := skS 8 f 0 (L 40) (L 0) (v 0) z4 z4 (v 0) (v 2) zS zS KN KN zsV ztV
def lw1 (f : Fns) : LoopSpec := adL 3 10 125 (shA1 f.G) nmA1 (.exit 0) (L 40) (v 0) z4 Ca (v 1) (v 3) (v 0) zS (.tab 131) KN Ka (.tab 128)
def lw2 (f : Fns) (j : Nat) : LoopSpec := skS 8 f j (L 40) (v 0) (add (v 0) (v 3)) Ca Cb (v 3) (v 13) (.tab 131) (.tab 136) Ka Kb lsV tsV
def lw3 (f : Fns) : LoopSpec := adL 3 28 125 (shA2 f.G) nmA2 (.exit 4) (L 40) (L 0) z4 Cc (v 1) (L 0) (L 0) zS (.tab 182) KN Kc (.tab 128)
def lw4 (f : Fns) : LoopSpec := a3S true f.G (L 40) (L 0) (L 200) Cc Cd (v 1) (.tab 182) (.tab 187) Kc Kd (.tab 128)
def lwN2 (f : Fns) : LoopSpec := skS 8 f 0 (L 40) (v 0) (v 0) z4 z4 (L 0) (L 0) zS zS KN KN zsV ztV
def lwN4 (f : Fns) : LoopSpec := a3S false f.G (L 40) (L 0) (L 200) z4 Cd (L 0) zS (.tab 187) KN Kd zS
def lawL (f : Fns) (j : Nat) : List LoopSpec := [lw0 f, lw1 f, lw2 f j, lw3 f, lw4 f]
def lawN (f : Fns) : List LoopSpec := [lw0 f, lwN2 f, lwN4 f]
def lawF (G : Nat) : List FunSpec := [newS 7 40 G (L 40) (.tab 129) (.tab 130)]
def pcLaw (j : Nat) : List (SB × Bool) := [tt] ++ (inR (L 0) (v 0) (L 65535) ++ (inR (L 0) (v 1) (L 40) ++ (inR (L 0) (v 3) (L 65535) ++ (lensF j ++ ([eq (sumV j) (v 1)] ++ (zeroC Cb ++ zeroC Cd))))))
def pcLong : List (SB × Bool) := [tt] ++ [nle (v 1) (L 40)]
def aArg (has : Bool) (G : Nat) : AV := bif has then .ss G 1 (.lit 0) (v 1) else .so (.lit 0)
def heap0 (has : Bool) (G : Nat) : HS := bif has then Abs.addB (startL G []) (.arr [.i .u16] (.tab 128) (v 1) true) else startL G []
end Go.Proofs.Wheels
namespace Go.Proofs.Ytaliacnncemneaa.wheels
open Go.Abs Go.Proofs.Wheels

noncomputable def runLaw (pc : List (SB × Bool)) (ls : List LoopSpec) (fs : List FunSpec) (has : Bool) : Bool := runAt 3 pc ls fs [.sx .u16 (v 0), aArg has PG] (heap0 has PG)
set_option maxRecDepth 1000000
theorem law_long : runLaw pcLong [] [] true = true := by kernel_rfl
theorem law_nil : runLaw (pcLaw 0) (lawN fns) (lawF PG) false = true := by kernel_rfl
theorem law_2 : runLaw (pcLaw 2) (lawL fns 2) (lawF PG) true = true := by kernel_rfl
theorem law_40 : runLaw (pcLaw 40) (lawL fns 40) (lawF PG) true = true := by kernel_rfl
end Go.Proofs.Ytaliacnncemneaa.wheels

namespace Go.Proofs.Ytaliacnncemneaa.wheels
open Go.Abs Go.Proofs.Wheels

theorem new_len {N : Nat} : (WS.new N).len = 0 := rfl
/-- A wheel at a time, where nobody waits. -/
theorem first_skip (k : Nat) : (skips k ⟨WS.new 40, k, []⟩).past = [] ∧ (skips k ⟨WS.new 40, k, []⟩).k = k ∧ (skips k ⟨WS.new 40, k, []⟩).s = { WS.new 40 with now := (k : Int) } := by
  cases k with
  | zero => exact ⟨rfl, rfl, rfl⟩
  | succ k =>
    unfold skips
    rw [if_pos new_len]
    refine ⟨rfl, rfl, ?_⟩
    show ({ WS.new 40 with now := (0 : Int) + ((k + 1 : Nat) : Int) } : WS) = _
    rw [Int.zero_add]

theorem cntP_lt {p : Int → Bool} {m : Nat} : ∀ {n : Nat}, m ≤ n → (∀ i : Nat, i < n → p i = decide (i < m)) → cntP p n = m := by
  intro n
  induction n with
  | zero => intro h _; have : m = 0 := by omega
            subst this; rfl
  | succ n ih =>
    intro h hp
    have e : cntP p (n + 1) = cntP p n + b2i (p n) := rfl
    have hn := hp n (by omega)
    by_cases h2 : m ≤ n
    · rw [e, ih h2 fun i hi => hp i (by omega), hn, decide_eq_false (by omega)]
      show (m : Int) + 0 = m; omega
    · have hm : m = n + 1 := by omega
      subst hm
      have : cntP p n = n := by
        have : ∀ k : Nat, k ≤ n → cntP p k = k := by
          intro k
          induction k with
          | zero => intro _; rfl
          | succ k ihk =>
            intro hk
            have e2 : cntP p (k + 1) = cntP p k + b2i (p k) := rfl
            rw [e2, ihk (by omega), hp k (by omega), decide_eq_true (by omega)]
            show (k : Int) + 1 = ((k + 1 : Nat) : Int); omega
        exact this n (Nat.le_refl _)
      rw [e, this, hn, decide_eq_true (by omega)]
      show (n : Int) + 1 = ((n + 1 : Nat) : Int); omega

structure Law (st : Int) (ln : Nat) (A : TT) : Prop where
  hst : 0 ≤ st ∧ st ≤ 65535
  hln : ln ≤ 40
  hA : MidT A
  hAr : ∀ t, t < ln → 0 ≤ A t 0 ∧ A t 0 ≤ 65535

section
variable (st : Int) (ln : Nat) (A : TT)
def s1 : WS := { WS.new 40 with now := (st.toNat : Int) }
def a1 : WS := adds A 65535 (s1 st) ln
def most2 : Int := mostA A 65535 true ln
def x2 : SkS := ⟨a1 st ln A, (most2 ln A).toNat, []⟩
def e2 : SkS := skips (most2 ln A).toNat (x2 st ln A)
def a2 : WS := adds A 200 (WS.new 40) ln
def t2 : WS := tks (a2 ln A) 200
def scL : List Int := [st, (ln : Int), (st.toNat : Int), most2 ln A] ++ ((a1 st ln A).cs ++ ([0] ++ ((e2 st ln A).s.cs ++ ([((e2 st ln A).k : Int)] ++ ([0, 0, 0, 0, 0, 0] ++ ((List.range 41).map (lenOf (e2 st ln A)) ++ ((a2 ln A).cs ++ (t2 ln A).cs)))))))
def tbL : List TT := [A, idT 168, negT 40, (a1 st ln A).when_] ++ ((a1 st ln A).k.list ++ ([(e2 st ln A).s.when_] ++ ((e2 st ln A).s.k.list ++ ((List.range 41).map (tabOf (e2 st ln A)) ++ ([(a2 ln A).when_] ++ ((a2 ln A).k.list ++ ([(t2 ln A).when_] ++ (t2 ln A).k.list)))))))
def lawE : Nat → Int := encL (scL st ln A) (tbL st ln A)
end

section
variable {st : Int} {ln : Nat} {A : TT} (hL : Law st ln A)
include hL
omit hL in
theorem s1_inv : WInv (s1 st) (fun _ => []) := by
  have h := jump_inv (new_inv (N := 40) (by omega) (by omega)) (wait_none fun t _ _ => rfl) st.toNat
  have e : (WS.new 40).jump st.toNat = s1 st := by
    show ({ WS.new 40 with now := (0 : Int) + (st.toNat : Int) } : WS) = _
    rw [Int.zero_add]; rfl
  rw [e] at h
  exact h
theorem s1_mid : WMid (s1 st) := by
  have h := new_mid (N := 40) (by omega)
  have := hL.hst
  exact ⟨by show (st.toNat : Int) ≤ _; omega, h.w, h.k⟩
omit hL in
theorem s1_zero : ∀ t, 0 ≤ t → t < (s1 st).n → g0 (s1 st).when_ t = 0 := fun _ _ _ => rfl
theorem s1_now : (s1 st).now = st := by
  have := hL.hst
  show (st.toNat : Int) = st
  omega
theorem a1_i : AdI A 65535 (s1 st) ln := adds_inv (s1_inv (st := st)) s1_zero (by omega) (by omega) (by have := hL.hln; show (ln : Int) ≤ 40; omega)
theorem a1_mid : WMid (a1 st ln A) := adds_mid (s1_inv (st := st)) (s1_mid hL) s1_zero (by omega) (by omega) (by have := hL.hln; show (ln : Int) ≤ 40; omega)
theorem a1_wait : (a1 st ln A).wait = ln := by
  have i := a1_i hL
  have hl := hL.hln
  have hs := hL.hst
  have hn : (a1 st ln A).n = 40 := i.n
  unfold WS.wait
  rw [hn]
  refine cntP_lt (by show ln ≤ 40; omega) fun t ht => ?_
  have ht : t < 40 := ht
  have := i.w t (by omega) (by show (t : Int) < 40; omega)
  have := addA_in (A := A) (m := 65535) (t := t) (by omega) (by omega)
  rw [show g0 (a1 st ln A).when_ t = _ from i.w t (by omega) (by show (t : Int) < 40; omega), s1_now hL, Int.toNat_natCast]
  by_cases h : t < ln
  · rw [if_pos (by omega), decide_eq_true h, decide_eq_false (by omega)]; rfl
  · rw [if_neg (by omega), decide_eq_false h]; rfl
omit hL in
theorem most_lim : 0 ≤ most2 ln A ∧ most2 ln A ≤ 65535 := most_in (by omega) (by omega)
theorem x2_inv : SkInv 40 (x2 st ln A) := by
  have i := a1_i hL
  have hm := most_lim (ln := ln) (A := A)
  have hs := hL.hst
  have hl := hL.hln
  have hnow : (a1 st ln A).now = st := i.now.trans (s1_now hL)
  refine ⟨i.q, a1_mid hL, ?_, ?_, fun l hl => (List.not_mem_nil hl).elim, ?_⟩
  · show (a1 st ln A).now + ((most2 ln A).toNat : Int) + 1 ≤ _
    rw [hnow]; omega
  · show (most2 ln A).toNat ≤ 100000; omega
  · show ((0 : Nat) : Int) + (a1 st ln A).wait ≤ _
    rw [a1_wait hL]; omega
theorem e2_end : SkEnd 40 (x2 st ln A) (e2 st ln A) := skips_end (x2_inv hL) rfl
theorem e2_now : (e2 st ln A).s.now = st + most2 ln A := by
  have i := a1_i hL
  have hm := most_lim (ln := ln) (A := A)
  rw [(e2_end hL).now]
  show (a1 st ln A).now + ((most2 ln A).toNat : Int) = _
  rw [show (a1 st ln A).now = st from i.now.trans (s1_now hL)]
  omega
theorem e2_wait : (e2 st ln A).s.wait = 0 := by
  have i := a1_i hL
  have hm := most_lim (ln := ln) (A := A)
  have hs := hL.hst
  refine (e2_end hL).none fun t t0 t1 => ?_
  have t1 : t < (a1 st ln A).n := t1
  rw [show (a1 st ln A).n = 40 from i.n] at t1
  show g0 (a1 st ln A).when_ t ≤ (a1 st ln A).now + ((most2 ln A).toNat : Int)
  rw [show (a1 st ln A).now = st from i.now.trans (s1_now hL), show g0 (a1 st ln A).when_ t = _ from i.w t t0 t1, s1_now hL]
  split
  · have := most_ge (A := A) (m := 65535) (i := ln) (t := t.toNat) (by omega)
    have e : most2 ln A = mostA A 65535 true ln := rfl
    omega
  · omega
theorem e2_total : total (e2 st ln A).past = ln := by
  have := (e2_end hL).sum
  rw [e2_wait hL] at this
  have e : (x2 st ln A).s.wait = ln := a1_wait hL
  rw [e] at this
  have e : total (x2 st ln A).past = 0 := rfl
  rw [e] at this
  omega
theorem a2_i : AdI A 200 (WS.new 40) ln := adds_inv (new_inv (by omega) (by omega)) (fun _ _ _ => rfl) (by omega) (by omega) (by have := hL.hln; show (ln : Int) ≤ 40; omega)
theorem a2_mid : WMid (a2 ln A) := adds_mid (new_inv (by omega) (by omega)) (new_mid (by omega)) (fun _ _ _ => rfl) (by omega) (by omega) (by have := hL.hln; show (ln : Int) ≤ 40; omega)
theorem t2_i : TkI (a2 ln A) 200 := by
  obtain ⟨q, h⟩ := (a2_i hL).q
  exact tks_inv h (a2_mid hL) (N := 200) (by rw [show (adds A 200 (WS.new 40) ln).now = 0 from (a2_i hL).now]; omega) (Nat.le_refl _)
theorem t2_wait : (t2 ln A).wait = 0 := by
  have i := t2_i hL
  have j := a2_i hL
  obtain ⟨q, h⟩ := i.q
  have hnow : (t2 ln A).now = 200 := by
    have := i.now
    rw [show (a2 ln A).now = 0 from j.now] at this
    exact this.trans (by omega)
  refine wait_none fun t t0 t1 => ?_
  rcases h.w t t0 (by exact t1) with g | ⟨g, _⟩
  · exact g.1
  · rcases i.w t t0 with g1 | g1
    · exact g1
    · have t1 : t < 40 := by rw [show (t2 ln A).n = 40 from i.n.trans j.n] at t1; exact t1
      have e : g0 (a2 ln A).when_ t = if t < ln then 0 + addA A 200 t.toNat else 0 := j.w t t0 t1
      have hz := Int.emod_lt_of_pos (A t.toNat 0) (show (0 : Int) < 200 by omega)
      have g : (t2 ln A).now < g0 (t2 ln A).when_ t := g
      have g1 : g0 (t2 ln A).when_ t = g0 (a2 ln A).when_ t := g1
      rw [g1, e, hnow] at g
      split at g
      · unfold addA at g; omega
      · omega
end
end Go.Proofs.Ytaliacnncemneaa.wheels

namespace Go.Proofs.Ytaliacnncemneaa.wheels
open Go.Abs Go.Proofs.Wheels

section
variable {st : Int} {ln : Nat} {A : TT}
theorem le_one {i : Nat} {x : Int} (h : (scL st ln A)[i]? = some x) (hi : i < 128) : lawE st ln A i = x := encL_one h hi
theorem le_tab {a : Nat} {X : TT} (h : (tbL st ln A)[a - 128]? = some X) (h1 : 128 ≤ a) (h2 : a < 256) : RowEq (tabE (lawE st ln A) a) X := encL_tab h h1 h2
theorem le_len {i : Nat} (hi : i < 41) : lawE st ln A (20 + i) = lenOf (e2 st ln A) i := by
  refine le_one ?_ (by omega)
  rw [Nat.add_comm 20 i]
  show ((List.range 41).map (lenOf (e2 st ln A)) ++ ((a2 ln A).cs ++ (t2 ln A).cs))[i]? = _
  rw [List.getElem?_append_left (by simpa using hi), List.getElem?_map, List.getElem?_range hi]
  rfl
theorem le_lt {i : Nat} (hi : i < 41) : RowEq (tabE (lawE st ln A) (141 + i)) (tabOf (e2 st ln A) i) := by
  refine le_tab ?_ (by omega) (by omega)
  rw [show 141 + i - 128 = i + 13 by omega]
  show ((List.range 41).map (tabOf (e2 st ln A)) ++ ([(a2 ln A).when_] ++ ((a2 ln A).k.list ++ ([(t2 ln A).when_] ++ (t2 ln A).k.list))))[i]? = _
  rw [List.getElem?_append_left (by simpa using hi), List.getElem?_map, List.getElem?_range hi]
  rfl
/-- What stands behind the lists. -/
theorem sc_end {i : Nat} : (scL st ln A)[61 + i]? = ((a2 ln A).cs ++ (t2 ln A).cs)[i]? := by
  rw [show 61 + i = (41 + i) + 20 by omega]
  show ((List.range 41).map (lenOf (e2 st ln A)) ++ ((a2 ln A).cs ++ (t2 ln A).cs))[41 + i]? = _
  rw [List.getElem?_append_right (by simp)]
  simp
theorem tb_end {i : Nat} : (tbL st ln A)[54 + i]? = ([(a2 ln A).when_] ++ ((a2 ln A).k.list ++ ([(t2 ln A).when_] ++ (t2 ln A).k.list)))[i]? := by
  rw [show 54 + i = (41 + i) + 13 by omega]
  show ((List.range 41).map (tabOf (e2 st ln A)) ++ ([(a2 ln A).when_] ++ ((a2 ln A).k.list ++ ([(t2 ln A).when_] ++ (t2 ln A).k.list))))[41 + i]? = _
  rw [List.getElem?_append_right (by simp)]
  simp
theorem le_c3 {i : Nat} {x : Int} (h : ((a2 ln A).cs ++ (t2 ln A).cs)[i]? = some x) (hi : i < 8) : lawE st ln A (61 + i) = x := le_one (sc_end.trans h) (by omega)
theorem le_t3 {i : Nat} {X : TT} (h : ([(a2 ln A).when_] ++ ((a2 ln A).k.list ++ ([(t2 ln A).when_] ++ (t2 ln A).k.list)))[i]? = some X) (hi : i < 10) : RowEq (tabE (lawE st ln A) (182 + i)) X := le_tab (by rw [show 182 + i - 128 = 54 + i by omega]; exact tb_end.trans h) (by omega) (by omega)

theorem le_0 : lawE st ln A 0 = st := le_one (st := st) (ln := ln) (A := A) (i := 0) rfl (by decide)
theorem le_a1c {r : Nat} (hr : r < 4) : cE (lawE st ln A) Ca r = (a1 st ln A).c r := by
  rcases (show r = 0 ∨ r = 1 ∨ r = 2 ∨ r = 3 by omega) with rfl | rfl | rfl | rfl
  · exact le_one (st := st) (ln := ln) (A := A) (i := 4) rfl (by decide)
  · exact le_one (st := st) (ln := ln) (A := A) (i := 5) rfl (by decide)
  · exact le_one (st := st) (ln := ln) (A := A) (i := 6) rfl (by decide)
  · exact le_one (st := st) (ln := ln) (A := A) (i := 7) rfl (by decide)
theorem le_a1k : LKEq (lkE (lawE st ln A) Ka) (a1 st ln A).k := ⟨le_tab (a := 132) rfl (by decide) (by decide), le_tab (a := 133) rfl (by decide) (by decide), le_tab (a := 134) rfl (by decide) (by decide), le_tab (a := 135) rfl (by decide) (by decide)⟩
theorem le_a1w : RowEq (tabE (lawE st ln A) 131) (a1 st ln A).when_ := le_tab (a := 131) rfl (by decide) (by decide)
theorem le_e2c {r : Nat} (hr : r < 4) : cE (lawE st ln A) Cb r = (e2 st ln A).s.c r := by
  rcases (show r = 0 ∨ r = 1 ∨ r = 2 ∨ r = 3 by omega) with rfl | rfl | rfl | rfl
  · exact le_one (st := st) (ln := ln) (A := A) (i := 9) rfl (by decide)
  · exact le_one (st := st) (ln := ln) (A := A) (i := 10) rfl (by decide)
  · exact le_one (st := st) (ln := ln) (A := A) (i := 11) rfl (by decide)
  · exact le_one (st := st) (ln := ln) (A := A) (i := 12) rfl (by decide)
theorem le_e2k : LKEq (lkE (lawE st ln A) Kb) (e2 st ln A).s.k := ⟨le_tab (a := 137) rfl (by decide) (by decide), le_tab (a := 138) rfl (by decide) (by decide), le_tab (a := 139) rfl (by decide) (by decide), le_tab (a := 140) rfl (by decide) (by decide)⟩
theorem le_e2w : RowEq (tabE (lawE st ln A) 136) (e2 st ln A).s.when_ := le_tab (a := 136) rfl (by decide) (by decide)
theorem le_a2c {r : Nat} (hr : r < 4) : cE (lawE st ln A) Cc r = (a2 ln A).c r := by
  rcases (show r = 0 ∨ r = 1 ∨ r = 2 ∨ r = 3 by omega) with rfl | rfl | rfl | rfl
  · exact le_c3 (st := st) (ln := ln) (A := A) (i := 0) rfl (by decide)
  · exact le_c3 (st := st) (ln := ln) (A := A) (i := 1) rfl (by decide)
  · exact le_c3 (st := st) (ln := ln) (A := A) (i := 2) rfl (by decide)
  · exact le_c3 (st := st) (ln := ln) (A := A) (i := 3) rfl (by decide)
theorem le_t2c {r : Nat} (hr : r < 4) : cE (lawE st ln A) Cd r = (t2 ln A).c r := by
  rcases (show r = 0 ∨ r = 1 ∨ r = 2 ∨ r = 3 by omega) with rfl | rfl | rfl | rfl
  · exact le_c3 (st := st) (ln := ln) (A := A) (i := 4) rfl (by decide)
  · exact le_c3 (st := st) (ln := ln) (A := A) (i := 5) rfl (by decide)
  · exact le_c3 (st := st) (ln := ln) (A := A) (i := 6) rfl (by decide)
  · exact le_c3 (st := st) (ln := ln) (A := A) (i := 7) rfl (by decide)
theorem le_a2w : RowEq (tabE (lawE st ln A) 182) (a2 ln A).when_ := le_t3 (i := 0) rfl (by decide)
theorem le_a2k : LKEq (lkE (lawE st ln A) Kc) (a2 ln A).k := ⟨le_t3 (i := 1) rfl (by decide), le_t3 (i := 2) rfl (by decide), le_t3 (i := 3) rfl (by decide), le_t3 (i := 4) rfl (by decide)⟩
theorem le_t2w : RowEq (tabE (lawE st ln A) 187) (t2 ln A).when_ := le_t3 (i := 5) rfl (by decide)
theorem le_t2k : LKEq (lkE (lawE st ln A) Kd) (t2 ln A).k := ⟨le_t3 (i := 6) rfl (by decide), le_t3 (i := 7) rfl (by decide), le_t3 (i := 8) rfl (by decide), le_t3 (i := 9) rfl (by decide)⟩
theorem le_1 : lawE st ln A 1 = ln := le_one (i := 1) rfl (by decide)
theorem le_2 : lawE st ln A 2 = (st.toNat : Int) := le_one (i := 2) rfl (by decide)
theorem le_3 : lawE st ln A 3 = most2 ln A := le_one (i := 3) rfl (by decide)
theorem le_13 : lawE st ln A 13 = (e2 st ln A).k := le_one (i := 13) rfl (by decide)
theorem le_A : RowEq (tabE (lawE st ln A) 128) A := le_tab (a := 128) rfl (by decide) (by decide)
theorem le_T : RowEq (tabE (lawE st ln A) 129) (idT 168) := le_tab (a := 129) rfl (by decide) (by decide)
theorem le_U : RowEq (tabE (lawE st ln A) 130) (negT 40) := le_tab (a := 130) rfl (by decide) (by decide)

theorem lenOf_le (hL : Law st ln A) (i : Nat) : 0 ≤ lenOf (e2 st ln A) i ∧ lenOf (e2 st ln A) i ≤ 4096 := by
  unfold lenOf
  cases e : (e2 st ln A).past[i]? with
  | none => exact ⟨Int.le_refl _, by show (0 : Int) ≤ 4096; omega⟩
  | some l =>
    have := ((e2_end hL).past l (List.mem_of_getElem? e)).1
    show 0 ≤ (l.length : Int) ∧ (l.length : Int) ≤ 4096
    omega
theorem tabOf_mid (hL : Law st ln A) (i : Nat) : MidT (tabOf (e2 st ln A) i) := by
  unfold tabOf
  cases e : (e2 st ln A).past[i]? with
  | none => exact zeroT_mid
  | some l =>
    have hp := ((e2_end hL).past l (List.mem_of_getElem? e)).2
    have hn : (e2 st ln A).s.n = 40 := (e2_end hL).n.trans (a1_i hL).n
    exact listT_mid fun t ht => by
      have := hp t ht
      exact i64 (by omega) (by omega)

theorem lawE_mid (hL : Law st ln A) : ∀ j, In64 (lawE st ln A j) := by
  have hs := hL.hst
  have hl := hL.hln
  have hm := most_lim (ln := ln) (A := A)
  have he := e2_end hL
  have hk := he.k
  obtain ⟨q1, h1⟩ := (a1_i hL).q
  obtain ⟨q2, h2⟩ := he.q
  obtain ⟨q3, h3⟩ := (a2_i hL).q
  obtain ⟨q4, h4⟩ := (t2_i hL).q
  have m1 := a1_mid hL
  have m3 := a2_mid hL
  have m4 := (t2_i hL).mid
  have app : ∀ {α : Type} {p : α → Prop} {l m : List α}, (∀ x ∈ l, p x) → (∀ x ∈ m, p x) → ∀ x ∈ l ++ m, p x := fun h1 h2 x hx => (List.mem_append.1 hx).elim (h1 x) (h2 x)
  have one : ∀ {α : Type} {p : α → Prop} {a : α}, p a → ∀ x ∈ [a], p x := fun h1 x hx => by
    simp only [List.mem_cons, List.not_mem_nil, or_false] at hx
    subst hx; exact h1
  refine encL_mid (app (fun x hx => ?_) (app h1.toWBase.cs_mid (app (one (i64 (by omega) (by omega))) (app h2.toWBase.cs_mid (app (one (i64 (by omega) (by omega))) (app (fun x hx => ?_) (app (fun x hx => ?_) (app h3.toWBase.cs_mid h4.toWBase.cs_mid))))))))
    (app (fun T hT => ?_) (app (LK.list_mid m1.k) (app (one he.mid.w) (app (LK.list_mid he.mid.k) (app (fun T hT => ?_) (app (one m3.w) (app (LK.list_mid m3.k) (app (one m4.w) (LK.list_mid m4.k)))))))))
  · simp only [List.mem_cons, List.not_mem_nil, or_false] at hx
    rcases hx with rfl | rfl | rfl | rfl
    all_goals exact i64 (by omega) (by omega)
  · simp only [List.mem_cons, List.not_mem_nil, or_false, or_self] at hx
    subst hx
    exact i64 (by omega) (by omega)
  · obtain ⟨i, _, rfl⟩ := List.mem_map.1 hx
    have := lenOf_le hL i
    exact i64 (by omega) (by omega)
  · simp only [List.mem_cons, List.not_mem_nil, or_false] at hT
    rcases hT with rfl | rfl | rfl | rfl
    · exact hL.hA
    · exact idT_mid (by omega)
    · exact negT_mid
    · exact m1.w
  · obtain ⟨i, _, rfl⟩ := List.mem_map.1 hT
    exact tabOf_mid hL i
end
end Go.Proofs.Ytaliacnncemneaa.wheels
end
