/- The law's shapes. Conditions: those that each theorem names. -/
import Derived.Test.YtaliacnncemneaaWheelWalk
open Go
noncomputable section

namespace Go.Proofs.Wheels
open Go.Abs

def shB1 (G : Nat) : Nat → Shape
  | 0 => ⟨[(0, ss (G + 7) (v 7)), (1, .sx .u8 (v 9)), (5, .ptr G 0), (25, ss (G + 7) (v 7)), (26, X 7), (27, X 6)], wheelB G ++ [T1u 133 (v 7)]⟩
  | _ => ⟨[(0, ss (G + 7) (v 7)), (1, .sx .u8 (v 9)), (5, .ptr G 0)], wheelB G ++ [T1u 133 (v 7)]⟩
def nmB1 (st : St) (s : HS) : List Nat := wheelOf s (st.t.get 5) ++ ssOf (st.t.get 0)
def roE : Blk := .ro (Tr.fill [] 0 .lf) 0
/-- One of the lists is looked through. -/
def lkT0 (G j : Nat) : List (Nat × AV) := [(5, .ptr G 0), (8, X 0), (56, .sl (G + 1) 0 1 j none), (57, I j), (58, X 1)]
def shLk (j : Nat) (G : Nat) : Nat → Shape
  | 0 => ⟨lkT0 G j ++ [(62, ss (G + 2) (v 2)), (63, X 2), (64, X 3)], [roE, roE, T1r 128 (v 2)]⟩
  | _ => ⟨lkT0 G j, [roE, roE, T1r 128 (v 2)]⟩
def nmLk (st : St) (s : HS) : List Nat := ptrOf (st.t.get 5) ++ ssOf (st.t.get 56) ++ ssOf (st.t.get 62)
def lkS (j : Nat) (G : Nat) (c i len T : SE) : LoopSpec := ⟨4, 19, 92, shLk j G, [c, i, len, L 0], [T], nmLk, [⟨.exit 4, 1, [c, i, len, len], [T]⟩], 3⟩
def pcLk : List (SB × Bool) := [tt, nle (v 2) (v 3), le (L 0) (v 3), le (v 3) (L 4095), le (v 2) (L 4096), le (v 3) (add (v 2) (L (-1))), ne (sel 128 (v 3)) (v 0)]
def csLk : Case := ⟨pcLk, .normal, 0, [.var 0, .var 1, .var 2, add (v 3) (L 1)], [], []⟩
def csLkE : Case := ⟨[tt, le (v 2) (v 3)], .exit 4, 1, [], [], []⟩

/-! ### The law's summaries -/

def cS : SE := .rem (v 0) (v 1)
def cCa : C4 := ⟨v 2, v 3, v 4, v 5⟩
def cCb : C4 := ⟨v 6, v 7, v 8, v 9⟩
def cCc : C4 := ⟨v 10, v 11, v 12, v 13⟩
def cCd : C4 := ⟨v 15, v 16, v 17, v 18⟩
def cCe : C4 := ⟨v 61, v 62, v 63, v 64⟩
def cKa : K4 := ⟨.tab 132, .tab 133, .tab 134, .tab 135⟩
def cKb : K4 := ⟨.tab 136, .tab 137, .tab 138, .tab 139⟩
def cKc : K4 := ⟨.tab 183, .tab 184, .tab 185, .tab 186⟩
def cKd : K4 := ⟨.tab 187, .tab 188, .tab 189, .tab 190⟩
def cKe : K4 := ⟨.tab 192, .tab 193, .tab 194, .tab 195⟩
def wB : SE := .upd (.tab 131) cS 0 (L 0)
def wD : SE := .upd (.tab 182) cS 0 (L 3001)
def lc0 (f : Fns) : LoopSpec := adL 4 8 92 (shB1 f.G) nmB1 (.exit 0) (L 20) (L 0) z4 cCa (v 1) (L 0) (v 0) zS (.tab 131) KN cKa (.tab 128)
def lc1 (f : Fns) (j : Nat) : LoopSpec := skS 8 f j (L 20) (L 0) (L 3000) cCb cCc (L 3000) (v 14) wB (.tab 182) cKb cKc lsV tsV
def lc2 (f : Fns) (j i : Nat) : LoopSpec := lkS j f.G cS (L i) (v (20 + i)) (.tab (141 + i))
def canL (f : Fns) (j : Nat) : List LoopSpec := [lc0 f, lc1 f j] ++ (List.range j).map (lc2 f j)
def canF (f : Fns) : List FunSpec := [newS 7 20 f.G (L 20) (.tab 129) (.tab 130), outS f (L 20) (L 0) cCa cCb cS (.tab 131) cKa cKb, addS 9 f (L 20) (L 3000) cCc cCd cS (L 1) (.tab 182) wD cKc cKd, tickS f (L 20) (L 3000) (L 3001) cCd cCe (v 19) wD (.tab 191) cKd cKe (.tab 196) true]
def pcCan (j : Nat) : List (SB × Bool) := [tt] ++ (inR (L 0) (v 0) (L 255) ++ (inR (L 1) (v 1) (L 20) ++ (inR (L 0) cS (L 19) ++ ([le cS (add (v 1) (L (-1)))] ++ (lensF j ++ ([le (L 1) (sel 131 cS), eq (v 19) (L 1), eq (sel 196 (L 0)) cS, eq (sel 182 cS) (L 0)] ++ zeroC cCc))))))
def pcNo : List (SB × Bool) := [tt] ++ [eq (v 1) (L 0)]
def pcBig : List (SB × Bool) := [tt] ++ [nle (v 1) (L 20)]
def cArg (has : Bool) (G : Nat) : AV := bif has then .ss G 1 (.lit 0) (v 1) else .so (.lit 0)
def heapC (has : Bool) (G : Nat) : HS := bif has then Abs.addB (startL G []) (.arr [.i .u16] (.tab 128) (v 1) true) else startL G []
end Go.Proofs.Wheels

namespace Go.Proofs.Ytaliacnncemneaa.wheels
open Go.Abs Go.Proofs.Wheels

set_option maxRecDepth 1000000
theorem runs_lk : (List.range 21).all (fun j => runR 4 19 92 (shLk j PG) 3 0 csLk [] && runR 4 19 92 (shLk j PG) 3 0 csLkE []) = true := by kernel_rfl
theorem good_lk : (List.range 21).all (fun j => goodAt PG (shLk j PG 1)) = true := by kernel_rfl
theorem ups_lk : (List.range 21).all (fun j => (shLk j PG 0).ups 4 1 && (shLk j PG 1).ups 4 1) = true := by kernel_rfl
theorem isLk : ((Try.prog.funcs[4]?).bind (·.body)).map (fun c => loopsKey 19 (subs c)) = some [bodyK 4 19] := by kernel_rfl
theorem fxLk {j : Nat} : ShapesOK (shLk j PG) 3 [true, true, true] := fun i => by rcases i with _ | i <;> exact ⟨Nat.le_refl _, rfl, rfl⟩
theorem run_b1 : runR 4 8 92 (shB1 PG) 8 0 (csAd 3000 false false) [adS fns 3000] = true := by kernel_rfl
theorem run_b2 : runR 4 8 92 (shB1 PG) 8 0 (csAdE (.exit 0)) [] = true := by kernel_rfl
theorem isB1 : ((Try.prog.funcs[4]?).bind (·.body)).map (fun c => loopsKey 8 (subs c)) = some [bodyK 4 8] := by kernel_rfl
theorem fxB1 : ShapesOK (shB1 PG) 8 [false, false, false, false, false, false, false, true] := fun i => by rcases i with _ | i <;> exact ⟨Nat.le_refl _, rfl, rfl⟩
theorem goodB1 : goodAt PG (shB1 PG 1) = true := by kernel_rfl
theorem upsB1 : ∀ i, (shB1 PG i).ups 10 6 = true := fun i => by rcases i with _ | i <;> kernel_rfl
theorem adRunsB : AdRuns 4 8 92 (shB1 PG) (.exit 0) 3000 false := ⟨isB1, fxB1, goodB1, upsB1, fun more => match more with | true => run_b1 | false => run_b1, run_b2, by decide, by simp⟩

theorem lk_all {j : Nat} (hj : j ≤ 20) : runR 4 19 92 (shLk j PG) 3 0 csLk [] = true ∧ runR 4 19 92 (shLk j PG) 3 0 csLkE [] = true ∧ goodAt PG (shLk j PG 1) = true ∧ ∀ i, (shLk j PG i).ups 4 1 = true := by
  have hm : j ∈ List.range 21 := List.mem_range.2 (by omega)
  have r := List.all_eq_true.1 runs_lk j hm
  have g := List.all_eq_true.1 good_lk j hm
  have u := List.all_eq_true.1 ups_lk j hm
  rw [Bool.and_eq_true] at r u
  exact ⟨r.1, r.2, g, fun i => by rcases i with _ | i <;> first | exact u.1 | exact u.2⟩

/-- One of the lists has no such id. -/
theorem lk_proof [F : Facts] [V : Vals] {j : Nat} (hj : j ≤ 20) {c i len T : SE} {ci ii : Int} {ql : List Int} (hc : c.eval V.env = ci) (hi : i.eval V.env = ii) (hci : In64 ci) (hii : In64 ii) (hlen : len.eval V.env = ql.length) (hql : ql.length ≤ 4096) (hT : RowEq (rowE V.env T) (listT ql)) (hm : ∀ x ∈ ql, In64 x) (hx : ∀ x ∈ ql, x ≠ ci) :
    LoopProof Try.prog [] (lkS j PG c i len T) := by
  obtain ⟨r1, r2, g, u⟩ := lk_all hj
  obtain ⟨E, hE⟩ : ∃ E, E = fun k : Nat => encL [ci, ii, (ql.length : Int), (k : Int)] [listT ql] := ⟨_, rfl⟩
  have one : ∀ {k a : Nat} {x : Int}, [ci, ii, (ql.length : Int), (k : Int)][a]? = some x → a < 128 → E k a = x := fun h1 h2 => by rw [hE]; exact encL_one h1 h2
  have tab : ∀ {k : Nat}, RowEq (tabE (E k) 128) (listT ql) := fun {k} => by rw [hE]; exact encL_tab rfl (by decide) (by decide)
  have emid : ∀ k, k ≤ ql.length → ∀ a, In64 (E k a) := fun k hk => by
    rw [hE]
    refine encL_mid (fun y hy => ?_) (fun Y hY => ?_)
    · simp only [List.mem_cons, List.not_mem_nil, or_false] at hy
      rcases hy with rfl | rfl | rfl | rfl
      · exact hci
      · exact hii
      · exact i64 (by omega) (by omega)
      · exact i64 (by omega) (by omega)
    · simp only [List.mem_cons, List.not_mem_nil, or_false] at hY
      subst hY
      exact listT_mid hm
  have E0 : ∀ k, (v 0).eval (E k) = ci := fun k => one (k := k) (a := 0) rfl (by decide)
  have E1 : ∀ k, (v 1).eval (E k) = ii := fun k => one (k := k) (a := 1) rfl (by decide)
  have E2 : ∀ k, (v 2).eval (E k) = ql.length := fun k => one (k := k) (a := 2) rfl (by decide)
  have E3 : ∀ k, (v 3).eval (E k) = k := fun k => one (k := k) (a := 3) rfl (by decide)
  have ags : ∀ (k : Nat) (e : SE), e.eval V.env = (k : Int) → AgreeN 4 1 (intoEnv (fvL [c, i, len, e]) (gvL [T]) V.env) (E k) := fun k e he => by
    refine agree_of (by decide) (by decide) (fun a ha => ?_) (fun a h1 h2 => ?_)
    · rcases (show a = 0 ∨ a = 1 ∨ a = 2 ∨ a = 3 by omega) with rfl | rfl | rfl | rfl
      · exact hc.trans (E0 k).symm
      · exact hi.trans (E1 k).symm
      · exact hlen.trans (E2 k).symm
      · exact he.trans (E3 k).symm
    · rcases (show a = 128 by omega) with rfl
      exact hT.trans tab.symm
  refine spec_proof2 (N := NN) (fuel := fuel) (lkS j PG c i len T) noTabs (fx := [true, true, true]) (b0 := bodyK 4 19) isLk fxLk (good_one rfl g) (σ := Nat) E 4 1 (by decide) u (Nat.le_refl _) (Nat.le_refl _)
    (I := fun μ j k => j = 0 ∧ k ≤ ql.length ∧ μ = ql.length - k) (Post := fun e j k => e = .exit 4 ∧ j = 1 ∧ k = ql.length) (fun B μ j k hI => ?_) ql.length 0 ⟨rfl, Nat.zero_le _, rfl⟩ (emid 0 (Nat.zero_le _)) (ags 0 (L 0) rfl) (fun e j k hp => ?_)
  · obtain ⟨rfl, hk, rfl⟩ := hI
    by_cases hlt : k < ql.length
    · have hne := hx _ (List.getElem_mem hlt)
      have ei : (sel 128 (Wheels.v 3)).eval (E k) = ql[k] := by
        refine (sel_eval _ 128 (Wheels.v 3)).trans ?_
        rw [E3, tab.g]
        show listT ql (k : Int).toNat 0 = _
        unfold listT
        rw [if_pos rfl, Int.toNat_natCast, List.getElem?_eq_getElem hlt]
        rfl
      refine ⟨csLk, k + 1, noLoops, callF csLk.pc [], noRnd B _ _ _ (fun V hV S hS => by cases hS), ?_, ?_, Nat.le_refl _, Nat.zero_le _, emid (k + 1) hlt, ?_, .inl ⟨rfl, ql.length - (k + 1), by omega, rfl, hlt, rfl⟩⟩
      · exact r1
      · show Fx (E k) pcLk
        refine .cons rfl (.cons (nle_ok ?_) (.cons (le_ok ?_) (.cons (le_ok ?_) (.cons (le_ok ?_) (.cons (le_ok ?_) (one_ok (ne_ok ?_)))))))
        · rw [E2, E3]; omega
        · rw [E3]; show (0 : Int) ≤ _; omega
        · rw [E3]; show _ ≤ (4095 : Int); omega
        · rw [E2]; show _ ≤ (4096 : Int); omega
        · rw [E3]; show _ ≤ (Wheels.v 2).eval (E k) + (-1); rw [E2]; omega
        · rw [ei, E0]; exact hne
      · refine agree_of (by decide) (by decide) (fun a ha => ?_) (fun a h1 h2 => ?_)
        · rcases (show a = 0 ∨ a = 1 ∨ a = 2 ∨ a = 3 by omega) with rfl | rfl | rfl | rfl
          · exact (E0 k).trans (E0 (k + 1)).symm
          · exact (E1 k).trans (E1 (k + 1)).symm
          · exact (E2 k).trans (E2 (k + 1)).symm
          · refine Eq.trans ?_ (E3 (k + 1)).symm
            show (Wheels.v 3).eval (E k) + 1 = ((k + 1 : Nat) : Int)
            rw [E3]; omega
        · rcases (show a = 128 by omega) with rfl
          exact (tab (k := k)).trans tab.symm
    · refine ⟨csLkE, k, noLoops, callF csLkE.pc [], noRnd B _ _ _ (fun V hV S hS => by cases hS), ?_, ?_, Nat.zero_le _, Nat.zero_le _, emid k hk, ?_, .inr ⟨by simp [csLkE], rfl, rfl, by omega⟩⟩
      · exact r2
      · show Fx (E k) [tt, le (Wheels.v 2) (Wheels.v 3)]
        refine .cons rfl (one_ok (le_ok ?_))
        rw [E2, E3]; omega
      · exact agree_of (by decide) (by decide) (fun a ha => rfl) (fun a h1 h2 => RowEq.refl _)
  · obtain ⟨rfl, rfl, hin⟩ := hp
    subst hin
    exact ⟨0, ⟨.exit 4, 1, [c, i, len, len], [T]⟩, rfl, rfl, rfl, Nat.le_refl _, Nat.le_refl _, agree_symm (ags _ len hlen)⟩
end Go.Proofs.Ytaliacnncemneaa.wheels
end
