/- The run of the law 'RingActs', by what its loops come to. Conditions: those that each theorem names. -/
import Derived.Test.YtlbehjagidopkaaRings
open Go
namespace Go.Proofs.Ytlbehjagidopkaa.ringActs
noncomputable section
open Go.Abs Go.Proofs.Ytlbehjagidopkaa.rings

/-- How the law goes: how the acts leave the list, where i is, whether it is found. -/
inductive W where
  | long | low | high
  | empty (d : Bool) | nil (d : Bool) | none (d : Bool)
  | neg (found : Bool) | over (found : Bool) | at_ (found : Bool)

def pcB : List (SB × Bool) := [tt, (.le (.lit 0) (.var 2), true), (.le (.var 2) (.lit 300), true), (.le (.lit 1) (.var 0), true), (.le (.var 0) (.lit 4096), true), (.le (.lit 0) (.var 12), true), (.le (.var 12) (.add (.var 0) (.lit (-1))), true), (.le (.var 12) (.lit 4095), true), (.le (.lit 0) (.var 13), true), (.le (.var 13) (.var 0), true), (.le (.var 13) (.lit 4096), true)]
def pcSome : List (SB × Bool) := [(.le (.lit 1) (.var 13), true), (.eq (.var 13) (.lit 0), false)]
def pcFd (found : Bool) : List (SB × Bool) := bif found then [(.le (.lit 0) (.var 14), true), (.le (.var 14) (.add (.var 13) (.lit (-1))), true), (.le (.var 14) (.lit 4095), true)] else []
def W.pc : W → List (SB × Bool)
  | .long => [(.le (.var 2) (.lit 300), false)]
  | .low => [(.le (.var 2) (.lit 300), true), (.le (.lit 1) (.var 0), false)]
  | .high => [(.le (.var 2) (.lit 300), true), (.le (.lit 1) (.var 0), true), (.le (.var 0) (.lit 4096), false)]
  | .empty d => pcB ++ [(.le (.lit 0) (.var 1), d)]
  | .nil d => pcB ++ [(.le (.lit 0) (.var 1), d)]
  | .none d => pcB ++ [(.eq (.var 13) (.lit 0), true), (.le (.lit 0) (.var 1), d)]
  | .neg f => pcB ++ (pcSome ++ (pcFd f ++ [(.le (.lit 0) (.var 1), false)]))
  | .over f => pcB ++ (pcSome ++ (pcFd f ++ [(.le (.lit 0) (.var 1), true), (.le (.var 13) (.var 1), true)]))
  | .at_ f => pcB ++ (pcSome ++ (pcFd f ++ [(.le (.lit 0) (.var 1), true), (.le (.var 13) (.var 1), false), (.le (.var 1) (.lit 4095), true), (.le (.var 1) (.add (.var 13) (.lit (-1))), true), (.eq (.sel (.tab 41) (.rem (.add (.var 12) (.var 1)) (.var 0)) 0) (.sel (.tab 42) (.var 1) 0), true)]))
noncomputable def spA (l : Bool) : LoopSpec := actsA.spec Try.prog.globals.size (fun _ _ => []) false l (.var 0) (.var 1) (.var 2) (.lit 0) (.lit 0) (.tab 32) (.const (.lit 0)) (.const (.lit 0)) (.tab 35) (.var 12) (.var 13) (.tab 41) (.tab 42)
noncomputable def spAll (f : Bool) : List LoopSpec := [spA true, AS abK Try.prog.globals.size (.var 0) (.var 12) (.var 13) (.tab 41) (.tab 43), IS Try.prog.globals.size (.var 13) (.tab 43) (.tab 42), FR Try.prog.globals.size (.var 0) (.var 12) (.var 13) (.var 1) (.tab 41) (.var 14) f, FM Try.prog.globals.size (.var 13) (.var 1) (.tab 42) (.var 14) f]
noncomputable def W.specs : W → List LoopSpec
  | .nil _ => [spA false]
  | .none _ => [spA true]
  | .neg f | .over f | .at_ f => spAll f
  | _ => []
/-- Are there acts? -/
def W.has : W → Bool
  | .empty _ => false
  | _ => true
noncomputable def heap0 (has : Bool) : HS := bif has then Abs.addB (startL Try.prog.globals.size []) (aTab (.var 2)) else startL Try.prog.globals.size []
noncomputable def aArg (has : Bool) : AV := bif has then .ss Try.prog.globals.size 2 (.lit 0) (.var 2) else .so (.lit 0)
noncomputable def cfgO : Cfg := { mg := fun _ => false, known := knowTrue 7 [], fuel := 100000 }

set_option maxRecDepth 1000000
theorem run_lives : ((letI : Facts := ⟨[]⟩; letI := noLoops; callN Try.prog (cfg0 100000) 200 (.f 7) [] (startL Try.prog.globals.size [])).every 1000000000 isTrue) = true := by kernel_rfl
theorem runW (k : W) : ((letI : Facts := ⟨k.pc⟩; letI := manyLoops Try.prog.globals.size [] k.specs; callN Try.prog cfgO 200 (.f 4) [.sx .i64 (.var 0), aArg k.has, .sx .i64 (.var 1)] (heap0 k.has)).every 1000000000 isTrue) = true := by
  rcases k with _ | _ | _ | d | d | d | d | d | d <;> (try cases d) <;> kernel_rfl

def q0 : Q := ⟨0, 0, 0, fun _ _ => 0, fun _ _ => 0, false⟩
section
variable (x0 x1 m : Int) (ra : TT)
def aL : Acts := ⟨x0, m, fun i => ra i 0, fun i => ra i 1⟩
def qF : Q := Q.iter (aL x0 m ra) m.toNat q0
def pos : Nat := findI (fun j => (qF x0 m ra).L j 0 == x1) 0 (qF x0 m ra).n.toNat
def scO (ok : Bool) (i : Nat) : Int := match i with
  | 0 => x0
  | 1 => x1
  | 2 => m
  | 12 => bif ok then (qF x0 m ra).f else 0
  | 13 => bif ok then (qF x0 m ra).n else 0
  | 14 => bif ok then (pos x0 x1 m ra : Int) else 0
  | _ => 0
def tbO (ok : Bool) (a r c : Nat) : Int := match a with
  | 32 => ra r c
  | 41 => bif ok then (qF x0 m ra).R r c else 0
  | 42 => bif ok then (qF x0 m ra).L r c else 0
  | 43 => bif ok then allT (qF x0 m ra).f x0 (qF x0 m ra).R (qF x0 m ra).n r c else 0
  | _ => 0
def envO (ok : Bool) : Nat → Int := envT (scO x0 x1 m ra ok) (tbO x0 m ra ok)
end

theorem q0_inv {x0 m : Int} {ra : TT} (h0 : 1 ≤ x0 ∧ x0 ≤ 4096) (hm : 0 ≤ m ∧ m ≤ 300) (hra : ∀ r c, In64 (ra r c)) : q0.Inv (aL x0 m ra) :=
  ⟨h0, ⟨Int.le_refl 0, by show (0 : Int) < x0; omega⟩, ⟨Int.le_refl 0, by show (0 : Int) ≤ x0; omega⟩, ⟨Int.le_refl 0, hm.1, hm.2⟩, fun _ _ => mid_zero, fun _ _ => mid_zero, fun i => hra i 1, fun i hi => by
    have hi : (i : Int) < 0 := hi
    omega, fun _ => rfl⟩
theorem qF_inv {x0 m : Int} {ra : TT} (h0 : 1 ≤ x0 ∧ x0 ≤ 4096) (hm : 0 ≤ m ∧ m ≤ 300) (hra : ∀ r c, In64 (ra r c)) : (qF x0 m ra).Inv (aL x0 m ra) ∧ (qF x0 m ra).j = m := by
  obtain ⟨h1, h2⟩ := Q.iter_inv m.toNat q0 (q0_inv h0 hm hra) (by show (0 : Int) + m.toNat ≤ m; omega)
  exact ⟨h1, by show (Q.iter _ _ _).j = m; rw [h2]; show (0 : Int) + m.toNat = m; omega⟩

section
variable {x0 x1 m : Int} {ra : TT} {ok : Bool}

theorem pos_in (h0 : 1 ≤ x0 ∧ x0 ≤ 4096) (hm : 0 ≤ m ∧ m ≤ 300) (hra : ∀ r c, In64 (ra r c)) : (pos x0 x1 m ra : Int) ≤ (qF x0 m ra).n := by
  have := (findI_ok (p := fun j => (qF x0 m ra).L j 0 == x1) (qF x0 m ra).n.toNat 0).2.1
  have hn := (qF_inv h0 hm hra).1.n
  unfold pos
  omega

theorem envO_mid (h0 : In64 x0) (h1 : In64 x1) (h2 : In64 m) (hra : ∀ r c, In64 (ra r c)) (hok : ok = true → (1 ≤ x0 ∧ x0 ≤ 4096) ∧ 0 ≤ m ∧ m ≤ 300) : ∀ j, In64 (envO x0 x1 m ra ok j) := by
  cases ok with
  | false =>
    refine envT_mid (fun i => ?_) (fun a r c => ?_)
    · unfold scO
      split
      · exact h0
      · exact h1
      · exact h2
      all_goals exact mid_zero
    · unfold tbO
      split
      · exact hra r c
      all_goals exact mid_zero
  | true =>
    obtain ⟨k0, km⟩ := hok rfl
    obtain ⟨hi, _⟩ := qF_inv k0 km hra
    have hf : 0 ≤ (qF x0 m ra).f ∧ (qF x0 m ra).f < x0 := hi.f
    have hn : 0 ≤ (qF x0 m ra).n ∧ (qF x0 m ra).n ≤ x0 := hi.n
    have hp := pos_in (x1 := x1) k0 km hra
    refine envT_mid (fun i => ?_) (fun a r c => ?_)
    · unfold scO
      split
      · exact h0
      · exact h1
      · exact h2
      · show In64 (qF x0 m ra).f; unfold In64; omega
      · show In64 (qF x0 m ra).n; unfold In64; omega
      · show In64 (pos x0 x1 m ra : Int); unfold In64; omega
      · exact mid_zero
    · unfold tbO
      split
      · exact hra r c
      · exact hi.R r c
      · exact hi.L r c
      · exact allT_mid hi.R r c
      · exact mid_zero
end

/-- Which way the law goes. -/
def way (x0 x1 m : Int) (ra : TT) (has : Bool) : W :=
  if 300 < m then .long
  else if x0 < 1 then .low
  else if 4096 < x0 then .high
  else bif has then (bif (qF x0 m ra).l then
      (if (qF x0 m ra).n = 0 then .none (decide (0 ≤ x1))
      else if x1 < 0 then .neg (decide ((pos x0 x1 m ra : Int) < (qF x0 m ra).n))
      else if (qF x0 m ra).n ≤ x1 then .over (decide ((pos x0 x1 m ra : Int) < (qF x0 m ra).n))
      else .at_ (decide ((pos x0 x1 m ra : Int) < (qF x0 m ra).n)))
    else .nil (decide (0 ≤ x1)))
  else .empty (decide (0 ≤ x1))
def okOf (x0 m : Int) : Bool := decide (m ≤ 300) && (decide (1 ≤ x0) && decide (x0 ≤ 4096))

section
variable {x0 x1 m : Int} {ra : TT} [F : Facts] [V : Vals]

theorem tab_row {a r c : Nat} (ok : Bool) (hV : V.env = envO x0 x1 m ra ok) (h1 : 32 ≤ a) (h2 : a < 64) (hc : c < 64) : (SE.tab a).row V.env (r : Int) c = tbO x0 m ra ok a r c := by
  show V.env (cellIx a (r : Int) c) = _
  rw [hV]
  exact envT_cell h1 h2 hc

theorem spA_ok (hV : V.env = envO x0 x1 m ra true) (h0 : 1 ≤ x0 ∧ x0 ≤ 4096) (hm : 0 ≤ m ∧ m ≤ 300) (hra : ∀ r c, In64 (ra r c)) {l : Bool} (hl : (qF x0 m ra).l = l) : LoopProof Try.prog [] (spA l) := by
  obtain ⟨S, hS⟩ : ∃ S, S = spA l := ⟨_, rfl⟩
  rw [← hS]
  have hf0 : ∀ i, S.f0v i = (([.var 0, .var 1, .var 2, .lit 0, .lit 0, .lit 0] : List SE)[i]?).getD (.var i) := fun i => by rw [hS]; rfl
  have hg0 : ∀ a, S.g0v a = (([.tab 32, .const (.lit 0), .const (.lit 0), .tab 35] : List SE)[a - 32]?).getD (.tab a) := fun a => by rw [hS]; rfl
  have hmid : ∀ j, In64 (V.env j) := V.mid
  have b0 : base S 0 = x0 := by rw [base_one (by decide), hf0]; show V.env 0 = _; rw [hV]; rfl
  have b2 : base S 2 = m := by rw [base_one (by decide), hf0]; show V.env 2 = _; rw [hV]; rfl
  have bt : ∀ (r c : Nat), c < 64 → base S (cellIx 32 (r : Int) c) = ra r c := fun r c hc => by
    rw [base_tab (by decide) (by decide) hc, hg0]
    exact tab_row true hV (by decide) (by decide) hc
  have ha : actsOf (base S) = aL x0 m ra := by
    unfold actsOf aL
    rw [b0, b2]
    congr 1
    · funext i; exact bt i 0 (by decide)
    · funext i; exact bt i 1 (by decide)
  have hst : rings.start S false = q0 := by
    unfold rings.start q0
    congr 1
    all_goals first | (rw [hf0]; rfl) | (funext r c; rw [hg0]; rfl)
  have e2 : (SE.var 2).eval V.env = m := by show V.env 2 = _; rw [hV]; rfl
  refine acts_proof actsA okA (fun _ _ => []) false l S hS (envT_mid (fun i => ?_) (fun a r c => ?_)) (by rw [ha, hst]; exact q0_inv h0 hm hra) (qF x0 m ra) (by rw [ha, hst, e2]; rfl) hl (by show V.env 12 = _; rw [hV]; rfl) (by show V.env 13 = _; rw [hV]; rfl) (fun r c hc => ?_) (fun r c hc => ?_)
  · split
    · rw [hf0]
      rcases i with _ | _ | _ | _ | _ | _ | i
      · exact hmid 0
      · exact hmid 1
      · exact hmid 2
      · exact mid_zero
      · exact mid_zero
      · exact mid_zero
      · omega
    · exact mid_zero
  · rw [hg0]
    by_cases h : a < 36
    · by_cases h' : 32 ≤ a
      · rcases (show a = 32 ∨ a = 33 ∨ a = 34 ∨ a = 35 by omega) with rfl | rfl | rfl | rfl
        · exact hmid _
        · exact mid_zero
        · exact mid_zero
        · exact hmid _
      · rw [show a - 32 = 0 by omega]
        exact hmid _
    · rw [List.getElem?_eq_none (by show 4 ≤ _; omega)]
      exact hmid _
  · exact tab_row true hV (by decide) (by decide) hc
  · exact tab_row true hV (by decide) (by decide) hc

theorem spAll_ok (hV : V.env = envO x0 x1 m ra true) (hx1 : In64 x1) (h0 : 1 ≤ x0 ∧ x0 ≤ 4096) (hm : 0 ≤ m ∧ m ≤ 300) (hra : ∀ r c, In64 (ra r c)) (hl : (qF x0 m ra).l = true) (hn0 : (qF x0 m ra).n ≠ 0) :
    ∀ S ∈ spAll (decide ((pos x0 x1 m ra : Int) < (qF x0 m ra).n)), LoopProof Try.prog [] S := by
  obtain ⟨hi, _⟩ := qF_inv h0 hm hra
  have hN : 1 ≤ x0 ∧ x0 ≤ 4096 := h0
  have hf : 0 ≤ (qF x0 m ra).f ∧ (qF x0 m ra).f < x0 := hi.f
  have hn : 0 ≤ (qF x0 m ra).n ∧ (qF x0 m ra).n ≤ x0 := hi.n
  have v0 : (SE.var 0).eval V.env = x0 := by show V.env 0 = _; rw [hV]; rfl
  have v1 : (SE.var 1).eval V.env = x1 := by show V.env 1 = _; rw [hV]; rfl
  have v12 : (SE.var 12).eval V.env = (qF x0 m ra).f := by show V.env 12 = _; rw [hV]; rfl
  have v13 : (SE.var 13).eval V.env = (qF x0 m ra).n := by show V.env 13 = _; rw [hV]; rfl
  have v14 : (SE.var 14).eval V.env = (pos x0 x1 m ra : Int) := by show V.env 14 = _; rw [hV]; rfl
  have t41 : ∀ r c : Nat, c < 64 → (SE.tab 41).row V.env (r : Int) c = (qF x0 m ra).R r c := fun r c hc => tab_row true hV (by decide) (by decide) hc
  have t42 : ∀ r c : Nat, c < 64 → (SE.tab 42).row V.env (r : Int) c = (qF x0 m ra).L r c := fun r c hc => tab_row true hV (by decide) (by decide) hc
  have t43 : ∀ r c : Nat, c < 64 → (SE.tab 43).row V.env (r : Int) c = allT (qF x0 m ra).f x0 (qF x0 m ra).R (qF x0 m ra).n r c := fun r c hc => tab_row true hV (by decide) (by decide) hc
  have m4 : ∀ a (r c : Nat), In64 ((SE.tab a).row V.env (r : Int) c) := fun a r c => V.mid _
  have hsame : ∀ i : Nat, (i : Int) < (qF x0 m ra).n → (qF x0 m ra).R ((((qF x0 m ra).f + i).tmod x0).toNat) 0 = (qF x0 m ra).L i 0 := fun i h => hi.same i h
  have fo := findI_ok (p := fun j => (qF x0 m ra).L j 0 == x1) (qF x0 m ra).n.toNat 0
  have pin := pos_in (x1 := x1) h0 hm hra
  have pat : (pos x0 x1 m ra : Int) < (qF x0 m ra).n → (qF x0 m ra).L (pos x0 x1 m ra) 0 = x1 := fun h => by
    have := fo.2.2.1 (by unfold pos at h; omega)
    simpa [pos] using this
  have pnot : ∀ j : Nat, (j : Int) < (pos x0 x1 m ra : Int) → (qF x0 m ra).L j 0 ≠ x1 := fun j h => by
    have := fo.2.2.2 j (Nat.zero_le _) (by unfold pos at h; omega)
    simpa using this
  have rowR : ∀ i : Int, 0 ≤ i → i < (qF x0 m ra).n → (SE.tab 41).row V.env (((qF x0 m ra).f + i).tmod x0) 0 = (qF x0 m ra).L i.toNat 0 := fun i k1 k2 => by
    have hpos := (modIn (f := (qF x0 m ra).f) (i := i) h0.1 (by omega)).1
    have := hsame i.toNat (by omega)
    rw [Int.toNat_of_nonneg k1] at this
    rw [← this, ← t41 _ 0 (by decide), Int.toNat_of_nonneg hpos]
  have rowL : ∀ i : Int, 0 ≤ i → (SE.tab 42).row V.env i 0 = (qF x0 m ra).L i.toNat 0 := fun i k1 => by
    rw [← t42 _ 0 (by decide), Int.toNat_of_nonneg k1]
  intro S hS
  simp only [spAll, List.mem_cons, List.not_mem_nil, or_false] at hS
  rcases hS with rfl | rfl | rfl | rfl | rfl
  · exact spA_ok hV h0 hm hra hl
  · refine AS_proof (by rw [v0]; exact hN) (by rw [v0, v12]; exact hf) (by rw [v0, v13]; omega) (fun r c => m4 _ _ _) (fun r c hc => ?_)
    rw [t43 r c hc, v12, v0, v13]
    unfold allT
    simp only [t41 _ 0 (show 0 < 64 by decide)]
  · refine IS_proof (by rw [v13]; omega) (fun r c => m4 _ _ _) (fun r c => m4 _ _ _) (fun s k1 k2 => ?_)
    rw [v13] at k2
    rw [rowL s k1, ← Int.toNat_of_nonneg k1, t43 _ 0 (by decide)]
    simp only [Int.toNat_natCast]
    unfold allT
    rw [if_pos ⟨by omega, rfl⟩]
    exact hsame s.toNat (by omega)
  · refine FR_proof (by rw [v0]; exact hN) (by rw [v0, v12]; exact hf) (by rw [v0, v13]; omega) (by rw [v1]; exact hx1) (fun r c => m4 _ _ _) (fun h => ?_) (fun j k1 k2 => ?_)
    · have h := of_decide_eq_true h
      rw [v14, v13, v12, v0, v1]
      refine ⟨by omega, h, ?_⟩
      rw [rowR _ (by omega) h]
      exact pat h
    · rw [v12, v0, v1]
      have hj : j < (pos x0 x1 m ra : Int) := by
        by_cases h : (pos x0 x1 m ra : Int) < (qF x0 m ra).n
        · rw [decide_eq_true h, cond_true, v14] at k2; exact k2
        · rw [decide_eq_false h, cond_false, v13] at k2; omega
      rw [rowR j k1 (by omega)]
      exact pnot j.toNat (by omega)
  · refine FM_proof (by rw [v13]; omega) (by rw [v1]; exact hx1) (fun r c => m4 _ _ _) (fun h => ?_) (fun j k1 k2 => ?_)
    · have h := of_decide_eq_true h
      rw [v14, v13, v1]
      refine ⟨by omega, h, ?_⟩
      rw [rowL _ (by omega)]
      exact pat h
    · rw [v1]
      have hj : j < (pos x0 x1 m ra : Int) := by
        by_cases h : (pos x0 x1 m ra : Int) < (qF x0 m ra).n
        · rw [decide_eq_true h, cond_true, v14] at k2; exact k2
        · rw [decide_eq_false h, cond_false, v13] at k2; omega
      rw [rowL j k1]
      exact pnot j.toNat (by omega)
end

section
variable {x0 x1 m : Int} {ra : TT}

theorem okOf_true (h : okOf x0 m = true) : m ≤ 300 ∧ 1 ≤ x0 ∧ x0 ≤ 4096 := by
  simp only [okOf, Bool.and_eq_true, decide_eq_true_eq] at h
  exact h

/-- The facts of the way hold. -/
theorem pc_ok (hx0 : In64 x0) (hx1 : In64 x1) (hm : 0 ≤ m) (hra : ∀ r c, In64 (ra r c)) {has : Bool} (hhas : has = false → m = 0) : ∀ p ∈ (way x0 x1 m ra has).pc, p.1.eval (envO x0 x1 m ra (okOf x0 m)) = p.2 := by
  unfold way
  by_cases c1 : 300 < m
  · rw [if_pos c1]
    intro p hp
    have hp : p ∈ [_] := hp
    simp only [List.mem_cons, List.not_mem_nil, or_false] at hp
    subst hp
    exact decide_eq_false (show ¬ m ≤ 300 by omega)
  rw [if_neg c1]
  by_cases c2 : x0 < 1
  · rw [if_pos c2]
    intro p hp
    have hp : p ∈ [_, _] := hp
    simp only [List.mem_cons, List.not_mem_nil, or_false] at hp
    rcases hp with rfl | rfl
    · exact decide_eq_true (show m ≤ 300 by omega)
    · exact decide_eq_false (show ¬ 1 ≤ x0 by omega)
  rw [if_neg c2]
  by_cases c3 : 4096 < x0
  · rw [if_pos c3]
    intro p hp
    have hp : p ∈ [_, _, _] := hp
    simp only [List.mem_cons, List.not_mem_nil, or_false] at hp
    rcases hp with rfl | rfl | rfl
    · exact decide_eq_true (show m ≤ 300 by omega)
    · exact decide_eq_true (show 1 ≤ x0 by omega)
    · exact decide_eq_false (show ¬ x0 ≤ 4096 by omega)
  rw [if_neg c3]
  have ok : okOf x0 m = true := by
    simp only [okOf, Bool.and_eq_true, decide_eq_true_eq]; omega
  rw [ok]
  have h0 : 1 ≤ x0 ∧ x0 ≤ 4096 := by omega
  have hm' : 0 ≤ m ∧ m ≤ 300 := by omega
  obtain ⟨hi, _⟩ := qF_inv h0 hm' hra
  have hf : 0 ≤ (qF x0 m ra).f ∧ (qF x0 m ra).f < x0 := hi.f
  have hn : 0 ≤ (qF x0 m ra).n ∧ (qF x0 m ra).n ≤ x0 := hi.n
  have pin := pos_in (x1 := x1) h0 hm' hra
  have hB : ∀ p ∈ pcB, p.1.eval (envO x0 x1 m ra true) = p.2 := fun p hp => by
    simp only [pcB, tt, List.mem_cons, List.not_mem_nil, or_false] at hp
    rcases hp with rfl | rfl | rfl | rfl | rfl | rfl | rfl | rfl | rfl | rfl | rfl
    · rfl
    · exact decide_eq_true hm
    · exact decide_eq_true hm'.2
    · exact decide_eq_true h0.1
    · exact decide_eq_true h0.2
    · exact decide_eq_true hf.1
    · exact decide_eq_true (show (qF x0 m ra).f ≤ x0 + -1 by omega)
    · exact decide_eq_true (show (qF x0 m ra).f ≤ 4095 by omega)
    · exact decide_eq_true hn.1
    · exact decide_eq_true hn.2
    · exact decide_eq_true (show (qF x0 m ra).n ≤ 4096 by omega)
  have h1 : ∀ d, decide (0 ≤ x1) = d → ∀ p ∈ [((.le (.lit 0) (.var 1) : SB), d)], p.1.eval (envO x0 x1 m ra true) = p.2 := fun d hd p hp => by
    simp only [List.mem_cons, List.not_mem_nil, or_false] at hp
    subst hp
    exact hd
  cases has with
  | false => rw [cond_false]; exact app hB (h1 _ rfl)
  | true =>
    rw [cond_true]
    cases hl : (qF x0 m ra).l with
    | false => rw [cond_false]; exact app hB (h1 _ rfl)
    | true =>
      rw [cond_true]
      by_cases c4 : (qF x0 m ra).n = 0
      · rw [if_pos c4]
        refine app hB (fun p hp => ?_)
        simp only [List.mem_cons, List.not_mem_nil, or_false] at hp
        rcases hp with rfl | rfl
        · exact decide_eq_true c4
        · rfl
      rw [if_neg c4]
      have hsome : ∀ p ∈ pcSome, p.1.eval (envO x0 x1 m ra true) = p.2 := fun p hp => by
        simp only [pcSome, List.mem_cons, List.not_mem_nil, or_false] at hp
        rcases hp with rfl | rfl
        · exact decide_eq_true (show 1 ≤ (qF x0 m ra).n by omega)
        · exact decide_eq_false c4
      have hfd : ∀ p ∈ pcFd (decide ((pos x0 x1 m ra : Int) < (qF x0 m ra).n)), p.1.eval (envO x0 x1 m ra true) = p.2 := fun p hp => by
        by_cases h : (pos x0 x1 m ra : Int) < (qF x0 m ra).n
        · rw [decide_eq_true h] at hp
          simp only [pcFd, cond_true, List.mem_cons, List.not_mem_nil, or_false] at hp
          rcases hp with rfl | rfl | rfl
          · exact decide_eq_true (show (0 : Int) ≤ (pos x0 x1 m ra : Int) by omega)
          · exact decide_eq_true (show (pos x0 x1 m ra : Int) ≤ (qF x0 m ra).n + -1 by omega)
          · exact decide_eq_true (show (pos x0 x1 m ra : Int) ≤ 4095 by omega)
        · rw [decide_eq_false h] at hp
          cases hp
      by_cases c5 : x1 < 0
      · rw [if_pos c5]
        refine app hB (app hsome (app hfd (fun p hp => ?_)))
        simp only [List.mem_cons, List.not_mem_nil, or_false] at hp
        subst hp
        exact decide_eq_false (show ¬ 0 ≤ x1 by omega)
      rw [if_neg c5]
      by_cases c6 : (qF x0 m ra).n ≤ x1
      · rw [if_pos c6]
        refine app hB (app hsome (app hfd (fun p hp => ?_)))
        simp only [List.mem_cons, List.not_mem_nil, or_false] at hp
        rcases hp with rfl | rfl
        · exact decide_eq_true (show 0 ≤ x1 by omega)
        · exact decide_eq_true c6
      rw [if_neg c6]
      refine app hB (app hsome (app hfd (fun p hp => ?_)))
      simp only [List.mem_cons, List.not_mem_nil, or_false] at hp
      rcases hp with rfl | rfl | rfl | rfl | rfl
      · exact decide_eq_true (show 0 ≤ x1 by omega)
      · exact decide_eq_false c6
      · exact decide_eq_true (show x1 ≤ 4095 by omega)
      · exact decide_eq_true (show x1 ≤ (qF x0 m ra).n + -1 by omega)
      · refine decide_eq_true ?_
        show envO x0 x1 m ra true (cellIx 41 (((qF x0 m ra).f + x1).tmod x0) 0) = envO x0 x1 m ra true (cellIx 42 x1 0)
        have hpos := (modIn (f := (qF x0 m ra).f) (i := x1) h0.1 (by omega)).1
        have e1 : envO x0 x1 m ra true (cellIx 41 (((((qF x0 m ra).f + x1).tmod x0).toNat : Nat) : Int) 0) = (qF x0 m ra).R (((qF x0 m ra).f + x1).tmod x0).toNat 0 := envT_cell (by decide) (by decide) (by decide)
        have e2 : envO x0 x1 m ra true (cellIx 42 ((x1.toNat : Nat) : Int) 0) = (qF x0 m ra).L x1.toNat 0 := envT_cell (by decide) (by decide) (by decide)
        rw [Int.toNat_of_nonneg hpos] at e1
        rw [Int.toNat_of_nonneg (by omega)] at e2
        rw [e1, e2]
        have := hi.same x1.toNat (by omega)
        unfold at' at this
        rw [Int.toNat_of_nonneg (by omega)] at this
        exact this
end

theorem specs_ok {x0 x1 m : Int} {ra : TT} [F : Facts] [V : Vals] (hV : V.env = envO x0 x1 m ra (okOf x0 m)) (hx1 : In64 x1) (hm : 0 ≤ m) (hra : ∀ r c, In64 (ra r c)) (has : Bool) :
    ∀ S ∈ (way x0 x1 m ra has).specs, LoopProof Try.prog [] S := by
  unfold way
  by_cases c1 : 300 < m
  · rw [if_pos c1]; intro S hS; cases hS
  rw [if_neg c1]
  by_cases c2 : x0 < 1
  · rw [if_pos c2]; intro S hS; cases hS
  rw [if_neg c2]
  by_cases c3 : 4096 < x0
  · rw [if_pos c3]; intro S hS; cases hS
  rw [if_neg c3]
  have ok : okOf x0 m = true := by
    simp only [okOf, Bool.and_eq_true, decide_eq_true_eq]; omega
  rw [ok] at hV
  have h0 : 1 ≤ x0 ∧ x0 ≤ 4096 := by omega
  have hm' : 0 ≤ m ∧ m ≤ 300 := by omega
  cases has with
  | false => rw [cond_false]; intro S hS; cases hS
  | true =>
    rw [cond_true]
    cases hl : (qF x0 m ra).l with
    | false =>
      rw [cond_false]
      intro S hS
      simp only [W.specs, List.mem_cons, List.not_mem_nil, or_false] at hS
      subst hS
      exact spA_ok hV h0 hm' hra hl
    | true =>
      rw [cond_true]
      by_cases c4 : (qF x0 m ra).n = 0
      · rw [if_pos c4]
        intro S hS
        simp only [W.specs, List.mem_cons, List.not_mem_nil, or_false] at hS
        subst hS
        exact spA_ok hV h0 hm' hra hl
      rw [if_neg c4]
      have := spAll_ok hV hx1 h0 hm' hra hl c4
      by_cases c5 : x1 < 0
      · rw [if_pos c5]; exact this
      rw [if_neg c5]
      by_cases c6 : (qF x0 m ra).n ≤ x1
      · rw [if_pos c6]; exact this
      · rw [if_neg c6]; exact this

/-- The run, also where there are no acts. -/
def W.early : W → Bool
  | .low | .high => true
  | _ => false
set_option maxRecDepth 1000000
theorem runE (k : W) (hk : k.early = true) : ((letI : Facts := ⟨k.pc⟩; letI := manyLoops Try.prog.globals.size [] k.specs; callN Try.prog cfgO 200 (.f 4) [.sx .i64 (.var 0), aArg false, .sx .i64 (.var 1)] (heap0 false)).every 1000000000 isTrue) = true := by
  rcases k with _ | _ | _ | d | d | d | d | d | d
  · cases hk
  · kernel_rfl
  · kernel_rfl
  all_goals cases hk

theorem runAll (x0 x1 m : Int) (ra : TT) {has : Bool} (hhas : has = false → m = 0) : ((letI : Facts := ⟨(way x0 x1 m ra has).pc⟩; letI := manyLoops Try.prog.globals.size [] (way x0 x1 m ra has).specs; callN Try.prog cfgO 200 (.f 4) [.sx .i64 (.var 0), aArg has, .sx .i64 (.var 1)] (heap0 has)).every 1000000000 isTrue) = true := by
  cases has with
  | true =>
    have : (way x0 x1 m ra true).has = true := by
      unfold way
      rw [cond_true]
      cases (qF x0 m ra).l
      · rw [cond_false]
        repeat' split
        all_goals rfl
      · rw [cond_true]
        repeat' split
        all_goals rfl
    have h := runW (way x0 x1 m ra true)
    rw [this] at h
    exact h
  | false =>
    have hm := hhas rfl
    have : (way x0 x1 m ra false).early = true ∨ ∃ d, way x0 x1 m ra false = .empty d := by
      unfold way
      rw [if_neg (by omega), cond_false]
      repeat' split
      · exact .inl rfl
      · exact .inl rfl
      · exact .inr ⟨_, rfl⟩
    rcases this with h | ⟨d, h⟩
    · exact runE _ h
    · rw [h]; exact runW (.empty d)

theorem walkG {x0 x1 m : Int} {ra : TT} {has : Bool} (h0 : In64 x0) (h1 : In64 x1) (h2 : 0 ≤ m ∧ In64 m) (hra : ∀ r c, In64 (ra r c)) (hhas : has = false → m = 0)
    {w : World} {φ : Phi} {v1 : Value} (hrw : ∀ q : Other, q.V.env = envO x0 x1 m ra (okOf x0 m) → @RW q.F q.V φ w.heap.size (heap0 has) w) (hf : Free φ (heap0 has).n 1000000000) (hg : GOk Try.prog φ)
    (hx : ∀ q : Other, q.V.env = envO x0 x1 m ra (okOf x0 m) → @RL q.F q.V φ [.sx .i64 (.var 0), aArg has, .sx .i64 (.var 1)] [.int .i64 x0, v1, .int .i64 x1]) :
    Calls Try.prog 4 #[.int .i64 x0, v1, .int .i64 x1] w fun e w' => e = .returned (.bool true) ∧ RowKit.Below w.heap.size w w' := by
  letI Fa : Facts := ⟨(way x0 x1 m ra has).pc⟩
  letI Va : Vals := ⟨envO x0 x1 m ra (okOf x0 m), pc_ok h0 h1 h2.1 hra hhas, envO_mid h0 h1 h2.2 hra (fun h => by have := okOf_true h; omega)⟩
  letI := manyLoops Try.prog.globals.size [] (way x0 x1 m ra has).specs
  have sp := specs_ok (V := Va) (x0 := x0) (x1 := x1) (m := m) (ra := ra) rfl h1 h2.1 hra has
  letI := manyLoops_tame sp
  have hk : KnownOK Try.prog w.heap.size cfgO :=
    know_ok (g := 7) (n := 200) (N := 1000000000) (fuel := 100000) (tabs := []) (fun B => manyLoops_ok sp B) (fun _ _ h => region_any h) (fun p hp => by cases hp) run_lives cfgO rfl _
  have hrun := runAll x0 x1 m ra hhas
  have hrw := hrw ⟨Fa, Va⟩ rfl
  have hx := hx ⟨Fa, Va⟩ rfl
  revert hrw hf hrun
  generalize heap0 has = s
  intro hf hrun hrw
  exact calls_from (cfg := cfgO) hk (fun _ h => region_any h) hrw hf hg hx hrun

noncomputable abbrev G : Nat := Try.prog.globals.size
/-- The acts that came in: none, or rows of two numbers. -/
def ActsIs (w : World) (v : Value) (e : Bool) (len : Int) (row : Nat → Nat → Int) : Prop :=
  bif e then ∃ (b o l cap : Nat) (arr : Array Value) (el : TypeId) (fz : Nat × Nat), v = .slice (some ⟨b, o, none⟩) l cap ∧ len = l ∧ l ≤ cap ∧ w.heap[b]? = some (.cells arr el fz) ∧ o + l * 2 ≤ arr.size ∧ ∀ (r c : Nat) (k' : CK), r < l → [CK.i .i64, CK.i .i64][c]? = some k' → ∃ x, arr[o + (r * 2 + c)]? = some x ∧ CKv k' (row r c) x
  else len = 0 ∧ ∃ p c, v = .slice p 0 c

theorem start0 (q : Other) (w : World) : @RW q.F q.V (phi0 G) w.heap.size (startL G []) w := @start_rw' q.F q.V G _ [] w (fun p hp => by cases hp)

theorem phi0_none {b : Nat} (h : G ≤ b) : phi0 G b = none := by
  unfold phi0
  rw [if_neg (by omega)]

theorem put_other {φ : Phi} {b c : Nat} {a : Lc} (h : c ≠ b) : (φ.put b a) c = φ c := by
  unfold Phi.put
  rw [if_neg h]

theorem add_tab {q : Other} {φ : Phi} {s : HS} {w : World} {a : Lc} {x : Blk} (h : @RW q.F q.V φ w.heap.size s w) (hf : φ s.n = none) (hb : @RB q.F q.V φ w a x) (hx : x.fixed = true) (hy : ∀ c t y, s.h.get c = some (t, y) → y.fixed = true) : @RW q.F q.V (φ.put s.n a) w.heap.size (Abs.addB s x) w :=
  @RW.add q.F q.V φ w.heap.size s w h a x hf hb (fun h => by rw [hx] at h; cases h) (fun c t y a' e hy' => by rw [hy c t y e] at hy'; cases hy')

/-- A slice of acts is a table. -/
theorem acts_rb {w : World} {φ : Phi} {b o l cap : Nat} {arr : Array Value} {el : TypeId} {fz : Nat × Nat} {row : Nat → Nat → Int} {t : Nat} {n : SE} (q : Other) (ha : w.heap[b]? = some (.cells arr el fz)) (hs : o + l * 2 ≤ arr.size)
    (hr : ∀ (r c : Nat) (k' : CK), r < l → [CK.i .i64, CK.i .i64][c]? = some k' → ∃ x, arr[o + (r * 2 + c)]? = some x ∧ CKv k' (row r c) x) (hn : n.eval q.V.env = l) (hrow : ∀ r c : Nat, c < 2 → q.V.env (cellIx t (r : Int) c) = row r c) :
    @RB q.F q.V φ w ⟨b, o, cap⟩ (.arr [.i .i64, .i .i64] (.tab t) n true) :=
  @rows_rb q.F q.V φ w b o l [.i .i64, .i .i64] row arr el fz (.tab t) n cap ha hs hr hn (fun r c hc => hrow r c hc)

theorem walk {e : Bool} {x0 x1 m : Int} {ra : TT} (h0 : In64 x0) (h1 : In64 x1) (h2 : 0 ≤ m ∧ m ≤ 9223372036854775807) (hra : ∀ r c, In64 (ra r c)) {w : World} {v1 : Value} (s1 : ActsIs w v1 e m ra) :
    Calls Try.prog 4 #[.int .i64 x0, v1, .int .i64 x1] w fun e w' => e = .returned (.bool true) ∧ RowKit.Below w.heap.size w w' := by
  have hm : 0 ≤ m ∧ In64 m := ⟨h2.1, by unfold In64; omega⟩
  have env2 : ∀ q : Other, q.V.env = envO x0 x1 m ra (okOf x0 m) → q.V.env 2 = m := fun q h => by rw [h]; rfl
  have x0ok : ∀ (q : Other) (φ : Phi), q.V.env = envO x0 x1 m ra (okOf x0 m) → @RV q.F q.V φ (.sx .i64 (.var 0)) (.int .i64 x0) := fun q φ hq => @RV.sx q.F q.V φ _ _ _ (by show q.V.env 0 = x0; rw [hq]; rfl)
  have x1ok : ∀ (q : Other) (φ : Phi), q.V.env = envO x0 x1 m ra (okOf x0 m) → @RV q.F q.V φ (.sx .i64 (.var 1)) (.int .i64 x1) := fun q φ hq => @RV.sx q.F q.V φ _ _ _ (by show q.V.env 1 = x1; rw [hq]; rfl)
  have gl : ∀ (φ : Phi), (∀ b, b < G → φ b = phi0 G b) → GOk Try.prog φ := fun φ h g hg => by
    have hg : g < G := hg
    rw [h g hg]
    unfold phi0
    rw [if_pos hg]
  cases e with
  | false =>
    obtain ⟨hl0, p, c, rfl⟩ := s1
    exact walkG (has := false) (φ := phi0 G) h0 h1 hm hra (fun _ => hl0) (fun q hq => start0 q w) (fun b hb _ => phi0_none hb) (gl _ fun _ _ => rfl) (fun q hq => @RL.cons q.F q.V _ _ _ _ _ (x0ok q _ hq) (@RL.cons q.F q.V _ _ _ _ _ (@RV.so q.F q.V _ _ _ _ _ rfl) (@RL.cons q.F q.V _ _ _ _ _ (x1ok q _ hq) (@RL.nil q.F q.V _))))
  | true =>
    obtain ⟨b, o, l, cap, arr, e, fz, rfl, hlt, hcap, ha, hs, hr⟩ := s1
    refine walkG (has := true) (φ := (phi0 G).put G ⟨b, o, cap⟩) h0 h1 hm hra (fun h => by cases h) (fun q hq => add_tab (start0 q w) (phi0_none (Nat.le_refl _)) (acts_rb q ha hs hr ((env2 q hq).trans hlt) (fun r c hc => ?_)) rfl (fun c t y e => by obtain ⟨p, hp, _⟩ := startL_get e; cases hp)) (fun c hc _ => ?_) (gl _ fun c hc => put_other (by omega)) (fun q hq => ?_)
    · rw [hq]
      exact envT_cell (by decide) (by decide) (by omega)
    · have hc : G + 1 ≤ c := hc
      rw [put_other (by omega), phi0_none (by omega)]
    · exact @RL.cons q.F q.V _ _ _ _ _ (x0ok q _ hq) (@RL.cons q.F q.V _ _ _ _ _ (@RV.ss q.F q.V _ _ _ _ _ _ _ _ _ _ (Phi.put_self _ _ _) rfl ((env2 q hq).trans hlt) ⟨hcap, Nat.le_of_eq (Nat.zero_add _)⟩ (fun _ => by simp)) (@RL.cons q.F q.V _ _ _ _ _ (x1ok q _ hq) (@RL.nil q.F q.V _)))
end
end Go.Proofs.Ytlbehjagidopkaa.ringActs
