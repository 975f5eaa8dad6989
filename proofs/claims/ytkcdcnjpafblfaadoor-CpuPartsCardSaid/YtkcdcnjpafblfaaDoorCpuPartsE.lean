/- What the loops of the law come to, told of their numbers. Conditions: those that each theorem names. -/
import Derived.Test.YtkcdcnjpafblfaaDoorCpuPartsD
open Go
namespace Go.Proofs.YtkcdcnjpafblfaaDoor.cpuParts
noncomputable section
open Go.Abs Go.Proofs.YtkcdcnjpafblfaaDoor.cpuParts.loops

theorem call0_ok (F : Facts) (V : @Vals F) (B : Nat) : @CallOK F V Tryd.prog B (call0 F) :=
  letI := noLoops
  callN_ok ⟨noLoops_ok, fun _ _ e => by cases e⟩ (fun _ h => region_any h) 60
theorem idxRnd (B : Nat) (pc : List (SB × Bool)) (env : Nat → Int) : Rnd Tryd.prog B pc env noLoops (call0 ⟨pc⟩) :=
  ⟨fun _ _ => noTame, fun V _ => @noLoops_ok ⟨pc⟩ V _ _, fun V _ => call0_ok ⟨pc⟩ V B⟩
noncomputable def idxRun : List (SB × Bool) → R (Ex × St) := (idx G idxT).run Tryd.prog isTab 100000 (body 36 3) (fun _ => noLoops) call0
theorem idxChk : (idx G idxT).tree.check ((idx G idxT).leaf Tryd.prog.globals.size Nn idxRun) (idx G idxT).pc = true := idxT_ok
theorem idxFine' : (idx G idxT).fine () = true := idxFine
noncomputable def idxAt (env : Nat → Int) : Nat → Int := intoEnv (idxSpec G .leaf true).f0v (idxSpec G .leaf true).g0v env
noncomputable def idxIt (env : Nat → Int) : Option (Ex × (Nat → Int)) := (idx G idxT).iter Tryd.prog.globals.size Nn idxRun 82 (idxAt env)

theorem zeros_get {i : Nat} : ∀ {n j : Nat}, j < n → (zeros i n)[j]? = some (.lit 0) := by
  intro n
  induction n with
  | zero => intro j h; omega
  | succ n ih =>
    intro j h
    cases j with
    | zero => rfl
    | succ j => exact ih (by omega)
theorem zeros_length {i : Nat} : ∀ {n : Nat}, (zeros i n).length = n := by
  intro n
  induction n with
  | zero => rfl
  | succ n ih => simp only [zeros, List.length_cons, ih]

theorem idxAt_eq (env : Nat → Int) (j : Nat) : idxAt env j = if j = 0 then env 0 else if j < 32 then 0 else env j := by
  unfold idxAt intoEnv
  by_cases h : j % 64 < 32
  · rw [if_pos h]
    show (((SE.var 0 :: zeros 0 31)[j]?).getD (.var j)).eval env = _
    cases j with
    | zero => rfl
    | succ j =>
      rw [if_neg (by omega), List.getElem?_cons_succ]
      by_cases hj : j < 31
      · rw [zeros_get hj, if_pos (by omega)]; rfl
      · rw [List.getElem?_eq_none (by rw [zeros_length]; omega), if_neg (by omega)]; rfl
  · rw [if_neg h, if_neg (by omega), if_neg (by omega)]
    exact tab_at h

theorem idxAt_congr {env env' : Nat → Int} (h0 : env 0 = env' 0) (h : ∀ j, 32 ≤ j → env j = env' j) : idxAt env = idxAt env' := by
  funext j
  rw [idxAt_eq, idxAt_eq]
  split
  · exact h0
  · split
    · rfl
    · exact h j (by omega)

theorem idxAt_mid {env : Nat → Int} (hm : ∀ j, In64 (env j)) (j : Nat) : In64 (idxAt env j) := by
  rw [idxAt_eq]
  split
  · exact hm 0
  · split
    · exact mid_zero
    · exact hm j

theorem idxAt_pc {env : Nat → Int} (h0 : 0 ≤ env 0 ∧ env 0 ≤ 80) : ∀ p ∈ (idx G idxT).pc, p.1.eval (idxAt env) = p.2 := by
  have e0 : idxAt env 0 = env 0 := by rw [idxAt_eq]; rfl
  have e1 : idxAt env 1 = 0 := by rw [idxAt_eq]; rfl
  intro p hp
  simp only [idx, pcLen, List.cons_append, List.nil_append, List.mem_cons, List.not_mem_nil, or_false] at hp
  rcases hp with rfl | rfl | rfl | rfl | rfl
  · exact decide_eq_true (show (0 : Int) ≤ idxAt env 0 by omega)
  · exact decide_eq_true (show idxAt env 0 ≤ (80 : Int) by omega)
  · exact decide_eq_true (show (0 : Int) ≤ idxAt env 1 by omega)
  · exact decide_eq_true (show idxAt env 1 ≤ idxAt env 0 by omega)
  · exact decide_eq_true (show idxAt env 1 ≤ (80 : Int) by omega)

/-- Whether the program is whole: what the search comes to. -/
theorem idx_all {env : Nat → Int} (hm : ∀ j, In64 (env j)) (h0 : 0 ≤ env 0 ∧ env 0 ≤ 80) :
    ∃ wh env1, idxIt env = some (bif wh then .exit 0 else .ret, env1) ∧ (wh = false → 0 ≤ env1 1) ∧ (∀ j, j ≠ 1 → env1 j = idxAt env j) ∧ ∀ j, In64 (env1 j) := by
  obtain ⟨e, env1, hi⟩ := auto_ends (idx G idxT) idxFine' idxChk 81 (idxAt env) (idxAt_mid hm) (idxAt_pc h0) (by
    show idxAt env 0 - idxAt env 1 < 81
    rw [idxAt_eq, idxAt_eq]
    show env 0 - 0 < 81
    omega)
  obtain ⟨k1, k2, k3⟩ := auto_mid (idx G idxT) idxFine' idxChk _ _ (idxAt_mid hm) (idxAt_pc h0) _ _ hi
  obtain ⟨c, p, q1, q2, q3, q4, q5, q6⟩ := auto_last (idx G idxT) idxFine' idxChk _ _ (idxAt_mid hm) (idxAt_pc h0) _ _ hi
  obtain ⟨c', r1, _, _, _, _, _, r7⟩ := auto_step (idx G idxT) idxFine' idxChk q4 q5
  rw [q1] at r1; cases r1
  have hu : ∀ j, j ≠ 1 → env1 j = idxAt env j := fun j hj => k3 j (fun h => by have h1 : 1 ≤ j := h.1; have h2 : j < 2 := h.2; omega)
  have r7 : moreIdx ⟨c.pc⟩ c = true := r7
  unfold moreIdx at r7
  cases he : c.e with
  | normal => rw [q2] at he; exact (k1 he).elim
  | exit i =>
    rw [he] at r7
    have := natBeq r7
    subst this
    rw [q2] at he
    subst he
    exact ⟨true, env1, hi, (fun h => by cases h), hu, k2⟩
  | ret =>
    rw [he] at r7
    rw [q2] at he
    subst he
    refine ⟨false, env1, hi, fun _ => ?_, hu, k2⟩
    rw [q3, next_at (by omega) (beqAt_ok r7)]
    have := q5 (.le (.lit 0) (.var 1), true) (by simp [idx, pcLen])
    exact of_decide_eq_true this

/-- The program is whole, or is not; number 20 tells where. -/
def Wh (env : Nat → Int) (wh : Bool) : Prop := ∃ env1, idxIt env = some (bif wh then .exit 0 else .ret, env1) ∧ (∀ j, j ≠ 1 → env1 j = idxAt env j) ∧ env 20 = env1 1
theorem Wh.congr {env env' : Nat → Int} {wh : Bool} (h0 : env 0 = env' 0) (h : ∀ j, 32 ≤ j → env j = env' j) (h20 : env 20 = env' 20) (hw : Wh env wh) : Wh env' wh := by
  obtain ⟨e1, k1, k2, k3⟩ := hw
  have e := idxAt_congr h0 h
  refine ⟨e1, ?_, by rw [← e]; exact k2, h20.symm.trans k3⟩
  unfold idxIt at k1 ⊢
  rw [← e]; exact k1

theorem idx_proof [F : Facts] [V : Vals] {wh : Bool} (h0 : 0 ≤ V.env 0 ∧ V.env 0 ≤ 80) (h : Wh V.env wh) : LoopProof Tryd.prog isTab (idxSpec G .leaf wh) := by
  obtain ⟨env1, k1, k2, k3⟩ := h
  have henv : intoEnv (idxSpec G .leaf wh).f0v (idxSpec G .leaf wh).g0v V.env = idxAt V.env := rfl
  refine auto_loop (N := Nn) (fuel := 100000) (b0 := body 36 3) (n := 2) (fx := [true, false]) (Lo := fun _ => noLoops) (call := call0) (μ := 82) (idx G idxT) (idxSpec G .leaf wh) ⟨rfl, rfl, rfl, rfl⟩ tab_lt isIdx idxFine' idxChk ⟨rfl, rfl⟩ ⟨rfl, rfl⟩ ⟨rfl, rfl⟩ (idxGood wh) (by show (SE.var 0 :: zeros 0 31).length ≤ 32; simp [zeros_length]) (by show 0 ≤ 32; omega) (fun _ => True) (fun _ _ _ _ => trivial)
    (fun B pc env _ _ _ => idxRnd B pc env) henv (idxAt_mid V.mid) (idxAt_pc h0) trivial k1 ?_
  have ag : AgreeN 32 32 env1 (intoEnv (fun i => (([SE.var 0, .var 20] ++ zeros 0 30)[i]?).getD (.var i)) (fun a => (([] : List SE)[a - 32]?).getD (.tab a)) V.env) := by
    refine ⟨fun i hi => ?_, fun a r c h1 h2 h3 => ?_⟩
    · rw [intoEnv_one hi]
      rcases i with _ | _ | i
      · rw [k2 0 (by decide), idxAt_eq]; rfl
      · exact k3.symm
      · rw [k2 (i + 2) (by omega), idxAt_eq, if_neg (by omega), if_pos hi]
        show 0 = (((zeros 0 30)[i]?).getD (.var (i + 2))).eval V.env
        rw [zeros_get (by omega)]; rfl
    · rw [intoEnv_cell h1 h2 h3, k2 _ (by unfold cellIx; omega), idxAt_eq, if_neg (by unfold cellIx; omega), if_neg (by unfold cellIx; omega)]
      rfl
  cases wh
  · exact ⟨0, _, rfl, rfl, rfl, (by show ([SE.var 0, .var 20] ++ zeros 0 30).length ≤ 32; simp [zeros_length]), Nat.zero_le _, ag⟩
  · exact ⟨0, _, rfl, rfl, rfl, (by show ([SE.var 0, .var 20] ++ zeros 0 30).length ≤ 32; simp [zeros_length]), Nat.zero_le _, ag⟩

def JR (wh : Bool) (env : Nat → Int) : Prop := (0 ≤ env 0 ∧ env 0 ≤ 80) ∧ Wh env wh
theorem runRnd {wh : Bool} (B : Nat) (pc : List (SB × Bool)) (env : Nat → Int) (hJ : JR wh env) : Rnd Tryd.prog B pc env (loR wh ⟨pc⟩) (callR wh ⟨pc⟩) := by
  have hp : ∀ V : @Vals ⟨pc⟩, V.env = env → ∀ S ∈ [idxSpec G .leaf wh], @LoopProof ⟨pc⟩ V Tryd.prog isTab S := fun V hV S hS => by
    rw [List.mem_singleton] at hS
    subst hS
    exact @idx_proof ⟨pc⟩ V wh (by rw [hV]; exact hJ.1) (by rw [hV]; exact hJ.2)
  refine ⟨fun V hV => @manyLoops_tame Tryd.prog isTab ⟨pc⟩ V _ (hp V hV), fun V hV => @manyLoops_ok Tryd.prog isTab ⟨pc⟩ V _ (hp V hV) B, fun V hV => ?_⟩
  have ht : @TameL (loR wh ⟨pc⟩) := @manyLoops_tame Tryd.prog isTab ⟨pc⟩ V _ (hp V hV)
  have hl : @LoopsOK ⟨pc⟩ V (loR wh ⟨pc⟩) Tryd.prog B := @manyLoops_ok Tryd.prog isTab ⟨pc⟩ V _ (hp V hV) B
  exact @callN_ok ⟨pc⟩ V Tryd.prog B (loR wh ⟨pc⟩) ht (cfg0 100000) ⟨hl, fun _ _ e => by cases e⟩ (fun _ h => @region_any ⟨pc⟩ V _ _ _ h) 60

theorem run_proof [F : Facts] [V : Vals] {wh : Bool} {f0 : List SE} {o : LoopEnd} {E env1 : Nat → Int} {μ : Nat} {e : Ex} (hf0 : f0.length = 19) (hgood : (runSpec G f0 o).good Tryd.prog.globals.size 4 = true)
    (henv : intoEnv (runSpec G f0 o).f0v (runSpec G f0 o).g0v V.env = E) (hb : Base wh E) (hJ : JR wh E) (hit : (runA G wh (runY wh)).iter G Nn (runR wh) μ E = some (e, env1)) (hend : EndsBy (runSpec G f0 o) 19 32 e (toOf e) env1 o) : LoopProof Tryd.prog isTab (runSpec G f0 o) :=
  auto_loop (N := Nn) (fuel := 100000) (b0 := body 9 3) (n := 4) (fx := [true, false, false, false]) (Lo := loR wh) (call := callR wh) (runA G wh (runY wh)) (runSpec G f0 o) ⟨rfl, rfl, rfl, rfl⟩ tab_lt isRun (runTree wh).fine (runTree wh).chk' ⟨rfl, rfl⟩ ⟨rfl, rfl⟩ ⟨rfl, rfl⟩ hgood
    (by show f0.length ≤ 19; omega) (by show noTabs.length ≤ 32; decide) (JR wh) (fun env env' h hJ => by
      have e : ∀ j, (j < 2 ∨ 19 ≤ j) → env' j = env j := fun j hj => h j (fun hh => by have h1 : 2 ≤ j := hh.1; have h2 : j < 19 := hh.2; omega)
      exact ⟨by rw [e 0 (by omega)]; exact hJ.1, hJ.2.congr (e 0 (by omega)).symm (fun j hj => (e j (by omega)).symm) (e 20 (by omega)).symm⟩)
    (fun B pc env hJ _ _ => runRnd B pc env hJ) henv hb.1 hb.2 hJ hit ⟨0, o, rfl, hend⟩
end
end Go.Proofs.YtkcdcnjpafblfaaDoor.cpuParts
