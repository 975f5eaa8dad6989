/- What the loops of the law come to, told of their numbers. Conditions: those that each theorem names. -/
import Derived.Test.YtkcdcnjpafblfaaDoorCpuNearD
open Go
namespace Go.Proofs.YtkcdcnjpafblfaaDoor.cpuNear
noncomputable section
open Go.Abs Go.Proofs.YtkcdcnjpafblfaaDoor.cpuNear.loops

theorem call0_ok (F : Facts) (V : @Vals F) (B : Nat) : @CallOK F V Tryd.prog B (call0 F) :=
  letI := noLoops
  callN_ok ⟨noLoops_ok, fun _ _ e => by cases e⟩ (fun _ h => region_any h) 60
theorem idxRnd (B : Nat) (pc : List (SB × Bool)) (env : Nat → Int) : Rnd Tryd.prog B pc env noLoops (call0 ⟨pc⟩) :=
  ⟨fun _ _ => noTame, fun V _ => @noLoops_ok ⟨pc⟩ V _ _, fun V _ => call0_ok ⟨pc⟩ V B⟩
noncomputable def idxRun : List (SB × Bool) → R (Ex × St) := (idx G idxT).run Tryd.prog isTab 100000 (body 36 3) (fun _ => noLoops) call0
theorem idxChk : (idx G idxT).tree.check ((idx G idxT).leaf Tryd.prog.globals.size Nn idxRun) (idx G idxT).pc = true := idxT_ok
theorem idxFine' : (idx G idxT).fine () = true := idxFine
noncomputable def idxAt (env : Nat → Int) : Nat → Int := intoEnv (idxSpec G .leaf true).f0v (idxSpec G .leaf true).g0v env
noncomputable def idxIt (env : Nat → Int) : Option (Ex × (Nat → Int)) := (idx G idxT).iter Tryd.prog.globals.size Nn idxRun 82 (idxAt env)

theorem zeros_get {i : Nat} : ∀ {n j : Nat}, j < n → (zeros i n)[j]? = some (.lit 0) := by
  intro n
  induction n with
  | zero => intro j h; omega
  | succ n ih =>
    intro j h
    cases j with
    | zero => rfl
    | succ j => exact ih (by omega)
theorem zeros_length {i : Nat} : ∀ {n : Nat}, (zeros i n).length = n := by
  intro n
  induction n with
  | zero => rfl
  | succ n ih => simp only [zeros, List.length_cons, ih]

theorem idxAt_eq (env : Nat → Int) (j : Nat) : idxAt env j = if j = 0 then env 0 else if j < 32 then 0 else env j := by
  unfold idxAt intoEnv
  by_cases h : j % 64 < 32
  · rw [if_pos h]
    show (((SE.var 0 :: zeros 0 31)[j]?).getD (.var j)).eval env = _
    cases j with
    | zero => rfl
    | succ j =>
      rw [if_neg (by omega), List.getElem?_cons_succ]
      by_cases hj : j < 31
      · rw [zeros_get hj, if_pos (by omega)]; rfl
      · rw [List.getElem?_eq_none (by rw [zeros_length]; omega), if_neg (by omega)]; rfl
  · rw [if_neg h, if_neg (by omega), if_neg (by omega)]
    exact tab_at h

theorem idxAt_congr {env env' : Nat → Int} (h0 : env 0 = env' 0) (h : ∀ j, 32 ≤ j → env j = env' j) : idxAt env = idxAt env' := by
  funext j
  rw [idxAt_eq, idxAt_eq]
  split
  · exact h0
  · split
    · rfl
    · exact h j (by omega)

theorem idxAt_mid {env : Nat → Int} (hm : ∀ j, In64 (env j)) (j : Nat) : In64 (idxAt env j) := by
  rw [idxAt_eq]
  split
  · exact hm 0
  · split
    · exact mid_zero
    · exact hm j

theorem idxAt_pc {env : Nat → Int} (h0 : 0 ≤ env 0 ∧ env 0 ≤ 80) : ∀ p ∈ (idx G idxT).pc, p.1.eval (idxAt env) = p.2 := by
  have e0 : idxAt env 0 = env 0 := by rw [idxAt_eq]; rfl
  have e1 : idxAt env 1 = 0 := by rw [idxAt_eq]; rfl
  intro p hp
  simp only [idx, pcLen, List.cons_append, List.nil_append, List.mem_cons, List.not_mem_nil, or_false] at hp
  rcases hp with rfl | rfl | rfl | rfl | rfl
  · exact decide_eq_true (show (0 : Int) ≤ idxAt env 0 by omega)
  · exact decide_eq_true (show idxAt env 0 ≤ (80 : Int) by omega)
  · exact decide_eq_true (show (0 : Int) ≤ idxAt env 1 by omega)
  · exact decide_eq_true (show idxAt env 1 ≤ idxAt env 0 by omega)
  · exact decide_eq_true (show idxAt env 1 ≤ (80 : Int) by omega)

/-- Whether the program is whole: what the search comes to. -/
theorem idx_all {env : Nat → Int} (hm : ∀ j, In64 (env j)) (h0 : 0 ≤ env 0 ∧ env 0 ≤ 80) :
    ∃ wh env1, idxIt env = some (bif wh then .exit 0 else .ret, env1) ∧ (wh = false → 0 ≤ env1 1) ∧ (∀ j, j ≠ 1 → env1 j = idxAt env j) ∧ ∀ j, In64 (env1 j) := by
  obtain ⟨e, env1, hi⟩ := auto_ends (idx G idxT) idxFine' idxChk 81 (idxAt env) (idxAt_mid hm) (idxAt_pc h0) (by
    show idxAt env 0 - idxAt env 1 < 81
    rw [idxAt_eq, idxAt_eq]
    show env 0 - 0 < 81
    omega)
  obtain ⟨k1, k2, k3⟩ := auto_mid (idx G idxT) idxFine' idxChk _ _ (idxAt_mid hm) (idxAt_pc h0) _ _ hi
  obtain ⟨c, p, q1, q2, q3, q4, q5, q6⟩ := auto_last (idx G idxT) idxFine' idxChk _ _ (idxAt_mid hm) (idxAt_pc h0) _ _ hi
  obtain ⟨c', r1, _, _, _, _, _, r7⟩ := auto_step (idx G idxT) idxFine' idxChk q4 q5
  rw [q1] at r1; cases r1
  have hu : ∀ j, j ≠ 1 → env1 j = idxAt env j := fun j hj => k3 j (fun h => by have h1 : 1 ≤ j := h.1; have h2 : j < 2 := h.2; omega)
  have r7 : moreIdx ⟨c.pc⟩ c = true := r7
  unfold moreIdx at r7
  cases he : c.e with
  | normal => rw [q2] at he; exact (k1 he).elim
  | exit i =>
    rw [he] at r7
    have := natBeq r7
    subst this
    rw [q2] at he
    subst he
    exact ⟨true, env1, hi, (fun h => by cases h), hu, k2⟩
  | ret =>
    rw [he] at r7
    rw [q2] at he
    subst he
    refine ⟨false, env1, hi, fun _ => ?_, hu, k2⟩
    rw [q3, next_at (by omega) (beqAt_ok r7)]
    have := q5 (.le (.lit 0) (.var 1), true) (by simp [idx, pcLen])
    exact of_decide_eq_true this

/-- The program is whole, or is not; number 20 tells where. -/
def Wh (env : Nat → Int) (wh : Bool) : Prop := ∃ env1, idxIt env = some (bif wh then .exit 0 else .ret, env1) ∧ (∀ j, j ≠ 1 → env1 j = idxAt env j) ∧ env 20 = env1 1
theorem Wh.congr {env env' : Nat → Int} {wh : Bool} (h0 : env 0 = env' 0) (h : ∀ j, 32 ≤ j → env j = env' j) (h20 : env 20 = env' 20) (hw : Wh env wh) : Wh env' wh := by
  obtain ⟨e1, k1, k2, k3⟩ := hw
  have e := idxAt_congr h0 h
  refine ⟨e1, ?_, by rw [← e]; exact k2, h20.symm.trans k3⟩
  unfold idxIt at k1 ⊢
  rw [← e]; exact k1

theorem idx_proof [F : Facts] [V : Vals] {wh : Bool} (h0 : 0 ≤ V.env 0 ∧ V.env 0 ≤ 80) (h : Wh V.env wh) : LoopProof Tryd.prog isTab (idxSpec G .leaf wh) := by
  obtain ⟨env1, k1, k2, k3⟩ := h
  have henv : intoEnv (idxSpec G .leaf wh).f0v (idxSpec G .leaf wh).g0v V.env = idxAt V.env := rfl
  refine auto_loop (N := Nn) (fuel := 100000) (b0 := body 36 3) (n := 2) (fx := [true, false]) (Lo := fun _ => noLoops) (call := call0) (μ := 82) (idx G idxT) (idxSpec G .leaf wh) ⟨rfl, rfl, rfl, rfl⟩ tab_lt isIdx idxFine' idxChk ⟨rfl, rfl⟩ ⟨rfl, rfl⟩ ⟨rfl, rfl⟩ (idxGood wh) (by show (SE.var 0 :: zeros 0 31).length ≤ 32; simp [zeros_length]) (by show 0 ≤ 32; omega) (fun _ => True) (fun _ _ _ _ => trivial)
    (fun B pc env _ _ _ => idxRnd B pc env) henv (idxAt_mid V.mid) (idxAt_pc h0) trivial k1 ?_
  have ag : AgreeN 32 32 env1 (intoEnv (fun i => (([SE.var 0, .var 20] ++ zeros 0 30)[i]?).getD (.var i)) (fun a => (([] : List SE)[a - 32]?).getD (.tab a)) V.env) := by
    refine ⟨fun i hi => ?_, fun a r c h1 h2 h3 => ?_⟩
    · rw [intoEnv_one hi]
      rcases i with _ | _ | i
      · rw [k2 0 (by decide), idxAt_eq]; rfl
      · exact k3.symm
      · rw [k2 (i + 2) (by omega), idxAt_eq, if_neg (by omega), if_pos hi]
        show 0 = (((zeros 0 30)[i]?).getD (.var (i + 2))).eval V.env
        rw [zeros_get (by omega)]; rfl
    · rw [intoEnv_cell h1 h2 h3, k2 _ (by unfold cellIx; omega), idxAt_eq, if_neg (by unfold cellIx; omega), if_neg (by unfold cellIx; omega)]
      rfl
  cases wh
  · exact ⟨0, _, rfl, rfl, rfl, (by show ([SE.var 0, .var 20] ++ zeros 0 30).length ≤ 32; simp [zeros_length]), Nat.zero_le _, ag⟩
  · exact ⟨0, _, rfl, rfl, rfl, (by show ([SE.var 0, .var 20] ++ zeros 0 30).length ≤ 32; simp [zeros_length]), Nat.zero_le _, ag⟩


/-! ### The other search -/

theorem wholeChk : (wholeN G wholeT).tree.check ((wholeN G wholeT).leaf Tryd.prog.globals.size Nn wholeRun) (wholeN G wholeT).pc = true := wholeT_ok
theorem wholeFine' : (wholeN G wholeT).fine () = true := wholeFine
noncomputable def wholeIt (env : Nat → Int) : Option (Ex × (Nat → Int)) := (wholeN G wholeT).iter Tryd.prog.globals.size Nn wholeRun 82 (idxAt env)

theorem wholeAt_pc {env : Nat → Int} (h0 : 0 ≤ env 0 ∧ env 0 ≤ 80) : ∀ p ∈ (wholeN G wholeT).pc, p.1.eval (idxAt env) = p.2 := by
  have e0 : idxAt env 0 = env 0 := by rw [idxAt_eq]; rfl
  have e1 : idxAt env 1 = 0 := by rw [idxAt_eq]; rfl
  intro p hp
  simp only [wholeN, pcLen, List.cons_append, List.nil_append, List.mem_cons, List.not_mem_nil, or_false] at hp
  rcases hp with rfl | rfl | rfl | rfl | rfl
  · exact decide_eq_true (show (0 : Int) ≤ idxAt env 0 by omega)
  · exact decide_eq_true (show idxAt env 0 ≤ (80 : Int) by omega)
  · exact decide_eq_true (show (0 : Int) ≤ idxAt env 1 by omega)
  · exact decide_eq_true (show idxAt env 1 ≤ idxAt env 0 by omega)
  · exact decide_eq_true (show idxAt env 1 ≤ (80 : Int) by omega)

def upd1 (env : Nat → Int) (r : Int) (j : Nat) : Int := if j = 1 then r else env j

/-- Where the search goes through, each row is one that may be. -/
theorem whole_rows : ∀ (μ : Nat) (env env1 : Nat → Int), (∀ j, In64 (env j)) → (∀ p ∈ (wholeN G wholeT).pc, p.1.eval env = p.2) → (wholeN G wholeT).iter Tryd.prog.globals.size Nn wholeRun μ env = some (.exit 0, env1) → ∀ r, env 1 ≤ r → r < env 0 →
    ∃ c, (wholeN G wholeT).step Tryd.prog.globals.size Nn wholeRun (upd1 env r) = some c ∧ c.e = .normal := by
  intro μ
  induction μ with
  | zero => intro env env1 _ _ h; cases h
  | succ μ ih =>
    intro env env1 hm hb h r h1 h2
    obtain ⟨c, q1, q2, q3, q4, q5, q6, q7⟩ := auto_step (wholeN G wholeT) wholeFine' wholeChk hm hb
    have q7 : moreWhole ⟨c.pc⟩ c = true := q7
    unfold moreWhole at q7
    rw [AutoLoop.iter, q1] at h
    dsimp only at h
    cases he : c.e with
    | normal =>
      rw [he] at h q7
      obtain ⟨g1, _, _⟩ := q5 he
      have e1 : c.next env 1 = env 1 + 1 := next_at (by omega) (beqAt_ok q7)
      have ej : ∀ j, j ≠ 1 → c.next env j = env j := fun j hj => q6 j (fun hh => by have a1 : 1 ≤ j := hh.1; have a2 : j < 2 := hh.2; omega)
      by_cases hr : r = env 1
      · refine ⟨c, ?_, he⟩
        have : upd1 env r = env := by
          funext j
          unfold upd1
          split
          · rename_i hj; subst hj; exact hr
          · rfl
        rw [this]; exact q1
      · obtain ⟨c', k1, k2⟩ := ih (c.next env) env1 q4 g1 h r (by omega) (by rw [ej 0 (by decide)]; exact h2)
        refine ⟨c', ?_, k2⟩
        have : upd1 env r = upd1 (c.next env) r := by
          funext j
          unfold upd1
          split
          · rfl
          · rename_i hj; exact (ej j hj).symm
        rw [this]; exact k1
    | exit i =>
      rw [he] at q7
      simp only [Bool.and_eq_true] at q7
      have := @yesLe ⟨c.pc⟩ (@Vals.mk ⟨c.pc⟩ env q3 hm) _ _ q7.2
      have : env 0 ≤ env 1 := this
      omega
    | ret => rw [he] at h; cases h

theorem whole_all {env : Nat → Int} (hm : ∀ j, In64 (env j)) (h0 : 0 ≤ env 0 ∧ env 0 ≤ 80) :
    ∃ ok env1, wholeIt env = some (bif ok then .exit 0 else .ret, env1) ∧ (∀ j, j ≠ 1 → env1 j = idxAt env j) ∧ ∀ j, In64 (env1 j) := by
  obtain ⟨e, env1, hi⟩ := auto_ends (wholeN G wholeT) wholeFine' wholeChk 81 (idxAt env) (idxAt_mid hm) (wholeAt_pc h0) (by
    show idxAt env 0 - idxAt env 1 < 81
    rw [idxAt_eq, idxAt_eq]
    show env 0 - 0 < 81
    omega)
  obtain ⟨k1, k2, k3⟩ := auto_mid (wholeN G wholeT) wholeFine' wholeChk _ _ (idxAt_mid hm) (wholeAt_pc h0) _ _ hi
  obtain ⟨c, p, q1, q2, q3, q4, q5, q6⟩ := auto_last (wholeN G wholeT) wholeFine' wholeChk _ _ (idxAt_mid hm) (wholeAt_pc h0) _ _ hi
  obtain ⟨c', r1, _, _, _, _, _, r7⟩ := auto_step (wholeN G wholeT) wholeFine' wholeChk q4 q5
  rw [q1] at r1; cases r1
  have hu : ∀ j, j ≠ 1 → env1 j = idxAt env j := fun j hj => k3 j (fun h => by have h1 : 1 ≤ j := h.1; have h2 : j < 2 := h.2; omega)
  have r7 : moreWhole ⟨c.pc⟩ c = true := r7
  unfold moreWhole at r7
  cases he : c.e with
  | normal => rw [q2] at he; exact (k1 he).elim
  | exit i =>
    rw [he] at r7
    simp only [Bool.and_eq_true] at r7
    have := natBeq r7.1
    subst this
    rw [q2] at he
    subst he
    exact ⟨true, env1, hi, hu, k2⟩
  | ret =>
    rw [q2] at he
    subst he
    exact ⟨false, env1, hi, hu, k2⟩

/-- All instructions may be, or not all; number 21 tells where. -/
def Ok (env : Nat → Int) (ok : Bool) : Prop := ∃ env1, wholeIt env = some (bif ok then .exit 0 else .ret, env1) ∧ (∀ j, j ≠ 1 → env1 j = idxAt env j) ∧ env 21 = env1 1

theorem whole_proof [F : Facts] [V : Vals] {ok : Bool} (h0 : 0 ≤ V.env 0 ∧ V.env 0 ≤ 80) (h : Ok V.env ok) : LoopProof Tryd.prog isTab (wholeSpec G ok) := by
  obtain ⟨env1, k1, k2, k3⟩ := h
  have henv : intoEnv (wholeSpec G ok).f0v (wholeSpec G ok).g0v V.env = idxAt V.env := rfl
  refine auto_loop (N := Nn) (fuel := 100000) (b0 := body 10 5) (n := 1) (fx := [true]) (Lo := fun _ => noLoops) (call := call0) (μ := 82) (wholeN G wholeT) (wholeSpec G ok) ⟨rfl, rfl, rfl, rfl⟩ tab_lt isWhole wholeFine' wholeChk ⟨rfl, rfl⟩ ⟨rfl, rfl⟩ ⟨rfl, rfl⟩ (wholeGood ok) (by show (SE.var 0 :: zeros 0 31).length ≤ 32; simp [zeros_length]) (by show 0 ≤ 32; omega) (fun _ => True) (fun _ _ _ _ => trivial)
    (fun B pc env _ _ _ => idxRnd B pc env) henv (idxAt_mid V.mid) (wholeAt_pc h0) trivial k1 ?_
  have ag : AgreeN 32 32 env1 (intoEnv (fun i => (([SE.var 0, .var 21] ++ zeros 0 30)[i]?).getD (.var i)) (fun a => (([] : List SE)[a - 32]?).getD (.tab a)) V.env) := by
    refine ⟨fun i hi => ?_, fun a r c h1 h2 h3 => ?_⟩
    · rw [intoEnv_one hi]
      rcases i with _ | _ | i
      · rw [k2 0 (by decide), idxAt_eq]; rfl
      · exact k3.symm
      · rw [k2 (i + 2) (by omega), idxAt_eq, if_neg (by omega), if_pos hi]
        show 0 = (((zeros 0 30)[i]?).getD (.var (i + 2))).eval V.env
        rw [zeros_get (by omega)]; rfl
    · rw [intoEnv_cell h1 h2 h3, k2 _ (by unfold cellIx; omega), idxAt_eq, if_neg (by unfold cellIx; omega), if_neg (by unfold cellIx; omega)]
      rfl
  cases ok
  · exact ⟨0, _, rfl, rfl, rfl, (by show ([SE.var 0, .var 21] ++ zeros 0 30).length ≤ 32; simp [zeros_length]), Nat.zero_le _, ag⟩
  · exact ⟨0, _, rfl, rfl, rfl, (by show ([SE.var 0, .var 21] ++ zeros 0 30).length ≤ 32; simp [zeros_length]), Nat.zero_le _, ag⟩

/-- The row at a place that may be: the law's run from there. -/
theorem at_place {env : Nat → Int} (hm : ∀ j, In64 (env j)) (h0 : 0 ≤ env 0 ∧ env 0 ≤ 80) (h1 : 0 ≤ env 1 ∧ env 1 < env 0) (hok : Ok env true) (hx : ∀ p ∈ extraN, p.1.eval env = p.2) :
    ∃ pc, lawN ⟨pc⟩ = true ∧ ∀ p ∈ pc, p.1.eval env = p.2 := by
  obtain ⟨env1, k1, _, _⟩ := hok
  obtain ⟨c, r1, r2⟩ := whole_rows 82 (idxAt env) env1 (idxAt_mid hm) (wholeAt_pc h0) k1 (env 1) (by rw [idxAt_eq]; exact h1.1) (by rw [idxAt_eq]; exact h1.2)
  have hp : wholeT.path (upd1 (idxAt env) (env 1)) (wholeN G wholeT).pc = wholeT.path env (wholeN G wholeT).pc := path_same (p := rowOnly) (fun i hi => by
    unfold rowOnly at hi
    simp only [Bool.or_eq_true] at hi
    unfold upd1
    split
    · rename_i h; subst h; rfl
    · rw [idxAt_eq]
      split
      · rename_i h; subst h; rfl
      · split
        · rename_i g1 g2 g3
          rcases hi with hi | hi
          · have := Nat.le_of_ble_eq_true hi; omega
          · have := Nat.le_of_ble_eq_true hi; omega
        · rfl) (fun i hi => by unfold rowOnly; rw [Nat.ble_eq_true_of_le hi, Bool.or_true]) wholeT _ wholeAv
  have hbase : ∀ p ∈ (wholeN G .leaf).pc, p.1.eval env = p.2 := by
    intro p hp
    simp only [wholeN, pcLen, List.cons_append, List.nil_append, List.mem_cons, List.not_mem_nil, or_false] at hp
    rcases hp with rfl | rfl | rfl | rfl | rfl
    · exact decide_eq_true h0.1
    · exact decide_eq_true h0.2
    · exact decide_eq_true h1.1
    · exact decide_eq_true (show env 1 ≤ env 0 by omega)
    · exact decide_eq_true (show env 1 ≤ (80 : Int) by omega)
  obtain ⟨b1, b2⟩ := Tree.path_ok bothT (wholeN G .leaf).pc hbase bothT_ok
  rw [← both_same] at b1 b2
  have hs : autoCase Tryd.prog.globals.size 17 32 Nn (wholeN G .leaf).shapes toOf (wholeT.path env (wholeN G .leaf).pc) (wholeRun (wholeT.path env (wholeN G .leaf).pc)) = some c := by
    have r1 : autoCase Tryd.prog.globals.size 17 32 Nn (wholeN G .leaf).shapes toOf (wholeT.path (upd1 (idxAt env) (env 1)) (wholeN G wholeT).pc) (wholeRun (wholeT.path (upd1 (idxAt env) (env 1)) (wholeN G wholeT).pc)) = some c := r1
    rw [hp] at r1
    exact r1
  unfold bothLeaf at b1
  dsimp only at b1
  rw [hs] at b1
  simp only [r2] at b1
  obtain ⟨d1, d2⟩ := Tree.path_ok (f := lawN) (LT (opOf (wholeT.path env (wholeN G .leaf).pc))) (wholeT.path env (wholeN G .leaf).pc ++ extraN) (fun p hp => by
    rcases List.mem_append.1 hp with hp | hp
    · exact b2 p hp
    · exact hx p hp) b1
  exact ⟨_, d1, d2⟩
end
end Go.Proofs.YtkcdcnjpafblfaaDoor.cpuNear
