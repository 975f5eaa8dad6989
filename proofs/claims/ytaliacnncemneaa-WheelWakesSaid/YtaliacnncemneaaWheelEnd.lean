/- The law's walk. Conditions: those that each theorem names. -/
import Derived.Test.YtaliacnncemneaaWheelRun0
import Derived.Test.YtaliacnncemneaaWheelRun1
import Derived.Test.YtaliacnncemneaaWheelRun2
import Derived.Test.YtaliacnncemneaaWheelRun3
open Go
noncomputable section

namespace Go.Proofs.Ytaliacnncemneaa.wheels
open Go.Abs Go.Proofs.Wheels

theorem tks_congr {s s' : WS} (h : WSEq s s') : ∀ i : Nat, WSEq (tks s i) (tks s' i) := by
  intro i
  induction i with
  | zero => exact h
  | succ i ih => exact fin_congr ih
theorem ticks_at [F : Facts] [V : Vals] {has : Bool} {n now now' len w w' Ae : SE} {c c' : C4} {K K' : K4} {s : WS} {q : Int → List Int} {A : TT} {ln : Nat}
    (hs : WSEq (wsE V.env n now c w K) s) (h : WInv s q) (hm : WMid s) (hnow0 : s.now = 0) (hlen : len.eval V.env = ln) (hl40 : ln ≤ 40) (hA : RowEq (rowE V.env Ae) A) (hAm : MidT A) (hAr : ∀ t, t < ln → 0 ≤ A t 0 ∧ A t 0 ≤ 65535)
    (hw : ∀ t : Int, 0 ≤ t → t < s.n → g0 s.when_ t = if t < ln then s.now + addA A 200 t.toNat else 0) (hhas : has = false → ln = 0) (hnow' : now'.eval V.env = 200)
    (hc' : ∀ r, r < 4 → cE V.env c' r = (tks s 200).c r) (hw' : RowEq (rowE V.env w') (tks s 200).when_) (hK' : LKEq (lkE V.env K') (tks s 200).k) : LoopProof Try.prog [] (a3S has PG n now now' c c' len w w' K K' Ae) := by
  have q' := tks_congr hs 200
  exact ticks_proof sortC rfl (h.of hs) (hm.of hs) (by rw [hs.now]; exact hnow0) hlen hl40 hA hAm hAr (fun t t0 t1 => by rw [hs.w.g, hs.now]; exact hw t t0 (by rw [← hs.n]; exact t1)) hhas hnow' (fun r hr => (hc' r hr).trans (q'.c r hr).symm) (hw'.trans q'.w.symm) (hK'.trans q'.k.symm)

section
variable {st : Int} {ln : Nat} {A : TT} [F : Facts] [V : Vals]

theorem new_ws (hV : V.env = lawE st ln A) (now : SE) (x : Int) (hn : now.eval V.env = x) : WSEq (wsE V.env (L 40) now z4 zS KN) { WS.new 40 with now := x } := by
  rw [hV] at hn ⊢
  exact ⟨rfl, hn, zS_row (lawE st ln A), ⟨le_T, le_T, le_U, zS_row (lawE st ln A)⟩, fun r hr => by
    rcases (show r = 0 ∨ r = 1 ∨ r = 2 ∨ r = 3 by omega) with rfl | rfl | rfl | rfl <;> rfl⟩
omit F V in
theorem x1_inv (hL : Law st ln A) : SkInv 40 ⟨WS.new 40, st.toNat, []⟩ := by
  have hs := hL.hst
  have hw : (WS.new 40).wait = 0 := wait_none fun _ _ _ => rfl
  exact ⟨⟨_, new_inv (by omega) (by omega)⟩, new_mid (by omega), by show (0 : Int) + (st.toNat : Int) + 1 ≤ _; omega, by show st.toNat ≤ 100000; omega, fun l hl => (List.not_mem_nil hl).elim, by show ((0 : Nat) : Int) + (WS.new 40).wait ≤ _; rw [hw]; omega⟩

theorem lw0_ok (hL : Law st ln A) (hV : V.env = lawE st ln A) : LoopProof Try.prog [] (lw0 fns) := by
  obtain ⟨p1, p2, p3⟩ := first_skip st.toNat
  have hs := hL.hst
  refine sk_at (s := WS.new 40) (ki := st.toNat) (new_ws hV (L 0) 0 rfl) ?_ (x1_inv hL) rfl (by rw [p1]; rfl) ?_ ?_ (fun r hr => ?_) ?_ ?_ (Nat.le_refl _) (Nat.le_refl _) (fun i hi => ?_) (fun i hi => ?_)
  · show (V.env 0) = _
    rw [hV, le_0]; omega
  · rw [p3]
    show V.env 0 = (st.toNat : Int)
    rw [hV, le_0]; omega
  · rw [p2]
    show V.env 2 = (st.toNat : Int)
    rw [hV, le_2]
  · rw [p3]
    rcases (show r = 0 ∨ r = 1 ∨ r = 2 ∨ r = 3 by omega) with rfl | rfl | rfl | rfl <;> rfl
  · rw [p3]; exact zS_row _
  · rw [p3, hV]; exact ⟨le_T, le_T, le_U, zS_row (lawE st ln A)⟩
  · unfold zsV
    rw [repl_get _ hi]
    unfold lenOf
    rw [p1]; rfl
  · unfold ztV
    rw [repl_get _ hi]
    unfold tabOf
    rw [p1]; exact zS_row _
theorem lw1_ok (hL : Law st ln A) (hV : V.env = lawE st ln A) : LoopProof Try.prog [] (lw1 fns) := by
  have hs := hL.hst
  have hl := hL.hln
  refine ads_at (s := s1 st) (A := A) (ln := ln) adRuns1 (new_ws hV (v 0) st.toNat ?_) (s1_inv (st := st)) (s1_mid hL) s1_zero (by show (ln : Int) ≤ 40; omega) hl ?_ ?_ hL.hA hL.hAr ?_ ?_ (fun r hr => ?_) ?_ ?_
  · show V.env 0 = _
    rw [hV, le_0]; omega
  all_goals rw [hV]
  · exact le_1
  · exact le_A
  · show In64 (lawE st ln A 0); rw [le_0]; exact i64 (by omega) (by omega)
  · exact le_3
  · exact le_a1c hr
  · exact le_a1w
  · exact le_a1k
theorem lw2_ok (hL : Law st ln A) (hV : V.env = lawE st ln A) : LoopProof Try.prog [] (lw2 fns (e2 st ln A).past.length) := by
  have hm := most_lim (ln := ln) (A := A)
  have i := a1_i hL
  have w : WSEq (wsE V.env (L 40) (v 0) Ca (.tab 131) Ka) (a1 st ln A) := by
    rw [hV]
    exact ⟨i.n.symm, (show lawE st ln A 0 = st from le_0).trans ((i.now.trans (s1_now hL)).symm), le_a1w, le_a1k, fun r hr => le_a1c hr⟩
  refine sk_at (s := a1 st ln A) (ki := (most2 ln A).toNat) w ?_ (x2_inv hL) rfl rfl ?_ ?_ (fun r hr => ?_) ?_ ?_ (by simp [lsV]) (by simp [tsV]) (fun i hi => ?_) (fun i hi => ?_)
  all_goals rw [hV]
  · show lawE st ln A 3 = _; rw [le_3]; omega
  · show lawE st ln A 0 + lawE st ln A 3 = (e2 st ln A).s.now
    rw [le_0, le_3, e2_now hL]
  · exact le_13
  · exact le_e2c hr
  · exact le_e2w
  · exact le_e2k
  · unfold lsV
    rw [rangeMap _ hi]
    exact le_len hi
  · unfold tsV
    rw [rangeMap _ hi]
    exact le_lt hi
theorem lw3_ok (hL : Law st ln A) (hV : V.env = lawE st ln A) : LoopProof Try.prog [] (lw3 fns) := by
  have hl := hL.hln
  refine ads_at (s := WS.new 40) (A := A) (ln := ln) adRuns2 (new_ws hV (L 0) 0 rfl) (new_inv (by omega) (by omega)) (new_mid (by omega)) (fun _ _ _ => rfl) (by show (ln : Int) ≤ 40; omega) hl ?_ ?_ hL.hA hL.hAr ?_ ?_ (fun r hr => ?_) ?_ ?_
  all_goals rw [hV]
  · exact le_1
  · exact le_A
  · exact i64 (by show (-1 : Int) ≤ 0; omega) (by show (0 : Int) ≤ 1000000000; omega)
  · show (0 : Int) = mostA A 200 false ln
    cases ln with
    | zero => rfl
    | succ k => unfold mostA; rw [if_neg (by simp)]
  · exact le_a2c hr
  · exact le_a2w
  · exact le_a2k
theorem lw4_ok (hL : Law st ln A) (hV : V.env = lawE st ln A) : LoopProof Try.prog [] (lw4 fns) := by
  have hl := hL.hln
  have j := a2_i hL
  obtain ⟨q, hq⟩ := j.q
  have w : WSEq (wsE V.env (L 40) (L 0) Cc (.tab 182) Kc) (a2 ln A) := by
    rw [hV]
    exact ⟨j.n.symm, j.now.symm, le_a2w, le_a2k, fun r hr => le_a2c hr⟩
  have e : tks (a2 ln A) 200 = t2 ln A := by unfold t2; rfl
  refine ticks_at (s := a2 ln A) (q := q) (A := A) (ln := ln) w hq (a2_mid hL) j.now ?_ hl ?_ hL.hA hL.hAr (fun t t0 t1 => ?_) (fun h => by cases h) rfl (fun r hr => ?_) ?_ ?_
  · rw [hV]; exact le_1
  · rw [hV]; exact le_A
  · have := j.w t t0 (by rw [show (a2 ln A).n = 40 from j.n] at t1; exact t1)
    rw [show (a2 ln A).now = 0 from j.now]
    exact this
  · rw [hV, e]; exact (le_t2c (st := st) (ln := ln) (A := A) hr)
  · rw [hV, e]; exact (le_t2w (st := st) (ln := ln) (A := A))
  · rw [hV, e]; exact (le_t2k (st := st) (ln := ln) (A := A))
end
end Go.Proofs.Ytaliacnncemneaa.wheels

namespace Go.Proofs.Ytaliacnncemneaa.wheels
open Go.Abs Go.Proofs.Wheels

section
variable {st : Int} {ln : Nat} {A : TT}
theorem sum_ev : ∀ {k : Nat}, k ≤ 41 → (sumV k).eval (lawE st ln A) = total ((e2 st ln A).past.take k)
  | 0, _ => rfl
  | 1, _ => by
    rw [total_take]
    show lawE st ln A (20 + 0) = 0 + _
    rw [le_len (by omega)]
    unfold lenOf; omega
  | k + 2, h => by
    rw [total_take]
    show (sumV (k + 1)).eval (lawE st ln A) + lawE st ln A (20 + (k + 1)) = _
    rw [sum_ev (by omega), le_len (by omega)]
    rfl

theorem pcLaw_ok (hL : Law st ln A) : Fx (lawE st ln A) (pcLaw (e2 st ln A).past.length) := by
  have hs := hL.hst
  have hl := hL.hln
  have hm := most_lim (ln := ln) (A := A)
  have he := e2_end hL
  obtain ⟨q2, h2⟩ := he.q
  obtain ⟨q4, h4⟩ := (t2_i hL).q
  have hroom := he.room
  refine .app (one_ok rfl) (.app (inR_ok ?_ ?_) (.app (inR_ok ?_ ?_) (.app (inR_ok ?_ ?_) (.app ?_ (.app (one_ok (eq_ok ?_)) (.app (zeroC_ok h2 (e2_wait hL) fun r hr => le_e2c hr) (zeroC_ok (s := t2 ln A) h4 (t2_wait hL) fun r hr => le_t2c hr)))))))
  · show (0 : Int) ≤ lawE st ln A 0; rw [le_0]; exact hs.1
  · show lawE st ln A 0 ≤ 65535; rw [le_0]; exact hs.2
  · show (0 : Int) ≤ lawE st ln A 1; rw [le_1]; omega
  · show lawE st ln A 1 ≤ 40; rw [le_1]; omega
  · show (0 : Int) ≤ lawE st ln A 3; rw [le_3]; exact hm.1
  · show lawE st ln A 3 ≤ 65535; rw [le_3]; exact hm.2
  · intro p hp
    obtain ⟨l, hl1, hl2⟩ := List.mem_flatten.1 hp
    obtain ⟨i, hi, rfl⟩ := List.mem_map.1 hl1
    have hi := List.mem_range.1 hi
    have := lenOf_le hL i
    refine inR_ok (env := lawE st ln A) (lo := L 0) (e := v (20 + i)) (hi := L 4096) ?_ ?_ p hl2
    · show (0 : Int) ≤ lawE st ln A (20 + i); rw [le_len (by omega)]; exact this.1
    · show lawE st ln A (20 + i) ≤ 4096; rw [le_len (by omega)]; exact this.2
  · rw [sum_ev (by omega), List.take_length, e2_total hL]
    exact (show lawE st ln A 1 = ln from le_1).symm

theorem new_at [F : Facts] [V : Vals] (hV : V.env = lawE st ln A) : FunProof Try.prog [] (newS 7 40 PG (L 40) (.tab 129) (.tab 130)) :=
  new_proof runs40 rfl (by rw [hV]; exact le_T) (by rw [hV]; exact le_U)

theorem lwN2_ok [F : Facts] [V : Vals] (hL : Law st 0 A) (hV : V.env = lawE st 0 A) : LoopProof Try.prog [] (lwN2 fns) := by
  have hs := hL.hst
  have hw : (s1 st).wait = 0 := wait_none fun _ _ _ => rfl
  have hinv : SkInv 40 ⟨s1 st, 0, []⟩ := ⟨⟨_, s1_inv (st := st)⟩, s1_mid hL, by show (st.toNat : Int) + ((0 : Nat) : Int) + 1 ≤ _; omega, Nat.zero_le _, fun l hl => (List.not_mem_nil hl).elim, by show ((0 : Nat) : Int) + (s1 st).wait ≤ _; rw [hw]; omega⟩
  refine sk_at (s := s1 st) (ki := 0) (e := ⟨s1 st, 0, []⟩) (new_ws hV (v 0) st.toNat ?_) rfl hinv rfl rfl ?_ rfl (fun r hr => ?_) (zS_row _) ?_ (Nat.le_refl _) (Nat.le_refl _) (fun i hi => ?_) (fun i hi => ?_)
  · show V.env 0 = _; rw [hV, le_0]; omega
  · show V.env 0 = (st.toNat : Int); rw [hV, le_0]; omega
  · rcases (show r = 0 ∨ r = 1 ∨ r = 2 ∨ r = 3 by omega) with rfl | rfl | rfl | rfl <;> rfl
  · rw [hV]; exact ⟨le_T, le_T, le_U, zS_row (lawE st 0 A)⟩
  · unfold zsV; rw [repl_get _ hi]; rfl
  · unfold ztV; rw [repl_get _ hi]; exact zS_row _
theorem lwN4_ok [F : Facts] [V : Vals] (hL : Law st 0 A) (hV : V.env = lawE st 0 A) : LoopProof Try.prog [] (lwN4 fns) := by
  have e : tks (WS.new 40) 200 = t2 0 A := by unfold t2 a2 adds; rfl
  refine ticks_at (s := WS.new 40) (A := zeroT) (ln := 0) (new_ws hV (L 0) 0 rfl) (new_inv (by omega) (by omega)) (new_mid (by omega)) rfl rfl (Nat.zero_le _) (zS_row _) zeroT_mid (fun t ht => by omega) (fun t t0 t1 => by rw [if_neg (by omega)]; rfl) (fun _ => rfl) rfl (fun r hr => ?_) ?_ ?_
  · rw [hV, e]; exact (le_t2c (st := st) (ln := 0) (A := A) hr)
  · rw [hV, e]; exact (le_t2w (st := st) (ln := 0) (A := A))
  · rw [hV, e]; exact (le_t2k (st := st) (ln := 0) (A := A))
end

end Go.Proofs.Ytaliacnncemneaa.wheels

namespace Go.Proofs.Ytaliacnncemneaa.wheels
open Go.Abs Go.Proofs.Wheels

theorem law_at {j : Nat} (h : j ≤ 40) : runLaw (pcLaw j) (lawL fns j) (lawF PG) true = true := by
  have k : ∀ (j : Nat), j ≤ 40 → runLaw (pcLaw j) (lawL fns j) (lawF PG) true = true
    | 0, _ => lawJ_0
    | 1, _ => lawJ_1
    | 2, _ => lawJ_2
    | 3, _ => lawJ_3
    | 4, _ => lawJ_4
    | 5, _ => lawJ_5
    | 6, _ => lawJ_6
    | 7, _ => lawJ_7
    | 8, _ => lawJ_8
    | 9, _ => lawJ_9
    | 10, _ => lawJ_10
    | 11, _ => lawJ_11
    | 12, _ => lawJ_12
    | 13, _ => lawJ_13
    | 14, _ => lawJ_14
    | 15, _ => lawJ_15
    | 16, _ => lawJ_16
    | 17, _ => lawJ_17
    | 18, _ => lawJ_18
    | 19, _ => lawJ_19
    | 20, _ => lawJ_20
    | 21, _ => lawJ_21
    | 22, _ => lawJ_22
    | 23, _ => lawJ_23
    | 24, _ => lawJ_24
    | 25, _ => lawJ_25
    | 26, _ => lawJ_26
    | 27, _ => lawJ_27
    | 28, _ => lawJ_28
    | 29, _ => lawJ_29
    | 30, _ => lawJ_30
    | 31, _ => lawJ_31
    | 32, _ => lawJ_32
    | 33, _ => lawJ_33
    | 34, _ => lawJ_34
    | 35, _ => lawJ_35
    | 36, _ => lawJ_36
    | 37, _ => lawJ_37
    | 38, _ => lawJ_38
    | 39, _ => lawJ_39
    | 40, _ => lawJ_40
    | j + 41, h => by omega
  exact k j h

/-- A walk, whatever is known. -/
theorem walkP {pc : List (SB × Bool)} {env : Nat → Int} {ls : List LoopSpec} {fs : List FunSpec} {has : Bool} (hpc : Fx env pc) (hmid : ∀ j, In64 (env j)) (hl : ∀ V : @Vals ⟨pc⟩, V.env = env → ∀ S ∈ ls, @LoopProof ⟨pc⟩ V Try.prog [] S) (hfs : ∀ V : @Vals ⟨pc⟩, V.env = env → ∀ S ∈ fs, @FunProof ⟨pc⟩ V Try.prog [] S) (hrun : runLaw pc ls fs has = true)
    {w : World} {φ : Phi} {v0 v1 : Value} (hrw : ∀ q : Other, q.V.env = env → @RW q.F q.V φ w.heap.size (heap0 has PG) w) (hf : Free φ (heap0 has PG).n 1000000000) (hg : GOk Try.prog φ) (hx : ∀ q : Other, q.V.env = env → @RL q.F q.V φ [.sx .u16 (v 0), aArg has PG] [v0, v1]) :
    Calls Try.prog 3 #[v0, v1] w fun e w' => e = .returned (.bool true) ∧ RowKit.Below w.heap.size w w' :=
  walkG (xs := #[v0, v1]) hpc hmid hl hfs hrun hrw hf hg hx
end Go.Proofs.Ytaliacnncemneaa.wheels

namespace Go.Proofs.Ytaliacnncemneaa.wheels
open Go.Abs Go.Proofs.Wheels

theorem walkT {pc : List (SB × Bool)} {env : Nat → Int} {ls : List LoopSpec} {fs : List FunSpec} (hpc : Fx env pc) (hmid : ∀ j, In64 (env j)) (hl : ∀ V : @Vals ⟨pc⟩, V.env = env → ∀ S ∈ ls, @LoopProof ⟨pc⟩ V Try.prog [] S) (hfs : ∀ V : @Vals ⟨pc⟩, V.env = env → ∀ S ∈ fs, @FunProof ⟨pc⟩ V Try.prog [] S) (hrun : runLaw pc ls fs true = true)
    {x0 : Int} {len : Nat} {ra : Nat → Nat → Int} (E0 : env 0 = x0) (E1 : env 1 = len) (EA : RowEq (tabE env 128) ra) {w : World} {v1 : Value} (s1 : AftersIs w v1 true len ra) :
    Calls Try.prog 3 #[.int .u16 x0, v1] w fun e w' => e = .returned (.bool true) ∧ RowKit.Below w.heap.size w w' := by
  obtain ⟨b, o, l, cap, arr, el, fz, rfl, hlt, hcap, ha, hs, hr⟩ := s1
  subst hlt
  have env1 : ∀ q : Other, q.V.env = env → (v 1).eval q.V.env = (len : Int) := fun q h => by rw [h]; exact E1
  refine walkP (has := true) (φ := (phi0 PG).put PG ⟨b, o, cap⟩) hpc hmid hl hfs hrun (fun q hq => add_tab (start0 q w) (phi0_none (Nat.le_refl _)) ?_ rfl (fun c t y e => by obtain ⟨p, hp, _⟩ := startL_get e; cases hp)) (fun c hc _ => ?_) (gl_ok _ fun c hc => put_other (by omega)) (fun q hq => ?_)
  · refine @rows_rb q.F q.V _ w b o len [.i .u16] ra arr el fz (.tab 128) (v 1) cap ha hs hr (env1 q hq) (fun r c hc => ?_)
    rw [hq]
    exact EA r c (by simp at hc; omega)
  · have hc : PG + 1 ≤ c := hc
    rw [put_other (by omega), phi0_none (by omega)]
  · exact @RL.cons q.F q.V _ _ _ _ _ (@RV.sx q.F q.V _ _ _ _ (by show q.V.env 0 = x0; rw [hq]; exact E0)) (@RL.cons q.F q.V _ _ _ _ _ (@RV.ss q.F q.V _ _ _ _ _ _ _ _ _ _ (Phi.put_self _ _ _) rfl (env1 q hq) ⟨hcap, Nat.le_of_eq (Nat.zero_add _)⟩ (fun _ => by simp)) (@RL.nil q.F q.V _))

theorem law_specs {st : Int} {ln : Nat} {A : TT} (hL : Law st ln A) [F : Facts] [V : Vals] (hV : V.env = lawE st ln A) : ∀ S ∈ lawL fns (e2 st ln A).past.length, LoopProof Try.prog [] S := fun S hS => by
  simp only [lawL, List.mem_cons, List.not_mem_nil, or_false] at hS
  rcases hS with rfl | rfl | rfl | rfl | rfl
  · exact lw0_ok hL hV
  · exact lw1_ok hL hV
  · exact lw2_ok hL hV
  · exact lw3_ok hL hV
  · exact lw4_ok hL hV
theorem law_funs {st : Int} {ln : Nat} {A : TT} [F : Facts] [V : Vals] (hV : V.env = lawE st ln A) : ∀ S ∈ lawF PG, FunProof Try.prog [] S := fun S hS => by
  simp only [lawF, List.mem_cons, List.not_mem_nil, or_false] at hS
  subst hS
  exact new_at hV

theorem walk {e : Bool} {x0 : Int} {len : Nat} {ra : Nat → Nat → Int} (h0 : 0 ≤ x0 ∧ x0 ≤ 65535) (h1 : (len : Int) ≤ 9223372036854775807) (hra : ∀ r c, In64 (ra r c)) (hrr : ∀ r, r < len → 0 ≤ ra r 0 ∧ ra r 0 ≤ 65535) {w : World} {v1 : Value} (s1 : AftersIs w v1 e len ra) :
    Calls Try.prog 3 #[.int .u16 x0, v1] w fun e w' => e = .returned (.bool true) ∧ RowKit.Below w.heap.size w w' := by
  cases e with
  | false =>
    obtain ⟨hl0, p, c, rfl⟩ := s1
    subst hl0
    have hL : Law x0 0 ra := ⟨h0, by omega, fun r c _ => hra r c, fun t ht => by omega⟩
    have hj : (e2 x0 0 ra).past.length = 0 := rfl
    have hpc := pcLaw_ok hL
    rw [hj] at hpc
    refine walkP (has := false) (φ := phi0 PG) (ls := lawN fns) hpc (lawE_mid hL) (fun V hV S hS => ?_) (fun V hV => @law_funs x0 0 ra ⟨_⟩ V hV) law_nil (fun q hq => start0 q w) (fun b hb _ => phi0_none hb) (gl_ok _ fun _ _ => rfl) (fun q hq => ?_)
    · simp only [lawN, List.mem_cons, List.not_mem_nil, or_false] at hS
      rcases hS with rfl | rfl | rfl
      · exact @lw0_ok x0 0 ra ⟨_⟩ V hL hV
      · exact @lwN2_ok x0 ra ⟨_⟩ V hL hV
      · exact @lwN4_ok x0 ra ⟨_⟩ V hL hV
    · exact @RL.cons q.F q.V _ _ _ _ _ (@RV.sx q.F q.V _ _ _ _ (by show q.V.env 0 = x0; rw [hq]; exact le_0)) (@RL.cons q.F q.V _ _ _ _ _ (@RV.so q.F q.V _ _ _ _ _ rfl) (@RL.nil q.F q.V _))
  | true =>
    by_cases hl : len ≤ 40
    · have hL : Law x0 len ra := ⟨h0, hl, fun r c _ => hra r c, hrr⟩
      exact walkT (pcLaw_ok hL) (lawE_mid hL) (fun V hV => @law_specs x0 len ra hL ⟨_⟩ V hV) (fun V hV => @law_funs x0 len ra ⟨_⟩ V hV) (law_at (e2_end hL).room) le_0 le_1 le_A s1
    · have o0 : encL [x0, (len : Int)] [ra] 0 = x0 := encL_one rfl (by decide)
      have o1 : encL [x0, (len : Int)] [ra] 1 = len := encL_one rfl (by decide)
      refine walkT (pc := pcLong) (env := encL [x0, (len : Int)] [ra]) (ls := []) (fs := []) (.app (one_ok rfl) (one_ok (nle_ok ?_))) (encL_mid (fun x hx => ?_) (fun T hT => ?_)) (fun V hV S hS => by cases hS) (fun V hV S hS => by cases hS) law_long o0 o1 (encL_tab rfl (by decide) (by decide)) s1
      · show (40 : Int) < encL [x0, (len : Int)] [ra] 1
        rw [o1]; omega
      · simp only [List.mem_cons, List.not_mem_nil, or_false] at hx
        rcases hx with rfl | rfl
        · unfold In64; omega
        · unfold In64; omega
      · simp only [List.mem_cons, List.not_mem_nil, or_false] at hT
        subst hT
        exact fun r c _ => hra r c
end Go.Proofs.Ytaliacnncemneaa.wheels

namespace Go.Abs
variable {P : Program} {H : Type} {enc : TypeId × Value → H} {w : World} {base : Nat} {spare : Nat → Bool} {held : Bool}

theorem rows_in {t e : TypeId} {k : IntKind} {fuel b o len cap : Nat} {y : DataW H × List MemPlace} {arr : Array Value} {el : TypeId} {fz : Nat × Nat} (ht : P.underlying t = some (.slice e)) (he : P.underlying e = some (.int k)) (hz : P.cellsOf e = 1)
    (h : DataW.trod enc P w base spare held fuel t [.slice (some ⟨b, o, none⟩) len cap] = some y) (ha : w.heap[b]? = some (.cells arr el fz)) : ∀ (r : Nat) (n : Int), r < len → arr[o + (r * 1 + 0)]? = some (.int k n) → kmin k ≤ n ∧ n ≤ kmax k := by
  intro r n hr hx
  rcases DataW.trod_slice ht h with ⟨e, _⟩ | ⟨a, len', cap', elems, rest, m, _, e, _, hb, hl, hm, hlen, hel, _, _⟩
  · cases e
  · cases e
    have := hel r hr
    rw [List.getElem?_eq_getElem (by omega), hz, Option.bind_eq_some_iff] at this
    obtain ⟨cs', h1, h2⟩ := this
    obtain ⟨n', rfl, _, hw⟩ := DataW.trod_int he h2
    have hc := (World.cells?_some h1).2.2 0 (by omega)
    rw [add_addr, add_addr, cell_of ha] at hc
    rw [show o + (r * 1 + 0) = o + r * 1 + 0 by omega, hc] at hx
    simp only [List.getElem?_cons_zero, Option.some.injEq, Value.int.injEq, true_and] at hx
    subst hx
    simp only [Lit.wf, Bool.and_eq_true, decide_eq_true_eq] at hw
    exact has_mid hw
end Go.Abs
end
