/- The law's walk. Conditions: those that each theorem names. -/
import Derived.Test.YtaliacnncemneaaCancelRun1
open Go
noncomputable section

namespace Go.Proofs.Wheels
open Go.Abs

/-- One that waits no more. -/
theorem cancel_inv {s : WS} {q : Int → List Int} (h : WInv s q) {t : Int} (t0 : 0 ≤ t) (t1 : t < s.n) (hw : g0 s.when_ t ≠ 0) : g0 s.k.L t ≠ -1 ∧ ∃ q', WInv (s.wake t) q' := by
  have hL : g0 s.k.L t ≠ -1 := by
    rcases h.w t t0 t1 with ⟨g, _⟩ | ⟨_, _, g⟩
    · exact absurd g hw
    · have := (locOf_in (now := s.now) (at_ := g0 s.when_ t)).1
      omega
  have ho := h.toWBase.out ⟨t0, t1⟩ hL
  refine ⟨hL, _, ⟨ho.rep, ho.now0, ho.c⟩, fun x x0 x1 => ?_⟩
  have x1 : x < s.n := x1
  show (g0 (up s.when_ t 0) x = 0 ∧ g0 (up s.k.L t (-1)) x = -1) ∨ (s.now < g0 (up s.when_ t 0) x ∧ g0 (up s.when_ t 0) x ≤ s.now + 65535 ∧ g0 (up s.k.L t (-1)) x = locOf s.now (g0 (up s.when_ t 0) x))
  by_cases e : x = t
  · subst e
    rw [up_same x0, up_same x0]
    exact .inl ⟨rfl, rfl⟩
  · rw [up_ne x0 e, up_ne x0 e]
    exact h.w x x0 x1

theorem one_list {l : List Int} {c : Int} (hn : l.Nodup) (h : ∀ x, x ∈ l ↔ x = c) : l = [c] := by
  cases l with
  | nil => exact absurd ((h c).2 rfl) (by simp)
  | cons a l =>
    have ha := (h a).1 (.head _)
    subst ha
    cases l with
    | nil => rfl
    | cons b l =>
      have hb := (h b).1 (.tail _ (.head _))
      subst hb
      simp at hn
end Go.Proofs.Wheels
namespace Go.Proofs.Ytaliacnncemneaa.wheels
open Go.Abs Go.Proofs.Wheels

structure Can (wh : Int) (ln : Nat) (A : TT) : Prop where
  hw : 0 ≤ wh ∧ wh ≤ 255
  hln : 1 ≤ ln ∧ ln ≤ 20
  hA : MidT A
  hAr : ∀ t, t < ln → 0 ≤ A t 0 ∧ A t 0 ≤ 65535

section
variable (wh : Int) (ln : Nat) (A : TT)
def cid : Int := wh % (ln : Int)
def ca : WS := adds A 3000 (WS.new 20) ln
def cb : WS := (ca ln A).wake (cid wh ln)
def cx : SkS := ⟨cb wh ln A, 3000, []⟩
def ce : SkS := skips 3000 (cx wh ln A)
def cd : WS := (ce wh ln A).s.add (cid wh ln) 1
def cf : WS := (cd wh ln A).fin
def scC : List Int := [wh, (ln : Int)] ++ ((ca ln A).cs ++ ((cb wh ln A).cs ++ ((ce wh ln A).s.cs ++ ([((ce wh ln A).k : Int)] ++ ((cd wh ln A).cs ++ ([1] ++ ((List.range 41).map (lenOf (ce wh ln A)) ++ (cf wh ln A).cs)))))))
def tbC : List TT := [A, idT 148, negT 20, (ca ln A).when_] ++ ((ca ln A).k.list ++ ((cb wh ln A).k.list ++ ([zeroT] ++ ((List.range 41).map (tabOf (ce wh ln A)) ++ ([(ce wh ln A).s.when_] ++ ((ce wh ln A).s.k.list ++ ((cd wh ln A).k.list ++ ([(cf wh ln A).when_] ++ ((cf wh ln A).k.list ++ [listT [cid wh ln]])))))))))
def canE : Nat → Int := encL (scC wh ln A) (tbC wh ln A)
end

section
variable {wh : Int} {ln : Nat} {A : TT} (hC : Can wh ln A)
include hC
theorem cid_in : 0 ≤ cid wh ln ∧ cid wh ln < ln := by
  have h := hC.hln
  exact ⟨Int.emod_nonneg _ (by omega), Int.emod_lt_of_pos _ (by omega)⟩
theorem ca_i : AdI A 3000 (WS.new 20) ln := adds_inv (new_inv (by omega) (by omega)) (fun _ _ _ => rfl) (by omega) (by omega) (by have := hC.hln; show (ln : Int) ≤ 20; omega)
theorem ca_mid : WMid (ca ln A) := adds_mid (new_inv (by omega) (by omega)) (new_mid (by omega)) (fun _ _ _ => rfl) (by omega) (by omega) (by have := hC.hln; show (ln : Int) ≤ 20; omega)
theorem ca_n : (ca ln A).n = 20 := (ca_i hC).n
theorem ca_now : (ca ln A).now = 0 := (ca_i hC).now
theorem ca_when {t : Int} (t0 : 0 ≤ t) (t1 : t < 20) : g0 (ca ln A).when_ t = if t < ln then addA A 3000 t.toNat else 0 := by
  have h := (ca_i hC).w t t0 t1
  have e : (WS.new 20).now = 0 := rfl
  rw [e] at h
  rw [show g0 (ca ln A).when_ t = _ from h]
  split
  · omega
  · rfl
theorem ca_c : 1 ≤ g0 (ca ln A).when_ (cid wh ln) ∧ g0 (ca ln A).when_ (cid wh ln) ≤ 3000 := by
  have hc := cid_in hC
  have hl := hC.hln
  rw [ca_when hC hc.1 (by omega), if_pos hc.2]
  have h1 := Int.emod_nonneg (A (cid wh ln).toNat 0) (show (3000 : Int) ≠ 0 by omega)
  have h2 := Int.emod_lt_of_pos (A (cid wh ln).toNat 0) (show (0 : Int) < 3000 by omega)
  unfold addA
  omega
theorem cb_all : g0 (ca ln A).k.L (cid wh ln) ≠ -1 ∧ ∃ q, WInv (cb wh ln A) q := by
  obtain ⟨q, hq⟩ := (ca_i hC).q
  have hc := cid_in hC
  have hl := hC.hln
  have hn := ca_n hC
  have h1 := (ca_c hC).1
  exact cancel_inv (s := ca ln A) hq hc.1 (by rw [hn]; omega) (by omega)
theorem cb_mid : WMid (cb wh ln A) := by
  obtain ⟨q, hq⟩ := (ca_i hC).q
  have hc := cid_in hC
  have hl := hC.hln
  have hn := ca_n hC
  have ho := (ca_mid hC).out hq.toWBase (t := cid wh ln) ⟨hc.1, by rw [hn]; omega⟩ (cb_all hC).1
  exact ⟨ho.now, ho.w.up (i64 (by omega) (by omega)), ho.k⟩
omit hC in
theorem cb_when {t : Int} (t0 : 0 ≤ t) : g0 (cb wh ln A).when_ t = if t = cid wh ln then 0 else g0 (ca ln A).when_ t := by
  show g0 (up (ca ln A).when_ (cid wh ln) 0) t = _
  rw [up_at t0]
theorem cb_n : (cb wh ln A).n = 20 := ca_n hC
theorem cb_now : (cb wh ln A).now = 0 := ca_now hC
theorem cb_wait : (cb wh ln A).wait ≤ 20 := by
  have := (cntP_pos (p := fun t => !decide (g0 (cb wh ln A).when_ t = 0)) (n := (cb wh ln A).n.toNat)).2
  have hn := cb_n hC
  unfold WS.wait
  rw [hn] at this ⊢
  exact this
theorem cx_inv {N : Nat} (hN : 20 ≤ N) : SkInv N (cx wh ln A) := by
  have hw := cb_wait hC
  refine ⟨(cb_all hC).2, cb_mid hC, ?_, ?_, fun l hl => (List.not_mem_nil hl).elim, ?_⟩
  · show (cb wh ln A).now + ((3000 : Nat) : Int) + 1 ≤ _
    rw [cb_now hC]; omega
  · show (3000 : Nat) ≤ 100000; omega
  · show ((0 : Nat) : Int) + (cb wh ln A).wait ≤ _
    omega
theorem ce_end : SkEnd 20 (cx wh ln A) (ce wh ln A) := skips_end (cx_inv hC (Nat.le_refl _)) rfl
theorem ce_now : (ce wh ln A).s.now = 3000 := by
  rw [(ce_end hC).now]
  show (cb wh ln A).now + ((3000 : Nat) : Int) = _
  rw [cb_now hC]; omega
theorem ce_n : (ce wh ln A).s.n = 20 := (ce_end hC).n.trans (cb_n hC)
theorem ce_wait : (ce wh ln A).s.wait = 0 := by
  refine (ce_end hC).none fun t t0 t1 => ?_
  have t1 : t < (cb wh ln A).n := t1
  rw [cb_n hC] at t1
  show g0 (cb wh ln A).when_ t ≤ (cb wh ln A).now + ((3000 : Nat) : Int)
  rw [cb_now hC, cb_when t0]
  split
  · omega
  · rw [ca_when hC t0 t1]
    split
    · have h2 := Int.emod_lt_of_pos (A t.toNat 0) (show (0 : Int) < 3000 by omega)
      unfold addA
      omega
    · omega
theorem ce_not : ∀ l ∈ (ce wh ln A).past, ∀ x ∈ l, x ≠ cid wh ln := fun l hl x hx => by
  rcases (ce_end hC).new l hl with g | g
  · exact (List.not_mem_nil g).elim
  · obtain ⟨x0, x1⟩ := g x hx
    intro e
    refine x1 ?_
    show g0 (cb wh ln A).when_ x = 0
    rw [cb_when x0, if_pos e]
theorem ce_c : g0 (ce wh ln A).s.when_ (cid wh ln) = 0 := by
  have hc := cid_in hC
  have hl := hC.hln
  exact wait_zero (ce_wait hC) hc.1 (by rw [ce_n hC]; omega)
theorem cd_inv : ∃ q, WInv (cd wh ln A) q := by
  obtain ⟨q, hq⟩ := (ce_end hC).q
  have hc := cid_in hC
  have hl := hC.hln
  exact add_inv hq hc.1 (by rw [ce_n hC]; omega) (ce_c hC) (by omega) (by omega)
theorem cd_mid : WMid (cd wh ln A) := by
  obtain ⟨q, hq⟩ := (ce_end hC).q
  have hc := cid_in hC
  have hl := hC.hln
  exact add_mid hq (ce_end hC).mid hc.1 (by rw [ce_n hC]; omega) (by omega) (by omega)
theorem cd_n : (cd wh ln A).n = 20 := ce_n hC
theorem cd_now : (cd wh ln A).now = 3000 := ce_now hC
theorem cd_when {t : Int} (t0 : 0 ≤ t) (t1 : t < 20) : g0 (cd wh ln A).when_ t = if t = cid wh ln then 3001 else 0 := by
  show g0 (up (ce wh ln A).s.when_ (cid wh ln) ((ce wh ln A).s.now + 1)) t = _
  rw [up_at t0, ce_now hC]
  split
  · rfl
  · exact wait_zero (ce_wait hC) t0 (by rw [ce_n hC]; exact t1)
theorem cd_raw : (cd wh ln A).raw = [cid wh ln] := by
  obtain ⟨q, hq⟩ := cd_inv hC
  have hn := cd_n hC
  have hnow := cd_now hC
  have hc := cid_in hC
  have hl := hC.hln
  obtain ⟨qt, qf, ha⟩ := tk_all hq (cd_mid hC) (by omega)
  refine one_list ha.wk.nd fun x => ?_
  rw [raw_mem ha, hn, hnow]
  refine ⟨fun ⟨x0, x1, x2⟩ => ?_, fun e => ?_⟩
  · rw [cd_when hC x0 x1] at x2
    split at x2
    · assumption
    · omega
  · subst e
    exact ⟨hc.1, by omega, by rw [cd_when hC hc.1 (by omega), if_pos rfl]; rfl⟩
theorem cf_all : (∃ q, WInv (cf wh ln A) q) ∧ WMid (cf wh ln A) := by
  obtain ⟨q, hq⟩ := cd_inv hC
  have hnow := cd_now hC
  obtain ⟨qt, qf, ha⟩ := tk_all hq (cd_mid hC) (by omega)
  exact ⟨⟨qf, ha.fin⟩, ha.finM⟩
end

/-! ### The environment -/

section
variable {wh : Int} {ln : Nat} {A : TT}
theorem ce_one {i : Nat} {x : Int} (h : (scC wh ln A)[i]? = some x) (hi : i < 128) : canE wh ln A i = x := encL_one h hi
theorem ce_tab {a : Nat} {X : TT} (h : (tbC wh ln A)[a - 128]? = some X) (h1 : 128 ≤ a) (h2 : a < 256) : RowEq (tabE (canE wh ln A) a) X := encL_tab h h1 h2
theorem ce_len {i : Nat} (hi : i < 41) : canE wh ln A (20 + i) = lenOf (ce wh ln A) i := by
  refine ce_one ?_ (by omega)
  rw [Nat.add_comm 20 i]
  show ((List.range 41).map (lenOf (ce wh ln A)) ++ (cf wh ln A).cs)[i]? = _
  rw [List.getElem?_append_left (by simpa using hi), List.getElem?_map, List.getElem?_range hi]
  rfl
theorem ce_lt {i : Nat} (hi : i < 41) : RowEq (tabE (canE wh ln A) (141 + i)) (tabOf (ce wh ln A) i) := by
  refine ce_tab ?_ (by omega) (by omega)
  rw [show 141 + i - 128 = i + 13 by omega]
  show ((List.range 41).map (tabOf (ce wh ln A)) ++ ([(ce wh ln A).s.when_] ++ ((ce wh ln A).s.k.list ++ ((cd wh ln A).k.list ++ ([(cf wh ln A).when_] ++ ((cf wh ln A).k.list ++ [listT [cid wh ln]]))))))[i]? = _
  rw [List.getElem?_append_left (by simpa using hi), List.getElem?_map, List.getElem?_range hi]
  rfl
theorem ce_c3 {i : Nat} {x : Int} (h : (cf wh ln A).cs[i]? = some x) (hi : i < 4) : canE wh ln A (61 + i) = x := by
  refine ce_one ?_ (by omega)
  rw [show 61 + i = (41 + i) + 20 by omega]
  show ((List.range 41).map (lenOf (ce wh ln A)) ++ (cf wh ln A).cs)[41 + i]? = _
  rw [List.getElem?_append_right (by simp)]
  simpa using h
theorem ce_t3 {i : Nat} {X : TT} (h : ([(ce wh ln A).s.when_] ++ ((ce wh ln A).s.k.list ++ ((cd wh ln A).k.list ++ ([(cf wh ln A).when_] ++ ((cf wh ln A).k.list ++ [listT [cid wh ln]])))))[i]? = some X) (hi : i < 15) : RowEq (tabE (canE wh ln A) (182 + i)) X := by
  refine ce_tab ?_ (by omega) (by omega)
  rw [show 182 + i - 128 = (41 + i) + 13 by omega]
  show ((List.range 41).map (tabOf (ce wh ln A)) ++ ([(ce wh ln A).s.when_] ++ ((ce wh ln A).s.k.list ++ ((cd wh ln A).k.list ++ ([(cf wh ln A).when_] ++ ((cf wh ln A).k.list ++ [listT [cid wh ln]]))))))[41 + i]? = _
  rw [List.getElem?_append_right (by simp)]
  simpa using h
theorem c_0 : canE wh ln A 0 = wh := ce_one rfl (by decide)
theorem c_1 : canE wh ln A 1 = ln := ce_one rfl (by decide)
theorem c_14 : canE wh ln A 14 = (ce wh ln A).k := ce_one rfl (by decide)
theorem c_19 : canE wh ln A 19 = 1 := ce_one rfl (by decide)
theorem c_ca {r : Nat} (hr : r < 4) : cE (canE wh ln A) cCa r = (ca ln A).c r := by
  rcases (show r = 0 ∨ r = 1 ∨ r = 2 ∨ r = 3 by omega) with rfl | rfl | rfl | rfl
  · exact ce_one (wh := wh) (i := 2) rfl (by decide)
  · exact ce_one (wh := wh) (i := 3) rfl (by decide)
  · exact ce_one (wh := wh) (i := 4) rfl (by decide)
  · exact ce_one (wh := wh) (i := 5) rfl (by decide)
theorem c_cb {r : Nat} (hr : r < 4) : cE (canE wh ln A) cCb r = (cb wh ln A).c r := by
  rcases (show r = 0 ∨ r = 1 ∨ r = 2 ∨ r = 3 by omega) with rfl | rfl | rfl | rfl
  · exact ce_one (i := 6) rfl (by decide)
  · exact ce_one (i := 7) rfl (by decide)
  · exact ce_one (i := 8) rfl (by decide)
  · exact ce_one (i := 9) rfl (by decide)
theorem c_ce {r : Nat} (hr : r < 4) : cE (canE wh ln A) cCc r = (ce wh ln A).s.c r := by
  rcases (show r = 0 ∨ r = 1 ∨ r = 2 ∨ r = 3 by omega) with rfl | rfl | rfl | rfl
  · exact ce_one (i := 10) rfl (by decide)
  · exact ce_one (i := 11) rfl (by decide)
  · exact ce_one (i := 12) rfl (by decide)
  · exact ce_one (i := 13) rfl (by decide)
theorem c_cd {r : Nat} (hr : r < 4) : cE (canE wh ln A) cCd r = (cd wh ln A).c r := by
  rcases (show r = 0 ∨ r = 1 ∨ r = 2 ∨ r = 3 by omega) with rfl | rfl | rfl | rfl
  · exact ce_one (i := 15) rfl (by decide)
  · exact ce_one (i := 16) rfl (by decide)
  · exact ce_one (i := 17) rfl (by decide)
  · exact ce_one (i := 18) rfl (by decide)
theorem c_cf {r : Nat} (hr : r < 4) : cE (canE wh ln A) cCe r = (cf wh ln A).c r := by
  rcases (show r = 0 ∨ r = 1 ∨ r = 2 ∨ r = 3 by omega) with rfl | rfl | rfl | rfl
  · exact ce_c3 (i := 0) rfl (by decide)
  · exact ce_c3 (i := 1) rfl (by decide)
  · exact ce_c3 (i := 2) rfl (by decide)
  · exact ce_c3 (i := 3) rfl (by decide)
theorem t_A : RowEq (tabE (canE wh ln A) 128) A := ce_tab (a := 128) rfl (by decide) (by decide)
theorem t_T : RowEq (tabE (canE wh ln A) 129) (idT 148) := ce_tab (a := 129) rfl (by decide) (by decide)
theorem t_U : RowEq (tabE (canE wh ln A) 130) (negT 20) := ce_tab (a := 130) rfl (by decide) (by decide)
theorem t_aw : RowEq (tabE (canE wh ln A) 131) (ca ln A).when_ := ce_tab (a := 131) rfl (by decide) (by decide)
theorem t_ak : LKEq (lkE (canE wh ln A) cKa) (ca ln A).k := ⟨ce_tab (a := 132) rfl (by decide) (by decide), ce_tab (a := 133) rfl (by decide) (by decide), ce_tab (a := 134) rfl (by decide) (by decide), ce_tab (a := 135) rfl (by decide) (by decide)⟩
theorem t_bk : LKEq (lkE (canE wh ln A) cKb) (cb wh ln A).k := ⟨ce_tab (a := 136) rfl (by decide) (by decide), ce_tab (a := 137) rfl (by decide) (by decide), ce_tab (a := 138) rfl (by decide) (by decide), ce_tab (a := 139) rfl (by decide) (by decide)⟩
theorem t_ew : RowEq (tabE (canE wh ln A) 182) (ce wh ln A).s.when_ := ce_t3 (i := 0) rfl (by decide)
theorem t_ek : LKEq (lkE (canE wh ln A) cKc) (ce wh ln A).s.k := ⟨ce_t3 (i := 1) rfl (by decide), ce_t3 (i := 2) rfl (by decide), ce_t3 (i := 3) rfl (by decide), ce_t3 (i := 4) rfl (by decide)⟩
theorem t_dk : LKEq (lkE (canE wh ln A) cKd) (cd wh ln A).k := ⟨ce_t3 (i := 5) rfl (by decide), ce_t3 (i := 6) rfl (by decide), ce_t3 (i := 7) rfl (by decide), ce_t3 (i := 8) rfl (by decide)⟩
theorem t_fw : RowEq (tabE (canE wh ln A) 191) (cf wh ln A).when_ := ce_t3 (i := 9) rfl (by decide)
theorem t_fk : LKEq (lkE (canE wh ln A) cKe) (cf wh ln A).k := ⟨ce_t3 (i := 10) rfl (by decide), ce_t3 (i := 11) rfl (by decide), ce_t3 (i := 12) rfl (by decide), ce_t3 (i := 13) rfl (by decide)⟩
theorem t_l : RowEq (tabE (canE wh ln A) 196) (listT [cid wh ln]) := ce_t3 (i := 14) rfl (by decide)

theorem cLen_le (hC : Can wh ln A) (i : Nat) : 0 ≤ lenOf (ce wh ln A) i ∧ lenOf (ce wh ln A) i ≤ 4096 := by
  unfold lenOf
  cases e : (ce wh ln A).past[i]? with
  | none => exact ⟨Int.le_refl _, by show (0 : Int) ≤ 4096; omega⟩
  | some l =>
    have := ((ce_end hC).past l (List.mem_of_getElem? e)).1
    show 0 ≤ (l.length : Int) ∧ (l.length : Int) ≤ 4096
    omega
theorem cTab_mid (hC : Can wh ln A) (i : Nat) : MidT (tabOf (ce wh ln A) i) := by
  unfold tabOf
  cases e : (ce wh ln A).past[i]? with
  | none => exact zeroT_mid
  | some l =>
    have hp := ((ce_end hC).past l (List.mem_of_getElem? e)).2
    have hn := ce_n hC
    exact listT_mid fun t ht => by
      have := hp t ht
      exact i64 (by omega) (by omega)
theorem canE_mid (hC : Can wh ln A) : ∀ j, In64 (canE wh ln A j) := by
  have hs := hC.hw
  have hl := hC.hln
  have hc := cid_in hC
  have he := ce_end hC
  have hk := he.k
  obtain ⟨q1, h1⟩ := (ca_i hC).q
  obtain ⟨q2, h2⟩ := (cb_all hC).2
  obtain ⟨q3, h3⟩ := he.q
  obtain ⟨q4, h4⟩ := cd_inv hC
  obtain ⟨⟨q5, h5⟩, m5⟩ := cf_all hC
  have m1 := ca_mid hC
  have m2 := cb_mid hC
  have m4 := cd_mid hC
  have app : ∀ {α : Type} {p : α → Prop} {l m : List α}, (∀ x ∈ l, p x) → (∀ x ∈ m, p x) → ∀ x ∈ l ++ m, p x := fun h1 h2 x hx => (List.mem_append.1 hx).elim (h1 x) (h2 x)
  have one : ∀ {α : Type} {p : α → Prop} {a : α}, p a → ∀ x ∈ [a], p x := fun h1 x hx => by
    simp only [List.mem_cons, List.not_mem_nil, or_false] at hx
    subst hx; exact h1
  refine encL_mid (app (fun x hx => ?_) (app h1.toWBase.cs_mid (app h2.toWBase.cs_mid (app h3.toWBase.cs_mid (app (one (i64 (by omega) (by omega))) (app h4.toWBase.cs_mid (app (one (i64 (by omega) (by omega))) (app (fun x hx => ?_) h5.toWBase.cs_mid))))))))
    (app (fun T hT => ?_) (app (LK.list_mid m1.k) (app (LK.list_mid m2.k) (app (one zeroT_mid) (app (fun T hT => ?_) (app (one he.mid.w) (app (LK.list_mid he.mid.k) (app (LK.list_mid m4.k) (app (one m5.w) (app (LK.list_mid m5.k) (fun T hT => ?_)))))))))))
  · simp only [List.mem_cons, List.not_mem_nil, or_false] at hx
    rcases hx with rfl | rfl
    all_goals exact i64 (by omega) (by omega)
  · obtain ⟨i, _, rfl⟩ := List.mem_map.1 hx
    have := cLen_le hC i
    exact i64 (by omega) (by omega)
  · simp only [List.mem_cons, List.not_mem_nil, or_false] at hT
    rcases hT with rfl | rfl | rfl | rfl
    · exact hC.hA
    · exact idT_mid (by omega)
    · exact negT_mid
    · exact m1.w
  · obtain ⟨i, _, rfl⟩ := List.mem_map.1 hT
    exact cTab_mid hC i
  · simp only [List.mem_cons, List.not_mem_nil, or_false] at hT
    subst hT
    exact listT_mid fun x hx => by
      simp only [List.mem_cons, List.not_mem_nil, or_false] at hx
      subst hx
      exact i64 (by omega) (by omega)
end
end Go.Proofs.Ytaliacnncemneaa.wheels

namespace Go.Proofs.Ytaliacnncemneaa.wheels
open Go.Abs Go.Proofs.Wheels

section
variable {wh : Int} {ln : Nat} {A : TT}
theorem cS_ev (hC : Can wh ln A) : cS.eval (canE wh ln A) = cid wh ln := by
  have hw := hC.hw
  show (canE wh ln A 0).tmod (canE wh ln A 1) = _
  rw [c_0, c_1, tmod_pos hw.1]; rfl

theorem new_wsC {env : Nat → Int} (hV : env = canE wh ln A) : WSEq (wsE env (L 20) (L 0) z4 zS KN) (WS.new 20) := by
  subst hV
  exact ⟨rfl, rfl, zS_row (canE wh ln A), ⟨t_T, t_T, t_U, zS_row (canE wh ln A)⟩, fun r hr => by
    rcases (show r = 0 ∨ r = 1 ∨ r = 2 ∨ r = 3 by omega) with rfl | rfl | rfl | rfl <;> rfl⟩
theorem ca_ws (hC : Can wh ln A) : WSEq (wsE (canE wh ln A) (L 20) (L 0) cCa (.tab 131) cKa) (ca ln A) :=
  ⟨(ca_n hC).symm, (ca_now hC).symm, t_aw, t_ak, fun r hr => c_ca hr⟩
theorem cb_ws (hC : Can wh ln A) : WSEq (wsE (canE wh ln A) (L 20) (L 0) cCb wB cKb) (cb wh ln A) :=
  ⟨(cb_n hC).symm, (cb_now hC).symm, up_eq t_aw (cS_ev hC) rfl, t_bk, fun r hr => c_cb hr⟩
theorem ce_ws (hC : Can wh ln A) : WSEq (wsE (canE wh ln A) (L 20) (L 3000) cCc (.tab 182) cKc) (ce wh ln A).s :=
  ⟨(ce_n hC).symm, (ce_now hC).symm, t_ew, t_ek, fun r hr => c_ce hr⟩
theorem cd_ws (hC : Can wh ln A) : WSEq (wsE (canE wh ln A) (L 20) (L 3000) cCd wD cKd) (cd wh ln A) := by
  refine ⟨(cd_n hC).symm, (cd_now hC).symm, up_eq t_ew (cS_ev hC) ?_, t_dk, fun r hr => c_cd hr⟩
  rw [ce_now hC]; rfl

variable [F : Facts] [V : Vals]
theorem lc0_ok (hC : Can wh ln A) (hV : V.env = canE wh ln A) : LoopProof Try.prog [] (lc0 fns) := by
  have hw := hC.hw
  have hl := hC.hln
  refine ads_at (s := WS.new 20) (A := A) (ln := ln) adRunsB (new_wsC hV) (new_inv (by omega) (by omega)) (new_mid (by omega)) (fun _ _ _ => rfl) (by show (ln : Int) ≤ 20; omega) (by omega) ?_ ?_ hC.hA hC.hAr ?_ ?_ (fun r hr => ?_) ?_ ?_
  all_goals rw [hV]
  · exact c_1
  · exact t_A
  · show In64 (canE wh ln A 0); rw [c_0]; exact i64 (by omega) (by omega)
  · show (0 : Int) = mostA A 3000 false ln
    cases ln with
    | zero => rfl
    | succ k => unfold mostA; rw [if_neg (by simp)]
  · exact c_ca hr
  · exact t_aw
  · exact t_ak
theorem lc1_ok (hC : Can wh ln A) (hV : V.env = canE wh ln A) : LoopProof Try.prog [] (lc1 fns (ce wh ln A).past.length) := by
  have w := cb_ws hC
  rw [← hV] at w
  refine sk_at (s := cb wh ln A) (ki := 3000) w rfl (cx_inv hC (by omega)) rfl rfl ?_ ?_ (fun r hr => ?_) ?_ ?_ (by simp [lsV]) (by simp [tsV]) (fun i hi => ?_) (fun i hi => ?_)
  all_goals rw [hV]
  · exact (ce_now hC).symm
  · exact c_14
  · exact c_ce hr
  · exact t_ew
  · exact t_ek
  · unfold lsV
    rw [rangeMap _ hi]
    exact ce_len hi
  · unfold tsV
    rw [rangeMap _ hi]
    exact ce_lt hi
theorem lc2_ok (hC : Can wh ln A) (hV : V.env = canE wh ln A) {i : Nat} (hi : i < (ce wh ln A).past.length) : LoopProof Try.prog [] (lc2 fns (ce wh ln A).past.length i) := by
  have hroom := (ce_end hC).room
  have hm := List.getElem_mem hi
  obtain ⟨p1, p2⟩ := (ce_end hC).past _ hm
  have hn := ce_n hC
  have hc := cid_in hC
  have hl := hC.hln
  have hg : (ce wh ln A).past[i]? = some (ce wh ln A).past[i] := List.getElem?_eq_getElem hi
  have h1 := ce_len (wh := wh) (ln := ln) (A := A) (i := i) (by omega)
  have h2 := ce_lt (wh := wh) (ln := ln) (A := A) (i := i) (by omega)
  unfold lenOf at h1
  unfold tabOf at h2
  rw [hg] at h1 h2
  refine lk_proof (ci := cid wh ln) (ii := i) (ql := (ce wh ln A).past[i]) hroom ?_ rfl (i64 (by omega) (by omega)) (i64 (by omega) (by omega)) ?_ p1 ?_ (fun x hx => ?_) (fun x hx => ce_not hC _ hm x hx)
  · rw [hV]; exact cS_ev hC
  · rw [hV]; exact h1
  · rw [hV]; exact h2
  · have := p2 x hx
    exact i64 (by omega) (by omega)
theorem can_loops (hC : Can wh ln A) (hV : V.env = canE wh ln A) : ∀ S ∈ canL fns (ce wh ln A).past.length, LoopProof Try.prog [] S := fun S hS => by
  rcases List.mem_append.1 hS with hS | hS
  · simp only [List.mem_cons, List.not_mem_nil, or_false] at hS
    rcases hS with rfl | rfl
    · exact lc0_ok hC hV
    · exact lc1_ok hC hV
  · obtain ⟨i, hi, rfl⟩ := List.mem_map.1 hS
    exact lc2_ok hC hV (List.mem_range.1 hi)

theorem can_new (hV : V.env = canE wh ln A) : FunProof Try.prog [] (newS 7 20 PG (L 20) (.tab 129) (.tab 130)) :=
  new_proof runs20 rfl (by rw [hV]; exact t_T) (by rw [hV]; exact t_U)
theorem can_out (hC : Can wh ln A) (hV : V.env = canE wh ln A) : FunProof Try.prog [] (outS fns (L 20) (L 0) cCa cCb cS (.tab 131) cKa cKb) := by
  have w := ca_ws hC
  obtain ⟨q, hq⟩ := (ca_i hC).q
  have hc := cid_in hC
  have hl := hC.hln
  have e := out_eq w (cS_ev hC)
  refine out_proof (q := q) ?_ ?_ ?_ ?_ (fun r hr => ?_) ?_
  all_goals rw [hV]
  · exact WBase.of hq.toWBase w
  · exact (ca_mid hC).of w
  · rw [cS_ev hC]; exact ⟨hc.1, by show cid wh ln < 20; omega⟩
  · rw [cS_ev hC, show g0 (lkE (canE wh ln A) cKa).L (cid wh ln) = _ from t_ak.L.g _]
    exact (cb_all hC).1
  · rw [e.c r hr]
    exact c_cb hr
  · exact t_bk.trans e.k.symm
theorem can_add (hC : Can wh ln A) (hV : V.env = canE wh ln A) : FunProof Try.prog [] (addS 9 fns (L 20) (L 3000) cCc cCd cS (L 1) (.tab 182) wD cKc cKd) := by
  have w := ce_ws hC
  obtain ⟨q, hq⟩ := (ce_end hC).q
  have hc := cid_in hC
  have hl := hC.hln
  have e := add_congr w (t := cid wh ln) (a := 1)
  obtain ⟨s', hs'⟩ : ∃ s', s' = wsE (canE wh ln A) (L 20) (L 3000) cCc (.tab 182) cKc := ⟨_, rfl⟩
  rw [← hs'] at w e
  refine add_proof (s := s') (q := q) (ti := cid wh ln) (ai := 1) (by rw [hV]; exact hs'.symm) (hq.of w) ((ce_end hC).mid.of w) (by rw [hV]; exact cS_ev hC) rfl hc.1 (by rw [w.n, ce_n hC]; omega) (by rw [w.w.g]; exact ce_c hC) (by omega) (by omega) ?_ (fun r hr => ?_) ?_
  all_goals rw [hV]
  · exact (cd_ws hC).w.trans e.w.symm
  · rw [e.c r hr]; exact c_cd hr
  · exact t_dk.trans e.k.symm
theorem can_tick (hC : Can wh ln A) (hV : V.env = canE wh ln A) : FunProof Try.prog [] (tickS fns (L 20) (L 3000) (L 3001) cCd cCe (v 19) wD (.tab 191) cKd cKe (.tab 196) true) := by
  have w := cd_ws hC
  obtain ⟨q, hq⟩ := cd_inv hC
  have e := fin_congr w
  have er := raw_congr w
  obtain ⟨s', hs'⟩ : ∃ s', s' = wsE (canE wh ln A) (L 20) (L 3000) cCd wD cKd := ⟨_, rfl⟩
  rw [← hs'] at w e er
  rw [cd_raw hC] at er
  refine tick_proof sortC (s := s') (q := q) (by rw [hV]; exact hs'.symm) (hq.of w) ((cd_mid hC).of w) (by rw [w.now, cd_now hC]; omega) ?_ ?_ ?_ (fun r hr => ?_) ?_ ?_ ?_
  all_goals try rw [hV]
  · rw [er]; exact c_19
  · rw [w.now, cd_now hC]; rfl
  · exact t_fw.trans e.w.symm
  · rw [e.c r hr]; exact c_cf hr
  · exact t_fk.trans e.k.symm
  · rw [er, show sorted [cid wh ln] = [cid wh ln] by simp [sorted]]; exact t_l
  · rw [er]; simp
theorem can_funs (hC : Can wh ln A) (hV : V.env = canE wh ln A) : ∀ S ∈ canF fns, FunProof Try.prog [] S := fun S hS => by
  simp only [canF, List.mem_cons, List.not_mem_nil, or_false] at hS
  rcases hS with rfl | rfl | rfl | rfl
  · exact can_new hV
  · exact can_out hC hV
  · exact can_add hC hV
  · exact can_tick hC hV
end

section
variable {wh : Int} {ln : Nat} {A : TT}
theorem pcCan_ok (hC : Can wh ln A) : Fx (canE wh ln A) (pcCan (ce wh ln A).past.length) := by
  have hw := hC.hw
  have hl := hC.hln
  have hc := cid_in hC
  have hcs := cS_ev hC
  have hroom := (ce_end hC).room
  have hac := ca_c hC
  obtain ⟨q, hq⟩ := (ce_end hC).q
  refine .app (one_ok rfl) (.app (inR_ok ?_ ?_) (.app (inR_ok ?_ ?_) (.app (inR_ok ?_ ?_) (.app (one_ok (le_ok ?_)) (.app ?_ (.app (.cons (le_ok ?_) (.cons (eq_ok ?_) (.cons (eq_ok ?_) (one_ok (eq_ok ?_))))) (zeroC_ok hq (ce_wait hC) fun r hr => c_ce hr)))))))
  · show (0 : Int) ≤ canE wh ln A 0; rw [c_0]; exact hw.1
  · show canE wh ln A 0 ≤ 255; rw [c_0]; exact hw.2
  · show (1 : Int) ≤ canE wh ln A 1; rw [c_1]; omega
  · show canE wh ln A 1 ≤ 20; rw [c_1]; omega
  · rw [hcs]; exact hc.1
  · rw [hcs]; show _ ≤ (19 : Int); omega
  · rw [hcs]; show _ ≤ canE wh ln A 1 + (-1); rw [c_1]; omega
  · intro p hp
    obtain ⟨l, hl1, hl2⟩ := List.mem_flatten.1 hp
    obtain ⟨i, hi, rfl⟩ := List.mem_map.1 hl1
    have hi := List.mem_range.1 hi
    have := cLen_le hC i
    refine inR_ok (env := canE wh ln A) (lo := L 0) (e := v (20 + i)) (hi := L 4096) ?_ ?_ p hl2
    · show (0 : Int) ≤ canE wh ln A (20 + i); rw [ce_len (by omega)]; exact this.1
    · show canE wh ln A (20 + i) ≤ 4096; rw [ce_len (by omega)]; exact this.2
  · show (1 : Int) ≤ (sel 131 cS).eval (canE wh ln A)
    rw [show (sel 131 cS).eval (canE wh ln A) = _ from sel_eval _ 131 cS, hcs, t_aw.g]
    exact hac.1
  · exact c_19
  · rw [hcs]
    refine (sel_eval _ 196 (L 0)).trans ?_
    rw [t_l.g]
    rfl
  · refine (sel_eval _ 182 cS).trans ?_
    rw [hcs, t_ew.g]
    exact ce_c hC
end
end Go.Proofs.Ytaliacnncemneaa.wheels

namespace Go.Proofs.Ytaliacnncemneaa.wheels
open Go.Abs Go.Proofs.Wheels

theorem can_at {j : Nat} (h : j ≤ 20) : runCan (pcCan j) (canL fns j) (canF fns) true = true := by
  have k : ∀ (j : Nat), j ≤ 20 → runCan (pcCan j) (canL fns j) (canF fns) true = true
    | 0, _ => canJ_0
    | 1, _ => canJ_1
    | 2, _ => canJ_2
    | 3, _ => canJ_3
    | 4, _ => canJ_4
    | 5, _ => canJ_5
    | 6, _ => canJ_6
    | 7, _ => canJ_7
    | 8, _ => canJ_8
    | 9, _ => canJ_9
    | 10, _ => canJ_10
    | 11, _ => canJ_11
    | 12, _ => canJ_12
    | 13, _ => canJ_13
    | 14, _ => canJ_14
    | 15, _ => canJ_15
    | 16, _ => canJ_16
    | 17, _ => canJ_17
    | 18, _ => canJ_18
    | 19, _ => canJ_19
    | 20, _ => canJ_20
    | j + 21, h => by omega
  exact k j h

theorem walkC {pc : List (SB × Bool)} {env : Nat → Int} {ls : List LoopSpec} {fs : List FunSpec} (hpc : Fx env pc) (hmid : ∀ j, In64 (env j)) (hl : ∀ V : @Vals ⟨pc⟩, V.env = env → ∀ S ∈ ls, @LoopProof ⟨pc⟩ V Try.prog [] S) (hfs : ∀ V : @Vals ⟨pc⟩, V.env = env → ∀ S ∈ fs, @FunProof ⟨pc⟩ V Try.prog [] S) (hrun : runCan pc ls fs true = true)
    {x1 : Int} {len : Nat} {ra : Nat → Nat → Int} (E0 : env 0 = x1) (E1 : env 1 = len) (EA : RowEq (tabE env 128) ra) {w : World} {v0 : Value} (s0 : AftersIs w v0 true len ra) :
    Calls Try.prog 4 #[v0, .int .u8 x1] w fun e w' => e = .returned (.bool true) ∧ RowKit.Below w.heap.size w w' := by
  obtain ⟨b, o, l, cap, arr, el, fz, rfl, hlt, hcap, ha, hs, hr⟩ := s0
  subst hlt
  have env1 : ∀ q : Other, q.V.env = env → (v 1).eval q.V.env = (len : Int) := fun q h => by rw [h]; exact E1
  refine walkG (φ := (phi0 PG).put PG ⟨b, o, cap⟩) hpc hmid hl hfs hrun (fun q hq => add_tab (start0 q w) (phi0_none (Nat.le_refl _)) ?_ rfl (fun c t y e => by obtain ⟨p, hp, _⟩ := startL_get e; cases hp)) (fun c hc _ => ?_) (gl_ok _ fun c hc => put_other (by omega)) (fun q hq => ?_)
  · refine @rows_rb q.F q.V _ w b o len [.i .u16] ra arr el fz (.tab 128) (v 1) cap ha hs hr (env1 q hq) (fun r c hc => ?_)
    rw [hq]
    exact EA r c (by simp at hc; omega)
  · have hc : PG + 1 ≤ c := hc
    rw [put_other (by omega), phi0_none (by omega)]
  · exact @RL.cons q.F q.V _ _ _ _ _ (@RV.ss q.F q.V _ _ _ _ _ _ _ _ _ _ (Phi.put_self _ _ _) rfl (env1 q hq) ⟨hcap, Nat.le_of_eq (Nat.zero_add _)⟩ (fun _ => by simp)) (@RL.cons q.F q.V _ _ _ _ _ (@RV.sx q.F q.V _ _ _ _ (by show q.V.env 0 = x1; rw [hq]; exact E0)) (@RL.nil q.F q.V _))

theorem can_walk {e : Bool} {x1 : Int} {len : Nat} {ra : Nat → Nat → Int} (h0 : 0 ≤ x1 ∧ x1 ≤ 255) (h1 : (len : Int) ≤ 9223372036854775807) (hra : ∀ r c, In64 (ra r c)) (hrr : ∀ r, r < len → 0 ≤ ra r 0 ∧ ra r 0 ≤ 65535) {w : World} {v0 : Value} (s0 : AftersIs w v0 e len ra) :
    Calls Try.prog 4 #[v0, .int .u8 x1] w fun e w' => e = .returned (.bool true) ∧ RowKit.Below w.heap.size w w' := by
  have hmid : ∀ j, In64 (encL [x1, (len : Int)] [ra] j) := encL_mid (fun x hx => by
    simp only [List.mem_cons, List.not_mem_nil, or_false] at hx
    rcases hx with rfl | rfl
    · exact i64 (by omega) (by omega)
    · unfold In64; omega) (fun T hT => by
    simp only [List.mem_cons, List.not_mem_nil, or_false] at hT
    subst hT
    exact fun r c _ => hra r c)
  have o0 : encL [x1, (len : Int)] [ra] 0 = x1 := encL_one rfl (by decide)
  have o1 : encL [x1, (len : Int)] [ra] 1 = len := encL_one rfl (by decide)
  cases e with
  | false =>
    obtain ⟨hl0, p, c, rfl⟩ := s0
    subst hl0
    refine walkG (φ := phi0 PG) (pc := pcNo) (env := encL [x1, ((0 : Nat) : Int)] [ra]) (ls := []) (fs := []) (.app (one_ok rfl) (one_ok (eq_ok o1))) hmid (fun V hV S hS => by cases hS) (fun V hV S hS => by cases hS) can_nil (fun q hq => start0 q w) (fun b hb _ => phi0_none hb) (gl_ok _ fun _ _ => rfl) (fun q hq => ?_)
    exact @RL.cons q.F q.V _ _ _ _ _ (@RV.so q.F q.V _ _ _ _ _ rfl) (@RL.cons q.F q.V _ _ _ _ _ (@RV.sx q.F q.V _ _ _ _ (by show q.V.env 0 = x1; rw [hq]; exact o0)) (@RL.nil q.F q.V _))
  | true =>
    by_cases hz : len = 0
    · exact walkC (pc := pcNo) (env := encL [x1, (len : Int)] [ra]) (ls := []) (fs := []) (.app (one_ok rfl) (one_ok (eq_ok (by rw [show (v 1).eval (encL [x1, (len : Int)] [ra]) = len from o1, hz]; rfl)))) hmid (fun V hV S hS => by cases hS) (fun V hV S hS => by cases hS) can_no o0 o1 (encL_tab rfl (by decide) (by decide)) s0
    by_cases hl : len ≤ 20
    · have hC : Can x1 len ra := ⟨h0, ⟨by omega, hl⟩, fun r c _ => hra r c, hrr⟩
      exact walkC (pcCan_ok hC) (canE_mid hC) (fun V hV => @can_loops x1 len ra ⟨_⟩ V hC hV) (fun V hV => @can_funs x1 len ra ⟨_⟩ V hC hV) (can_at (ce_end hC).room) c_0 c_1 t_A s0
    · refine walkC (pc := pcBig) (env := encL [x1, (len : Int)] [ra]) (ls := []) (fs := []) (.app (one_ok rfl) (one_ok (nle_ok ?_))) hmid (fun V hV S hS => by cases hS) (fun V hV S hS => by cases hS) can_big o0 o1 (encL_tab rfl (by decide) (by decide)) s0
      show (20 : Int) < encL [x1, (len : Int)] [ra] 1
      rw [o1]; omega
end Go.Proofs.Ytaliacnncemneaa.wheels

namespace Go.Abs
variable {P : Program} {H : Type} {enc : TypeId × Value → H} {w : World} {base : Nat} {spare : Nat → Bool} {held : Bool}

theorem rows_in {t e : TypeId} {k : IntKind} {fuel b o len cap : Nat} {y : DataW H × List MemPlace} {arr : Array Value} {el : TypeId} {fz : Nat × Nat} (ht : P.underlying t = some (.slice e)) (he : P.underlying e = some (.int k)) (hz : P.cellsOf e = 1)
    (h : DataW.trod enc P w base spare held fuel t [.slice (some ⟨b, o, none⟩) len cap] = some y) (ha : w.heap[b]? = some (.cells arr el fz)) : ∀ (r : Nat) (n : Int), r < len → arr[o + (r * 1 + 0)]? = some (.int k n) → kmin k ≤ n ∧ n ≤ kmax k := by
  intro r n hr hx
  rcases DataW.trod_slice ht h with ⟨e, _⟩ | ⟨a, len', cap', elems, rest, m, _, e, _, hb, hl, hm, hlen, hel, _, _⟩
  · cases e
  · cases e
    have := hel r hr
    rw [List.getElem?_eq_getElem (by omega), hz, Option.bind_eq_some_iff] at this
    obtain ⟨cs', h1, h2⟩ := this
    obtain ⟨n', rfl, _, hw⟩ := DataW.trod_int he h2
    have hc := (World.cells?_some h1).2.2 0 (by omega)
    rw [add_addr, add_addr, cell_of ha] at hc
    rw [show o + (r * 1 + 0) = o + r * 1 + 0 by omega, hc] at hx
    simp only [List.getElem?_cons_zero, Option.some.injEq, Value.int.injEq, true_and] at hx
    subst hx
    simp only [Lit.wf, Bool.and_eq_true, decide_eq_true_eq] at hw
    exact has_mid hw
end Go.Abs
end
