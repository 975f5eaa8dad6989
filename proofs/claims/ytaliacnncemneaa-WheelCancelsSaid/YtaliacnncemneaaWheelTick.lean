/- Tick, New, Add. Conditions: those that each theorem names. -/
import Derived.Test.YtaliacnncemneaaWheelParts
open Go
noncomputable section

namespace Go.Proofs.Wheels
open Go.Abs

/-! ### Alike -/

theorem placeOf_eq {s s' : WS} (h : WSEq s s') (r : Nat) : placeOf r s.now = placeOf r s'.now := by rw [h.now]
theorem top_eq {s s' : WS} (h : WSEq s s') (r : Nat) : s.top r = s'.top r := by
  unfold WS.top
  rw [h.k.N.g, h.n, h.now]
theorem dn1_eq {s s' : WS} (h : WSEq s s') (r : Nat) : WSEq (s.dn1 r) (s'.dn1 r) := by
  unfold WS.dn1
  refine inn_eq (s := s.pop r) (s' := s'.pop r) ⟨h.n, h.now, h.w, remove_eq h.k (top_eq h r), fun i hi => ?_⟩ (top_eq h r)
  show bump s.c r (-1) i = bump s'.c r (-1) i
  unfold bump
  rw [h.c i hi]
theorem dnK_eq {r : Nat} : ∀ {m : Nat} {s s' : WS}, WSEq s s' → WSEq (WS.dnK r m s) (WS.dnK r m s') := by
  intro m
  induction m with
  | zero => intro s s' h; exact h
  | succ m ih => intro s s' h; exact ih (dn1_eq h r)
theorem many_eq {s s' : WS} (h : WSEq s s') (r : Nat) : s.many r = s'.many r := by
  unfold WS.many
  rw [h.k.C.g, h.now]
theorem WDn.of {s s' : WS} {q : Int → List Int} {r : Nat} (h : WDn s q r) (e : WSEq s' s) : WDn s' q r :=
  ⟨h.toWBase.of e, by rw [e.now]; exact h.now1, fun t t0 t1 => by
    rw [e.n] at t1
    rw [e.now, e.w.g, e.k.L.g]
    exact h.w t t0 t1⟩
theorem WWk.of {s s' : WS} {q : Int → List Int} {l : List Int} (h : WWk s q l) (e : WSEq s' s) : WWk s' q l :=
  ⟨h.toWBase.of e, by rw [e.now]; exact h.now1, h.nd, fun t => by rw [e.n, e.w.g, e.now]; exact h.mem t, fun t t0 t1 => by
    rw [e.n] at t1
    rw [e.now, e.w.g, e.k.L.g]
    exact h.w t t0 t1⟩
theorem WInv.of {s s' : WS} {q : Int → List Int} (h : WInv s q) (e : WSEq s' s) : WInv s' q :=
  ⟨h.toWBase.of e, fun t t0 t1 => by
    rw [e.n] at t1
    rw [e.now, e.w.g, e.k.L.g]
    exact h.w t t0 t1⟩
theorem wake_eq {s s' : WS} (h : WSEq s s') (t : Int) : WSEq (s.wake t) (s'.wake t) := by
  have ho := out_eq h (t := t) rfl
  exact ⟨ho.n, ho.now, up_eq h.w rfl rfl, ho.k, ho.c⟩
theorem wakes_eq : ∀ {l : List Int} {s s' : WS}, WSEq s s' → WSEq (WS.wakes l s) (WS.wakes l s') := by
  intro l
  induction l with
  | nil => intro s s' h; exact h
  | cons t l ih => intro s s' h; exact ih (wake_eq h t)
theorem down_mid {s : WS} {q : Int → List Int} {r : Nat} (h : WDn s q (r + 1)) (hm : WMid s) (hr1 : 1 ≤ r) (hr4 : r < 4) : WMid (s.down r) := by
  have key : ∀ (m : Nat) (s : WS) (q : Int → List Int), WDn s q (r + 1) → (q (placeOf r s.now)).length = m → WMid s → WMid (WS.dnK r m s) := by
    intro m
    induction m with
    | zero => intro s q _ _ hm; exact hm
    | succ m ih =>
      intro s q h hl hm
      cases hq : q (placeOf r s.now) with
      | nil => rw [hq] at hl; simp at hl
      | cons x l =>
        obtain ⟨e1, e2, e3, e4⟩ := h.toWBase.top hr4 hq
        obtain ⟨p0, _, _⟩ := placeOf_in (at_ := s.now) hr4
        have hL : g0 s.k.L x ≠ -1 := by omega
        have hp := pop_eq h.toWBase hr4 hq
        have ho := h.toWBase.out ⟨e2, e3⟩ hL
        have hmo := (hm.out h.toWBase ⟨e2, e3⟩ hL).inn ho (t := x) ⟨e2, e3⟩
        obtain ⟨q', g1, g2⟩ := h.step hr1 hr4 hq
        have ed : s.dn1 r = (s.out x).inn x := by unfold WS.dn1; rw [hp, e1]
        refine ih (s.dn1 r) q' g1 ?_ (by rw [ed]; exact hmo)
        rw [(dn1_keep (s := s) (r := r)).2.1, g2]
        rw [hq] at hl
        simpa using hl
  unfold WS.down
  split
  · exact key _ s q h (h.toWBase.many hr4).symm hm
  · exact hm

/-! ### The list that is told -/

def walkN (N : TT) : Nat → Int → List Int
  | 0, _ => []
  | m + 1, a => g0 N a :: walkN N m (g0 N a)
theorem seg_walk {N B : TT} : ∀ {l : List Int} {a b : Int}, Seg N B a l b → walkN N l.length a = l := by
  intro l
  induction l with
  | nil => intro a b _; rfl
  | cons x l ih =>
    intro a b h
    obtain ⟨h1, _, h3⟩ := h
    show g0 N a :: walkN N l.length (g0 N a) = x :: l
    rw [h1, ih h3]

/-- Whose time has come, in the list's order; the wheel behind it. -/
def WS.raw (s : WS) : List Int := walkN s.downs.k.N (s.downs.many 0) (s.downs.n + placeOf 0 s.downs.now)
def WS.fin (s : WS) : WS := WS.wakes s.raw s.downs
theorem raw_eq {s : WS} {q : Int → List Int} (h : WTk s.downs q) : s.raw = q (placeOf 0 s.downs.now) := by
  obtain ⟨p0, p1, _⟩ := placeOf_in (r := 0) (at_ := s.downs.now) (by omega)
  unfold WS.raw
  rw [h.toWBase.many (by omega)]
  exact seg_walk (h.rep.seg _ p0 p1)

/-! ### Tick -/

def tkC (i : Nat) : C4 := match i with
  | 0 => ⟨v 2, v 3, v 4, v 5⟩
  | 1 => ⟨v 7, v 8, v 9, v 10⟩
  | 2 => ⟨v 11, v 12, v 13, v 14⟩
  | 3 => ⟨v 15, v 16, v 17, v 18⟩
  | _ => ⟨v 19, v 20, v 21, v 22⟩
def tkK (i : Nat) : K4 := match i with
  | 0 => ⟨.tab 129, .tab 130, .tab 131, .tab 132⟩
  | 1 => ⟨.tab 134, .tab 135, .tab 136, .tab 137⟩
  | 2 => ⟨.tab 138, .tab 139, .tab 140, .tab 141⟩
  | 3 => ⟨.tab 142, .tab 143, .tab 144, .tab 145⟩
  | _ => ⟨.tab 148, .tab 149, .tab 150, .tab 151⟩
def nowT : SE := add (v 1) (L 1)
/-- Behind which row's going down (k rows go down): the stage ahead of row r. -/
def pre (k r : Nat) : Nat := if r = k then 0 else 3 - r
def cntE (k r : Nat) : SE := .sel (tkK (pre k r)).d (placeS r nowT) 0
def downL (f : Fns) (k r : Nat) : List LoopSpec := if r ≤ k then [dnS f r (v 0) nowT (tkC (pre k r)) (tkC (4 - r)) (placeS r nowT) (cntE k r) (.tab 128) (tkK (pre k r)) (tkK (4 - r))] else []
def last_ (k : Nat) : Nat := if k = 0 then 0 else 3
def headE (k : Nat) : SE := .sel (tkK (last_ k)).a (add (v 0) (placeS 0 nowT)) 0
def rawT : SE := .tab 147
def tickL (f : Fns) (ab : Code × Code) (k : Nat) (w : Bool) : List LoopSpec :=
  downL f k 3 ++ (downL f k 2 ++ (downL f k 1 ++ ([allS f ab (v 0) (placeS 0 nowT) (headE k) (v 6) (tkK (last_ k)).a rawT w] ++
    (if w then [wakeS f (v 0) nowT (tkC (last_ k)) (tkC 4) (v 6) (.tab 128) (.tab 146) (tkK (last_ k)) (tkK 4) rawT] else []))))
def tickF (f : Fns) (w : Bool) : List FunSpec := if w then [sortS f (v 6) rawT (.tab 133)] else []
def pcDown (k r : Nat) : List (SB × Bool) := [(.eq (.rem nowT (pwS r)) (L 0), decide (r ≤ k))] ++ (if r ≤ k then inR (L 0) (cntE k r) (L 4096) else [])
def pcTick (k : Nat) (w : Bool) : List (SB × Bool) := pcW ++ (pcDown k 3 ++ (pcDown k 2 ++ (pcDown k 1 ++ (inR (L 0) (headE k) n127 ++ (if w then inR (L 1) (v 6) (L 4096) else [])))))
def shT (G : Nat) : Nat → Shape
  | 0 => ⟨argsT 0 [.ptr G 0], wheelB G⟩
  | 1 => ⟨[(0, nilS)], wheelB G⟩
  | _ => ⟨[(0, ss (G + 7) (v 6))], wheelB G ++ [T1 133 (v 6)]⟩
def csTick (G k : Nat) (w : Bool) : Case :=
  ⟨pcTick k w, .ret, if w then 2 else 1, [.var 0, nowT] ++ ((tkC (if w then 4 else last_ k)).list ++ [v 6]), [if w then .tab 146 else .tab 128] ++ ((tkK (if w then 4 else last_ k)).list ++ [.tab 133]), if w then [G, G + 1, G + 2, G + 3, G + 4, G + 5, G + 6, G + 12] else []⟩
def tickS (f : Fns) (n now now' : SE) (c c' : C4) (m : SE) (w w' : SE) (K K' : K4) (T : SE) (some_ : Bool) : FunSpec :=
  ⟨f.tick, 1, shT f.G, fW n now c m, gK w K T, nmW, [⟨.ret, if some_ then 2 else 1, fW n now' c' m, gK w' K' T⟩], 7⟩
end Go.Proofs.Wheels
namespace Go.Proofs.Ytaliacnncemneaa.wheels
open Go.Abs Go.Proofs.Wheels

noncomputable def runT (k : Nat) (w : Bool) : Bool :=
  ((callL (csTick PG k w).pc (tickL fns abK k w) (tickF fns w)) (.f 12) [.ptr PG 0] ((shT PG 0).heap PG [])).every NN (@Case.chkF ⟨(csTick PG k w).pc⟩ PG 7 (shT PG (csTick PG k w).to) (csTick PG k w))
set_option maxRecDepth 1000000
theorem run_t00 : runT 0 false = true := by kernel_rfl
theorem run_t01 : runT 0 true = true := by kernel_rfl
theorem run_t10 : runT 1 false = true := by kernel_rfl
theorem run_t11 : runT 1 true = true := by kernel_rfl
theorem run_t20 : runT 2 false = true := by kernel_rfl
theorem run_t21 : runT 2 true = true := by kernel_rfl
theorem run_t30 : runT 3 false = true := by kernel_rfl
theorem run_t31 : runT 3 true = true := by kernel_rfl
end Go.Proofs.Ytaliacnncemneaa.wheels

namespace Go.Proofs.Ytaliacnncemneaa.wheels
open Go.Abs Go.Proofs.Wheels

theorem run_t {k : Nat} (hk : k ≤ 3) (w : Bool) : runT k w = true := by
  rcases (show k = 0 ∨ k = 1 ∨ k = 2 ∨ k = 3 by omega) with rfl | rfl | rfl | rfl <;> cases w
  · exact run_t00
  · exact run_t01
  · exact run_t10
  · exact run_t11
  · exact run_t20
  · exact run_t21
  · exact run_t30
  · exact run_t31

theorem callL_ok {pc : List (SB × Bool)} {ls : List LoopSpec} {fs : List FunSpec} (B : Nat) (V : @Vals ⟨pc⟩) (hl : ∀ S ∈ ls, @LoopProof ⟨pc⟩ V Try.prog [] S) (hf : ∀ S ∈ fs, @FunProof ⟨pc⟩ V Try.prog [] S) : @CallOK ⟨pc⟩ V Try.prog B (callL pc ls fs) := by
  letI F : Facts := ⟨pc⟩
  letI := manyLoops PG [] ls
  letI := manyLoops_tame hl
  exact callN_ok (funs_known (base := fun _ => none) ⟨manyLoops_ok hl B, (fun _ _ e => by cases e), fun _ _ e => by cases e⟩ hf) (fun _ h => region_any h) deep

theorem fxT : ShapesOK (shT PG) 7 [false, false, false, false, false, false, false] := fun i => by
  rcases i with _ | _ | i <;> exact ⟨by show (7 : Nat) ≤ _; first | exact Nat.le_refl 7 | exact Nat.le_succ 7, rfl, rfl⟩
set_option maxRecDepth 100000
theorem goodT1 : goodAt PG (shT PG 1) = true := by kernel_rfl
theorem goodT2 : goodAt PG (shT PG 2) = true := by kernel_rfl
theorem upsT : ∀ i, (shT PG i).ups 7 6 = true := fun i => by rcases i with _ | _ | i <;> kernel_rfl

/-- How many rows go down. -/
def rowsDn (now : Int) : Nat := if now % 32768 = 0 then 3 else if now % 1024 = 0 then 2 else if now % 32 = 0 then 1 else 0
theorem rowsDn_le {now : Int} : rowsDn now ≤ 3 := by
  unfold rowsDn
  repeat' split
  all_goals omega
theorem rowsDn_iff {now : Int} {r : Nat} (h1 : 1 ≤ r) (h4 : r < 4) : r ≤ rowsDn now ↔ now % pw r = 0 := by
  unfold rowsDn
  rcases (show r = 1 ∨ r = 2 ∨ r = 3 by omega) with rfl | rfl | rfl <;> simp only [pw] <;> repeat' split
  all_goals omega

/-- The wheel, row by row. -/
def stg (s : WS) : Nat → WS
  | 0 => s.tick
  | 1 => s.tick.down 3
  | 2 => (s.tick.down 3).down 2
  | _ => s.downs

theorem stg_down {s : WS} {r : Nat} (h1 : 1 ≤ r) (h4 : r < 4) : stg s (4 - r) = (stg s (3 - r)).down r := by
  rcases (show r = 1 ∨ r = 2 ∨ r = 3 by omega) with rfl | rfl | rfl <;> rfl
theorem stg_keep {s : WS} {i : Nat} : (stg s i).n = s.n ∧ (stg s i).now = s.now + 1 ∧ (stg s i).when_ = s.when_ := by
  have t : s.tick.n = s.n ∧ s.tick.now = s.now + 1 ∧ s.tick.when_ = s.when_ := ⟨rfl, rfl, rfl⟩
  have a3 := down_keep (s := s.tick) (r := 3)
  have a2 := down_keep (s := s.tick.down 3) (r := 2)
  have a1 := downs_keep (s := s)
  rcases i with _ | _ | _ | i
  · exact t
  · exact ⟨a3.1.trans t.1, a3.2.1.trans t.2.1, a3.2.2.trans t.2.2⟩
  · exact ⟨a2.1.trans (a3.1.trans t.1), a2.2.1.trans (a3.2.1.trans t.2.1), a2.2.2.trans (a3.2.2.trans t.2.2)⟩
  · exact a1
theorem down_not {s : WS} {r : Nat} (h1 : 1 ≤ r) (h4 : r < 4) (h : ¬ r ≤ rowsDn s.now) : s.down r = s := by
  unfold WS.down
  rw [if_neg (fun e => h ((rowsDn_iff h1 h4).2 e))]
/-- Ahead of the first row that goes down nothing has. -/
theorem stg_pre {s : WS} {r : Nat} (h1 : 1 ≤ r) (h4 : r < 4) (h : r ≤ rowsDn (s.now + 1)) : stg s (pre (rowsDn (s.now + 1)) r) = stg s (3 - r) := by
  unfold pre
  by_cases e : r = rowsDn (s.now + 1)
  · rw [if_pos e]
    have d3 : ¬ 3 ≤ rowsDn (s.now + 1) → stg s 1 = stg s 0 := fun h3 => down_not (s := s.tick) (by omega) (by omega) h3
    have d2 : ¬ 2 ≤ rowsDn (s.now + 1) → stg s 2 = stg s 0 := fun h2 => by
      have : stg s 2 = (stg s 1).down 2 := rfl
      rw [this, d3 (by omega)]
      exact down_not (s := s.tick) (by omega) (by omega) h2
    rcases (show r = 1 ∨ r = 2 ∨ r = 3 by omega) with rfl | rfl | rfl
    · exact (d2 (by omega)).symm
    · exact (d3 (by omega)).symm
    · rfl
  · rw [if_neg e]
theorem stg_last {s : WS} : stg s (last_ (rowsDn (s.now + 1))) = s.downs := by
  unfold last_
  by_cases e : rowsDn (s.now + 1) = 0
  · rw [if_pos e]
    have h3 : s.tick.down 3 = s.tick := down_not (by omega) (by omega) (by show ¬ 3 ≤ rowsDn (s.now + 1); omega)
    have h2 : s.tick.down 2 = s.tick := down_not (by omega) (by omega) (by show ¬ 2 ≤ rowsDn (s.now + 1); omega)
    have h1 : s.tick.down 1 = s.tick := down_not (by omega) (by omega) (by show ¬ 1 ≤ rowsDn (s.now + 1); omega)
    show s.tick = ((s.tick.down 3).down 2).down 1
    rw [h3, h2, h1]
  · rw [if_neg e]; rfl

theorem stg_inv {s : WS} {q : Int → List Int} (h : WInv s q) (hm : WMid s) (hnow : s.now + 1 ≤ 999000000) {r : Nat} (hr : r < 4) : ∃ q', WDn (stg s (3 - r)) q' (r + 1) ∧ WMid (stg s (3 - r)) := by
  have m0 : WMid s.tick := ⟨hnow, hm.w, hm.k⟩
  obtain ⟨q3, h3⟩ := h.tick.down (r := 3) (by omega) (by omega)
  have m3 := down_mid h.tick m0 (by omega) (by omega)
  obtain ⟨q2, h2⟩ := h3.down (r := 2) (by omega) (by omega)
  have m2 := down_mid h3 m3 (by omega) (by omega)
  obtain ⟨q1, h1⟩ := h2.down (r := 1) (by omega) (by omega)
  have m1 := down_mid h2 m2 (by omega) (by omega)
  rcases (show r = 0 ∨ r = 1 ∨ r = 2 ∨ r = 3 by omega) with rfl | rfl | rfl | rfl
  · exact ⟨q1, h1, m1⟩
  · exact ⟨q2, h2, m2⟩
  · exact ⟨q3, h3, m3⟩
  · exact ⟨q, h.tick, m0⟩

/-- A tick's numbers. -/
def encT (s : WS) : Nat → Int :=
  encL ([s.n, s.now] ++ (s.cs ++ ([(s.raw.length : Int)] ++ ((stg s 1).cs ++ ((stg s 2).cs ++ (s.downs.cs ++ s.fin.cs))))))
    ([s.when_] ++ (s.k.list ++ ([listT (sorted s.raw)] ++ ((stg s 1).k.list ++ ((stg s 2).k.list ++ (s.downs.k.list ++ ([s.fin.when_, listT s.raw] ++ s.fin.k.list)))))))

section
variable {s : WS}
theorem encT_0 : encT s 0 = s.n := encL_one rfl (by decide)
theorem encT_1 : encT s 1 = s.now := encL_one rfl (by decide)
theorem encT_6 : encT s 6 = s.raw.length := encL_one rfl (by decide)
theorem encT_w : RowEq (tabE (encT s) 128) s.when_ := encL_tab rfl (by decide) (by decide)
theorem encT_T : RowEq (tabE (encT s) 133) (listT (sorted s.raw)) := encL_tab rfl (by decide) (by decide)
theorem encT_fw : RowEq (tabE (encT s) 146) s.fin.when_ := encL_tab rfl (by decide) (by decide)
theorem encT_raw : RowEq (tabE (encT s) 147) (listT s.raw) := encL_tab rfl (by decide) (by decide)
theorem encT_k : LKEq (lkT (encT s) 129) s.k := ⟨encL_tab rfl (by decide) (by decide), encL_tab rfl (by decide) (by decide), encL_tab rfl (by decide) (by decide), encL_tab rfl (by decide) (by decide)⟩
theorem encT_k1 : LKEq (lkT (encT s) 134) (stg s 1).k := ⟨encL_tab rfl (by decide) (by decide), encL_tab rfl (by decide) (by decide), encL_tab rfl (by decide) (by decide), encL_tab rfl (by decide) (by decide)⟩
theorem encT_k2 : LKEq (lkT (encT s) 138) (stg s 2).k := ⟨encL_tab rfl (by decide) (by decide), encL_tab rfl (by decide) (by decide), encL_tab rfl (by decide) (by decide), encL_tab rfl (by decide) (by decide)⟩
theorem encT_k3 : LKEq (lkT (encT s) 142) s.downs.k := ⟨encL_tab rfl (by decide) (by decide), encL_tab rfl (by decide) (by decide), encL_tab rfl (by decide) (by decide), encL_tab rfl (by decide) (by decide)⟩
theorem encT_k4 : LKEq (lkT (encT s) 148) s.fin.k := ⟨encL_tab rfl (by decide) (by decide), encL_tab rfl (by decide) (by decide), encL_tab rfl (by decide) (by decide), encL_tab rfl (by decide) (by decide)⟩
theorem encT_c {i : Nat} (hi : i < 4) : encT s (2 + i) = s.c i ∧ encT s (7 + i) = (stg s 1).c i ∧ encT s (11 + i) = (stg s 2).c i ∧ encT s (15 + i) = s.downs.c i ∧ encT s (19 + i) = s.fin.c i := by
  rcases (show i = 0 ∨ i = 1 ∨ i = 2 ∨ i = 3 by omega) with rfl | rfl | rfl | rfl <;> exact ⟨encL_one rfl (by decide), encL_one rfl (by decide), encL_one rfl (by decide), encL_one rfl (by decide), encL_one rfl (by decide)⟩

theorem nowT_ev : nowT.eval (encT s) = s.now + 1 := by
  show encT s 1 + 1 = _
  rw [encT_1]

theorem tk_c {i : Nat} (hi : i ≤ 3) : ∀ r, r < 4 → cE (encT s) (tkC i) r = (stg s i).c r := fun r hr => by
  rcases (show i = 0 ∨ i = 1 ∨ i = 2 ∨ i = 3 by omega) with rfl | rfl | rfl | rfl <;> rcases (show r = 0 ∨ r = 1 ∨ r = 2 ∨ r = 3 by omega) with rfl | rfl | rfl | rfl
  · exact (encT_c (s := s) (i := 0) (by decide)).1
  · exact (encT_c (s := s) (i := 1) (by decide)).1
  · exact (encT_c (s := s) (i := 2) (by decide)).1
  · exact (encT_c (s := s) (i := 3) (by decide)).1
  · exact (encT_c (s := s) (i := 0) (by decide)).2.1
  · exact (encT_c (s := s) (i := 1) (by decide)).2.1
  · exact (encT_c (s := s) (i := 2) (by decide)).2.1
  · exact (encT_c (s := s) (i := 3) (by decide)).2.1
  · exact (encT_c (s := s) (i := 0) (by decide)).2.2.1
  · exact (encT_c (s := s) (i := 1) (by decide)).2.2.1
  · exact (encT_c (s := s) (i := 2) (by decide)).2.2.1
  · exact (encT_c (s := s) (i := 3) (by decide)).2.2.1
  · exact (encT_c (s := s) (i := 0) (by decide)).2.2.2.1
  · exact (encT_c (s := s) (i := 1) (by decide)).2.2.2.1
  · exact (encT_c (s := s) (i := 2) (by decide)).2.2.2.1
  · exact (encT_c (s := s) (i := 3) (by decide)).2.2.2.1
theorem tk_c4 : ∀ r, r < 4 → cE (encT s) (tkC 4) r = s.fin.c r := fun r hr => by
  rcases (show r = 0 ∨ r = 1 ∨ r = 2 ∨ r = 3 by omega) with rfl | rfl | rfl | rfl
  · exact (encT_c (s := s) (i := 0) (by decide)).2.2.2.2
  · exact (encT_c (s := s) (i := 1) (by decide)).2.2.2.2
  · exact (encT_c (s := s) (i := 2) (by decide)).2.2.2.2
  · exact (encT_c (s := s) (i := 3) (by decide)).2.2.2.2
theorem tk_k {i : Nat} (hi : i ≤ 3) : LKEq (lkE (encT s) (tkK i)) (stg s i).k := by
  rcases (show i = 0 ∨ i = 1 ∨ i = 2 ∨ i = 3 by omega) with rfl | rfl | rfl | rfl
  · exact encT_k
  · exact encT_k1
  · exact encT_k2
  · exact encT_k3
theorem tk_k4 : LKEq (lkE (encT s) (tkK 4)) s.fin.k := encT_k4

/-- Each stage, as it is told. -/
theorem tk_ws {i : Nat} (hi : i ≤ 3) : WSEq (wsE (encT s) (v 0) nowT (tkC i) (.tab 128) (tkK i)) (stg s i) := by
  obtain ⟨e1, e2, e3⟩ := stg_keep (s := s) (i := i)
  exact ⟨by rw [e1]; exact encT_0, by rw [e2]; exact nowT_ev, by rw [e3]; exact encT_w, tk_k hi, tk_c hi⟩

theorem tk_sel {i : Nat} (hi : i ≤ 3) (e : SE) : (SE.sel (tkK i).d e 0).eval (encT s) = g0 (stg s i).k.C (e.eval (encT s)) ∧ (SE.sel (tkK i).a e 0).eval (encT s) = g0 (stg s i).k.N (e.eval (encT s)) := by
  have hk := tk_k (s := s) hi
  rcases (show i = 0 ∨ i = 1 ∨ i = 2 ∨ i = 3 by omega) with rfl | rfl | rfl | rfl
  · exact ⟨(sel_eval _ 132 e).trans (hk.C.g _), (sel_eval _ 129 e).trans (hk.N.g _)⟩
  · exact ⟨(sel_eval _ 137 e).trans (hk.C.g _), (sel_eval _ 134 e).trans (hk.N.g _)⟩
  · exact ⟨(sel_eval _ 141 e).trans (hk.C.g _), (sel_eval _ 138 e).trans (hk.N.g _)⟩
  · exact ⟨(sel_eval _ 145 e).trans (hk.C.g _), (sel_eval _ 142 e).trans (hk.N.g _)⟩

theorem place_ev (h : 0 ≤ s.now) (r : Nat) : (placeS r nowT).eval (encT s) = placeOf r (s.now + 1) := by
  rw [place_eval (by rw [nowT_ev]; omega), nowT_ev]
end

/-- All that a tick comes to. -/
structure TkAll (s : WS) (qt qf : Int → List Int) : Prop where
  tk : WTk s.downs qt
  raw : s.raw = qt (placeOf 0 s.downs.now)
  wk : WWk s.downs qt s.raw
  mid : WMid s.downs
  fin : WInv s.fin qf
  finM : WMid s.fin
  len : s.raw.length ≤ 4096
  th : ∀ t ∈ s.raw, 0 ≤ t ∧ t < s.n

theorem wakes_mid : ∀ {l : List Int} {s : WS} {q : Int → List Int}, WWk s q l → WMid s → WMid (WS.wakes l s) := by
  intro l
  induction l with
  | nil => intro s q _ h; exact h
  | cons t l ih =>
    intro s q h hm
    obtain ⟨hL, h1⟩ := h.step
    obtain ⟨t0, t1, _⟩ := (h.mem t).1 (.head _)
    have ho := hm.out h.toWBase ⟨t0, t1⟩ hL
    exact ih h1 ⟨ho.now, ho.w.up (i64 (by omega) (by omega)), ho.k⟩

theorem tk_all {s : WS} {q : Int → List Int} (h : WInv s q) (hm : WMid s) (hnow : s.now + 1 ≤ 999000000) : ∃ qt qf, TkAll s qt qf := by
  obtain ⟨qt, ht⟩ := h.downs
  obtain ⟨q0, _, m1⟩ := stg_inv h hm hnow (r := 0) (by omega)
  have m1 : WMid s.downs := m1
  have hr := raw_eq ht
  have wk : WWk s.downs qt s.raw := by rw [hr]; exact ht.start
  obtain ⟨qf, hf, _⟩ := wk.all
  have hth : ∀ t ∈ s.raw, 0 ≤ t ∧ t < s.n := fun t hts => by
    have := (wk.mem t).1 hts
    rw [downs_keep.1] at this
    exact ⟨this.1, this.2.1⟩
  have hn := h.rep.n1
  refine ⟨qt, qf, ht, hr, wk, m1, hf, wakes_mid wk m1, ?_, hth⟩
  have := nodup_len (n := s.n.toNat) wk.nd fun t ht => by
    have := hth t ht
    omega
  omega

theorem encT_mid {s : WS} {q qt qf : Int → List Int} (h : WInv s q) (hm : WMid s) (hnow : s.now + 1 ≤ 999000000) (ha : TkAll s qt qf) : ∀ j, In64 (encT s j) := by
  have hn := h.rep.n1
  have h0 := h.now0
  obtain ⟨q1, d1, e1⟩ := stg_inv h hm hnow (r := 2) (by omega)
  obtain ⟨q2, d2, e2⟩ := stg_inv h hm hnow (r := 1) (by omega)
  have d1 : WDn (stg s 1) q1 3 := d1
  have e1 : WMid (stg s 1) := e1
  have d2 : WDn (stg s 2) q2 2 := d2
  have e2 : WMid (stg s 2) := e2
  have hlen := ha.len
  have app : ∀ {α : Type} {p : α → Prop} {l m : List α}, (∀ x ∈ l, p x) → (∀ x ∈ m, p x) → ∀ x ∈ l ++ m, p x := fun h1 h2 x hx => (List.mem_append.1 hx).elim (h1 x) (h2 x)
  have one : ∀ {α : Type} {p : α → Prop} {a : α}, p a → ∀ x ∈ [a], p x := fun h1 x hx => by
    simp only [List.mem_cons, List.not_mem_nil, or_false] at hx
    subst hx; exact h1
  have two : ∀ {α : Type} {p : α → Prop} {a b : α}, p a → p b → ∀ x ∈ [a, b], p x := fun h1 h2 x hx => by
    simp only [List.mem_cons, List.not_mem_nil, or_false] at hx
    rcases hx with rfl | rfl
    · exact h1
    · exact h2
  have hth : ∀ t ∈ s.raw, In64 t := fun t ht => by
    have := ha.th t ht
    exact i64 (by omega) (by omega)
  refine encL_mid ?_ ?_
  · exact app (two (i64 (by omega) (by omega)) (i64 (by omega) (by omega))) (app h.toWBase.cs_mid (app (one (i64 (by omega) (by omega))) (app d1.toWBase.cs_mid (app d2.toWBase.cs_mid (app ha.tk.toWBase.cs_mid ha.fin.toWBase.cs_mid)))))
  · exact app (one hm.w) (app (LK.list_mid hm.k) (app (one (listT_mid fun x hx => hth x (sorted_mem.1 hx))) (app (LK.list_mid e1.k) (app (LK.list_mid e2.k) (app (LK.list_mid ha.mid.k) (app (two ha.finM.w (listT_mid hth)) (LK.list_mid ha.finM.k)))))))
end Go.Proofs.Ytaliacnncemneaa.wheels

namespace Go.Proofs.Ytaliacnncemneaa.wheels
open Go.Abs Go.Proofs.Wheels

section
variable {s : WS} {q qt qf : Int → List Int}

theorem stg_pre_le {k r : Nat} : pre k r ≤ 3 := by
  unfold pre
  split <;> omega
theorem last_le {k : Nat} : last_ k ≤ 3 := by
  unfold last_
  split <;> omega

/-- Ahead of a row that goes down. -/
theorem pre_ws {r : Nat} (h1 : 1 ≤ r) (h4 : r < 4) (hk : r ≤ rowsDn (s.now + 1)) : WSEq (wsE (encT s) (v 0) nowT (tkC (pre (rowsDn (s.now + 1)) r)) (.tab 128) (tkK (pre (rowsDn (s.now + 1)) r))) (stg s (3 - r)) := by
  have := tk_ws (s := s) (i := pre (rowsDn (s.now + 1)) r) stg_pre_le
  rw [stg_pre h1 h4 hk] at this
  exact this
theorem cnt_ev (h0 : 0 ≤ s.now) {r : Nat} (h1 : 1 ≤ r) (h4 : r < 4) (hk : r ≤ rowsDn (s.now + 1)) : (cntE (rowsDn (s.now + 1)) r).eval (encT s) = g0 (stg s (3 - r)).k.C (placeOf r (s.now + 1)) := by
  have := (tk_sel (s := s) (i := pre (rowsDn (s.now + 1)) r) stg_pre_le (placeS r nowT)).1
  rw [stg_pre h1 h4 hk, place_ev h0] at this
  exact this
theorem last_ws : WSEq (wsE (encT s) (v 0) nowT (tkC (last_ (rowsDn (s.now + 1)))) (.tab 128) (tkK (last_ (rowsDn (s.now + 1))))) s.downs := by
  have := tk_ws (s := s) (i := last_ (rowsDn (s.now + 1))) last_le
  rw [stg_last] at this
  exact this
theorem head_ev (h0 : 0 ≤ s.now) : (headE (rowsDn (s.now + 1))).eval (encT s) = g0 s.downs.k.N (s.n + placeOf 0 (s.now + 1)) := by
  have := (tk_sel (s := s) (i := last_ (rowsDn (s.now + 1))) last_le (add (v 0) (placeS 0 nowT))).2
  rw [stg_last] at this
  refine this.trans ?_
  show g0 s.downs.k.N (encT s 0 + (placeS 0 nowT).eval (encT s)) = _
  rw [encT_0, place_ev h0]

theorem down_at (h : WInv s q) (hm : WMid s) (hnow : s.now + 1 ≤ 999000000) {r : Nat} (h1 : 1 ≤ r) (h4 : r < 4) (hk : r ≤ rowsDn (s.now + 1)) [F : Facts] [V : Vals] (hV : V.env = encT s) :
    LoopProof Try.prog [] (dnS fns r (v 0) nowT (tkC (pre (rowsDn (s.now + 1)) r)) (tkC (4 - r)) (placeS r nowT) (cntE (rowsDn (s.now + 1)) r) (.tab 128) (tkK (pre (rowsDn (s.now + 1)) r)) (tkK (4 - r))) := by
  obtain ⟨q', d, e⟩ := stg_inv h hm hnow h4
  have w := pre_ws (s := s) h1 h4 hk
  have h0 := h.now0
  have hdn : (stg s (3 - r)).now % pw r = 0 := by
    rw [stg_keep.2.1]; exact (rowsDn_iff h1 h4).1 hk
  have hdown : WS.dnK r ((stg s (3 - r)).many r) (stg s (3 - r)) = stg s (4 - r) := by
    rw [stg_down h1 h4]
    unfold WS.down
    rw [if_pos hdn]
  obtain ⟨s', hs'⟩ : ∃ s', s' = wsE (encT s) (v 0) nowT (tkC (pre (rowsDn (s.now + 1)) r)) (.tab 128) (tkK (pre (rowsDn (s.now + 1)) r)) := ⟨_, rfl⟩
  rw [← hs'] at w
  have hfin : WSEq (WS.dnK r (s'.many r) s') (stg s (4 - r)) := by
    rw [← hdown, many_eq w]
    exact dnK_eq w
  have hnw : s'.now = s.now + 1 := w.now.trans stg_keep.2.1
  refine down_proof (q := q') (s := s') (fin := WS.dnK r (s'.many r) s') h1 h4 (by rw [hV]; exact hs'.symm) (d.of w) (e.of w) ?_ ?_ rfl (fun i hi => ?_) ?_
  · rw [hV, hnw]; exact place_ev h0 r
  · rw [hV, cnt_ev h0 h1 h4 hk, many_eq w]
    unfold WS.many
    rw [stg_keep.2.1]
    obtain ⟨p0, p1, _⟩ := placeOf_in (at_ := s.now + 1) h4
    have hc := d.rep.cnt _ p0 p1
    rw [hc]
    simp
  · rw [hV, hfin.c i hi]
    exact tk_c (by omega) i hi
  · rw [hV]
    exact (tk_k (s := s) (i := 4 - r) (by omega)).trans hfin.k.symm

theorem all_base (h : WInv s q) (ha : TkAll s qt qf) : AInv s.n (placeOf 0 (s.now + 1)) s.downs.k.N s.raw := by
  obtain ⟨p0, p1, _⟩ := placeOf_in (r := 0) (at_ := s.now + 1) (by omega)
  have hn := h.rep.n1
  have hseg := ha.tk.rep.seg _ p0 p1
  rw [downs_keep.1] at hseg
  have hr := ha.raw
  rw [downs_keep.2.1] at hr
  rw [← hr] at hseg
  exact ⟨by omega, ⟨p0, p1⟩, (seg_plc hseg).2, ha.th, ha.len, ha.mid.k.N⟩
theorem head_plc (h : WInv s q) (ha : TkAll s qt qf) : g0 s.downs.k.N (s.n + placeOf 0 (s.now + 1)) = plc s.raw (s.n + placeOf 0 (s.now + 1)) 0 := by
  obtain ⟨p0, p1, _⟩ := placeOf_in (r := 0) (at_ := s.now + 1) (by omega)
  have hseg := ha.tk.rep.seg _ p0 p1
  rw [downs_keep.1] at hseg
  have hr := ha.raw
  rw [downs_keep.2.1] at hr
  rw [← hr] at hseg
  exact (seg_plc hseg).1

theorem all_at (h : WInv s q) (ha : TkAll s qt qf) {w : Bool} (hw : w = true ↔ s.raw ≠ []) [F : Facts] [V : Vals] (hV : V.env = encT s) :
    LoopProof Try.prog [] (allS fns abK (v 0) (placeS 0 nowT) (headE (rowsDn (s.now + 1))) (v 6) (tkK (last_ (rowsDn (s.now + 1)))).a rawT w) := by
  have h0 := h.now0
  have b := all_base h ha
  have hN : RowEq (rowE (encT s) (tkK (last_ (rowsDn (s.now + 1)))).a) s.downs.k.N := (last_ws (s := s)).k.N
  have e0 : (v 0).eval (encT s) = s.n := encT_0
  refine all_proof (ql := s.raw) ?_ ?_ ?_ ?_ hw
  all_goals rw [hV]
  · rw [e0, place_ev h0]
    exact ⟨b.hn, b.hl, fun i hi => by rw [hN.g]; exact b.seg i hi, b.th, b.len, b.mid.of hN⟩
  · rw [e0, place_ev h0, head_ev h0]; exact head_plc h ha
  · exact encT_6
  · exact encT_raw

theorem wake_at (ha : TkAll s qt qf) [F : Facts] [V : Vals] (hV : V.env = encT s) :
    LoopProof Try.prog [] (wakeS fns (v 0) nowT (tkC (last_ (rowsDn (s.now + 1)))) (tkC 4) (v 6) (.tab 128) (.tab 146) (tkK (last_ (rowsDn (s.now + 1)))) (tkK 4) rawT) := by
  have w := last_ws (s := s)
  obtain ⟨s', hs'⟩ : ∃ s', s' = wsE (encT s) (v 0) nowT (tkC (last_ (rowsDn (s.now + 1)))) (.tab 128) (tkK (last_ (rowsDn (s.now + 1)))) := ⟨_, rfl⟩
  rw [← hs'] at w
  have hf : WSEq (WS.wakes s.raw s') s.fin := wakes_eq w
  refine wake_proof (q := qt) (s := s') (fin := WS.wakes s.raw s') (ql := s.raw) (by rw [hV]; exact hs'.symm) (ha.wk.of w) (ha.mid.of w) ?_ ?_ rfl ?_ (fun i hi => ?_) ?_
  all_goals rw [hV]
  · exact encT_6
  · exact encT_raw
  · exact encT_fw.trans hf.w.symm
  · rw [hf.c i hi]; exact tk_c4 i hi
  · exact tk_k4.trans hf.k.symm

theorem raw_mid (h : WInv s q) (ha : TkAll s qt qf) : ∀ t ∈ s.raw, In64 t := fun t ht => by
  have := ha.th t ht
  have hn := h.rep.n1
  exact i64 (by omega) (by omega)

theorem sort_at (hC : SortC Try.prog 27) (h : WInv s q) (ha : TkAll s qt qf) (hne : s.raw ≠ []) [F : Facts] [V : Vals] (hV : V.env = encT s) : FunProof Try.prog [] (sortS fns (v 6) rawT (.tab 133)) := by
  have hl : 1 ≤ s.raw.length := by
    cases e : s.raw with
    | nil => exact absurd e hne
    | cons a l => simp
  refine sort_ok (l := s.raw) hC ?_ hl ha.len (raw_mid h ha) ?_ ?_
  all_goals rw [hV]
  · exact encT_6
  · exact encT_raw
  · exact encT_T

theorem fact_dn (h : WInv s q) (hm : WMid s) (hnow : s.now + 1 ≤ 999000000) {r : Nat} (h1 : 1 ≤ r) (h4 : r < 4) : Fx (encT s) (pcDown (rowsDn (s.now + 1)) r) := by
  have h0 := h.now0
  refine .app (one_ok ?_) ?_
  · show decide ((nowT.eval (encT s)).tmod (pw r) = 0) = decide (r ≤ rowsDn (s.now + 1))
    rw [nowT_ev, tmod_pos (by omega)]
    exact decide_eq_decide.2 (rowsDn_iff h1 h4).symm
  · by_cases hk : r ≤ rowsDn (s.now + 1)
    · rw [if_pos hk]
      obtain ⟨q', d, e⟩ := stg_inv h hm hnow h4
      obtain ⟨p0, p1, _⟩ := placeOf_in (at_ := s.now + 1) h4
      have hc := d.rep.cnt _ p0 p1
      have hl := d.rep.len p0 p1
      have hn := d.rep.n1
      have ec := cnt_ev h0 h1 h4 hk
      rw [hc] at ec
      refine inR_ok ?_ ?_
      · rw [ec]; show (0 : Int) ≤ _; omega
      · rw [ec]; show _ ≤ (4096 : Int); omega
    · rw [if_neg hk]; exact .nil

theorem fact_tick (h : WInv s q) (hm : WMid s) (hnow : s.now + 1 ≤ 999000000) (ha : TkAll s qt qf) {w : Bool} (hw : w = true ↔ s.raw ≠ []) : Fx (encT s) (pcTick (rowsDn (s.now + 1)) w) := by
  have h0 := h.now0
  have hn := h.rep.n1
  refine .app (ws_facts h.toWBase hm encT_0 encT_1 fun r hr => (encT_c (s := s) hr).1) (.app (fact_dn h hm hnow (by omega) (by omega)) (.app (fact_dn h hm hnow (by omega) (by omega)) (.app (fact_dn h hm hnow (by omega) (by omega)) (.app ?_ ?_))))
  · obtain ⟨p0, p1, _⟩ := placeOf_in (r := 0) (at_ := s.now + 1) (by omega)
    have e : (headE (rowsDn (s.now + 1))).eval (encT s) = plc s.raw (s.n + placeOf 0 (s.now + 1)) 0 := (head_ev h0).trans (head_plc h ha)
    obtain ⟨b1, b2⟩ := (all_base h ha).at_ (i := 0) (Nat.zero_le _)
    have b : 0 ≤ plc s.raw (s.n + placeOf 0 (s.now + 1)) 0 ∧ plc s.raw (s.n + placeOf 0 (s.now + 1)) 0 ≤ s.n + 127 := by
      by_cases hz : 0 = s.raw.length
      · have := b2 hz; omega
      · have := b1 (by omega); omega
    refine inR_ok ?_ ?_
    · rw [e]; exact b.1
    · rw [e]; show _ ≤ encT s 0 + 127; rw [encT_0]; exact b.2
  · cases hb : w with
    | false => exact .nil
    | true =>
      have hne := hw.1 hb
      have hl : 1 ≤ s.raw.length := by
        cases e : s.raw with
        | nil => exact absurd e hne
        | cons a l => simp
      have := ha.len
      refine inR_ok ?_ ?_
      · show (1 : Int) ≤ encT s 6; rw [encT_6]; omega
      · show encT s 6 ≤ 4096; rw [encT_6]; omega
end

theorem gK_mid {env : Nat → Int} {w T : SE} {K : K4} (hw : MidT (rowE env w)) (hK : LKMid (lkE env K)) (hT : MidT (rowE env T)) : ∀ e ∈ gK w K T, MidT (rowE env e) := fun e he => by
  simp only [gK, List.mem_cons, List.not_mem_nil, or_false] at he
  rcases he with rfl | rfl | rfl | rfl | rfl | rfl
  · exact hw
  · exact hK.N
  · exact hK.B
  · exact hK.L
  · exact hK.C
  · exact hT

theorem fin_keep {s : WS} : s.fin.n = s.n ∧ s.fin.now = s.now + 1 := by
  have h := wakes_keep (l := s.raw) (s := s.downs)
  exact ⟨h.1.trans downs_keep.1, h.2.trans downs_keep.2.1⟩
end Go.Proofs.Ytaliacnncemneaa.wheels

namespace Go.Proofs.Ytaliacnncemneaa.wheels
open Go.Abs Go.Proofs.Wheels

/-- How a tick ends: which tables are told. -/
theorem end_ws {s : WS} {w : Bool} (hw : w = true ↔ s.raw ≠ []) :
    RowEq (tabE (encT s) (if w then 146 else 128)) s.fin.when_ ∧ LKEq (lkE (encT s) (tkK (if w then 4 else last_ (rowsDn (s.now + 1))))) s.fin.k ∧ (∀ r, r < 4 → cE (encT s) (tkC (if w then 4 else last_ (rowsDn (s.now + 1)))) r = s.fin.c r) := by
  cases hb : w with
  | true => exact ⟨encT_fw, tk_k4, tk_c4⟩
  | false =>
    have hr : s.raw = [] := by
      apply Classical.byContradiction
      intro hne
      have := hw.2 hne
      rw [hb] at this; cases this
    have hf : s.fin = s.downs := by unfold WS.fin; rw [hr]; rfl
    have w := last_ws (s := s)
    rw [hf]
    exact ⟨w.w, w.k, w.c⟩

theorem tick_proof [F : Facts] [V : Vals] (hC : SortC Try.prog 27) {n now now' m w w' T : SE} {c c' : C4} {K K' : K4} {some_ : Bool} {s : WS} {q : Int → List Int} (hs : wsE V.env n now c w K = s) (h : WInv s q) (hm : WMid s) (hnow : s.now + 1 ≤ 999000000)
    (hmany : m.eval V.env = s.raw.length) (hnow' : now'.eval V.env = s.now + 1) (hw' : RowEq (rowE V.env w') s.fin.when_) (hc' : ∀ r, r < 4 → cE V.env c' r = s.fin.c r) (hK' : LKEq (lkE V.env K') s.fin.k) (hT : RowEq (rowE V.env T) (listT (sorted s.raw))) (hsome : some_ = true ↔ s.raw ≠ []) :
    FunProof Try.prog [] (tickS fns n now now' c c' m w w' K K' T some_) := by
  obtain ⟨qt, qf, ha⟩ := tk_all h hm hnow
  have h0 := h.now0
  have hn := h.rep.n1
  have hlen := ha.len
  have sn : n.eval V.env = s.n := by rw [← hs]; rfl
  have snow : now.eval V.env = s.now := by rw [← hs]; rfl
  have sc : ∀ i, cE V.env c i = s.c i := fun i => by rw [← hs]; rfl
  have sw : rowE V.env w = s.when_ := by rw [← hs]; rfl
  have sk : lkE V.env K = s.k := by rw [← hs]; rfl
  have hmidT : MidT (rowE V.env T) := (listT_mid fun x hx => raw_mid h ha x (sorted_mem.1 hx)).of hT
  have hf' := fW_mid (V := V) (n := n) (now := now') (c := c') (t := m) (by rw [sn]; exact i64 (by omega) (by omega)) (by rw [hnow']; exact i64 (by omega) (by omega))
    (fun r hr => by
      rw [hc' r hr]
      have := ha.fin.toWBase.c_in hr
      have := fin_keep (s := s)
      exact i64 (by omega) (by omega)) (by rw [hmany]; exact i64 (by omega) (by omega))
  have hg' := gK_mid (env := V.env) (w := w') (K := K') (T := T) (ha.finM.w.of hw') (ha.finM.k.of hK') hmidT
  obtain ⟨d1, d2, d3⟩ := end_ws hsome
  obtain ⟨k, hk⟩ : ∃ k, k = rowsDn (s.now + 1) := ⟨_, rfl⟩
  have hk3 : k ≤ 3 := by rw [hk]; exact rowsDn_le
  rw [← hk] at d2 d3
  have run := run_t hk3 some_
  have hpc := fact_tick h hm hnow ha hsome
  rw [← hk] at hpc
  refine fun_proof (N := NN) (av := [.ptr PG 0]) (tickS fns n now now' c c' m w w' K K' T some_) noTabs fxT ?_ rfl rfl (σ := Nat → Int) id 7 6 (by decide) upsT (Nat.le_refl _) (Nat.le_refl _) (csTick PG k some_) (callL (csTick PG k some_).pc (tickL fns abK k some_) (tickF fns some_))
    (encT s) (inE (fW n now' c' m) (gK w' K' T) V.env)
    (fun B V' hV' => callL_ok B V' (fun S hS => ?_) (fun S hS => ?_)) ?_ hpc ?_ ?_ (encT_mid h hm hnow ha) (mid_into V.mid hf' hg') ?_ ?_ (o := ⟨.ret, if some_ then 2 else 1, fW n now' c' m, gK w' K' T⟩) (k := 0) rfl ?_
  · cases some_
    · exact good_one rfl goodT1
    · exact good_one rfl goodT2
  · have hV' : V'.env = encT s := hV'
    rw [hk] at hS
    simp only [tickL, List.mem_append, List.mem_cons, List.not_mem_nil, or_false] at hS
    have dn : ∀ r, 1 ≤ r → r < 4 → S ∈ downL fns (rowsDn (s.now + 1)) r → @LoopProof ⟨(csTick PG k some_).pc⟩ V' Try.prog [] S := fun r h1 h4 hS => by
      unfold downL at hS
      split at hS
      · rename_i hr
        simp only [List.mem_cons, List.not_mem_nil, or_false] at hS
        subst hS
        exact @down_at s q h hm hnow r h1 h4 hr ⟨_⟩ V' hV'
      · cases hS
    rcases hS with hS | hS | hS | hS | hS
    · exact dn 3 (by omega) (by omega) hS
    · exact dn 2 (by omega) (by omega) hS
    · exact dn 1 (by omega) (by omega) hS
    · subst hS
      exact @all_at s q qt qf h ha some_ hsome ⟨_⟩ V' hV'
    · split at hS
      · simp only [List.mem_cons, List.not_mem_nil, or_false] at hS
        subst hS
        exact @wake_at s qt qf ha ⟨_⟩ V' hV'
      · cases hS
  · have hV' : V'.env = encT s := hV'
    unfold tickF at hS
    split at hS
    · rename_i hb
      simp only [List.mem_cons, List.not_mem_nil, or_false] at hS
      subst hS
      exact @sort_at s q qt qf hC h ha (hsome.1 hb) ⟨_⟩ V' hV'
    · cases hS
  · exact run
  · show ([.var 0, nowT] ++ ((tkC (if some_ then 4 else last_ k)).list ++ [v 6])).length ≤ 7
    exact Nat.le_refl 7
  · show ([if some_ then SE.tab 146 else SE.tab 128] ++ ((tkK (if some_ then 4 else last_ k)).list ++ [SE.tab 133])).length ≤ 6
    exact Nat.le_refl 6
  · refine agree_of (by decide) (by decide) (fun i hi => ?_) (fun a h1 h2 => ?_)
    · rcases (show i = 0 ∨ i = 1 ∨ i = 2 ∨ i = 3 ∨ i = 4 ∨ i = 5 ∨ i = 6 by omega) with rfl | rfl | rfl | rfl | rfl | rfl | rfl
      · exact (show encT s 0 = _ from encT_0).trans (sn.symm.trans (show inE (fW n now' c' m) (gK w' K' T) V.env 0 = n.eval V.env from inE_one rfl (by decide)).symm)
      · exact nowT_ev.trans (hnow'.symm.trans (show inE (fW n now' c' m) (gK w' K' T) V.env 1 = now'.eval V.env from inE_one rfl (by decide)).symm)
      · exact (d3 0 (by decide)).trans ((hc' 0 (by decide)).symm.trans (show inE (fW n now' c' m) (gK w' K' T) V.env 2 = c'.a.eval V.env from inE_one rfl (by decide)).symm)
      · exact (d3 1 (by decide)).trans ((hc' 1 (by decide)).symm.trans (show inE (fW n now' c' m) (gK w' K' T) V.env 3 = c'.b.eval V.env from inE_one rfl (by decide)).symm)
      · exact (d3 2 (by decide)).trans ((hc' 2 (by decide)).symm.trans (show inE (fW n now' c' m) (gK w' K' T) V.env 4 = c'.c.eval V.env from inE_one rfl (by decide)).symm)
      · exact (d3 3 (by decide)).trans ((hc' 3 (by decide)).symm.trans (show inE (fW n now' c' m) (gK w' K' T) V.env 5 = c'.d.eval V.env from inE_one rfl (by decide)).symm)
      · exact (show encT s 6 = _ from encT_6).trans (hmany.symm.trans (show inE (fW n now' c' m) (gK w' K' T) V.env 6 = m.eval V.env from inE_one rfl (by decide)).symm)
    · have t : ∀ {a : Nat} {e : SE}, (gK w' K' T)[a - 128]? = some e → 128 ≤ a → a < 256 → RowEq (tabE (inE (fW n now' c' m) (gK w' K' T) V.env) a) (rowE V.env e) := fun h1 h2 h3 => inE_tab h1 h2 h3
      rcases (show a = 128 ∨ a = 129 ∨ a = 130 ∨ a = 131 ∨ a = 132 ∨ a = 133 by omega) with rfl | rfl | rfl | rfl | rfl | rfl
      · have : rowE (encT s) ((csTick PG k some_).gv 128) = tabE (encT s) (if some_ then 146 else 128) := by cases some_ <;> rfl
        show RowEq (rowE (encT s) ((csTick PG k some_).gv 128)) _
        rw [this]
        exact d1.trans (hw'.symm.trans (t (a := 128) (e := w') rfl (by decide) (by decide)).symm)
      · exact d2.N.trans (hK'.N.symm.trans (t (a := 129) (e := K'.a) rfl (by decide) (by decide)).symm)
      · exact d2.B.trans (hK'.B.symm.trans (t (a := 130) (e := K'.b) rfl (by decide) (by decide)).symm)
      · exact d2.L.trans (hK'.L.symm.trans (t (a := 131) (e := K'.c) rfl (by decide) (by decide)).symm)
      · exact d2.C.trans (hK'.C.symm.trans (t (a := 132) (e := K'.d) rfl (by decide) (by decide)).symm)
      · exact (show RowEq (tabE (encT s) 133) _ from encT_T).trans (hT.symm.trans (t (a := 133) (e := T) rfl (by decide) (by decide)).symm)
  · refine agree_of (by decide) (by decide) (fun i hi => ?_) (fun a h1 h2 => ?_)
    · rcases (show i = 0 ∨ i = 1 ∨ i = 2 ∨ i = 3 ∨ i = 4 ∨ i = 5 ∨ i = 6 by omega) with rfl | rfl | rfl | rfl | rfl | rfl | rfl
      · exact sn.trans encT_0.symm
      · exact snow.trans encT_1.symm
      · exact (sc 0).trans (encT_c (s := s) (i := 0) (by decide)).1.symm
      · exact (sc 1).trans (encT_c (s := s) (i := 1) (by decide)).1.symm
      · exact (sc 2).trans (encT_c (s := s) (i := 2) (by decide)).1.symm
      · exact (sc 3).trans (encT_c (s := s) (i := 3) (by decide)).1.symm
      · exact hmany.trans encT_6.symm
    · have ek := encT_k (s := s)
      rcases (show a = 128 ∨ a = 129 ∨ a = 130 ∨ a = 131 ∨ a = 132 ∨ a = 133 by omega) with rfl | rfl | rfl | rfl | rfl | rfl
      · exact (show RowEq (rowE V.env w) s.when_ by rw [sw]; exact .refl _).trans encT_w.symm
      · exact (show RowEq (lkE V.env K).N s.k.N by rw [sk]; exact .refl _).trans ek.N.symm
      · exact (show RowEq (lkE V.env K).B s.k.B by rw [sk]; exact .refl _).trans ek.B.symm
      · exact (show RowEq (lkE V.env K).L s.k.L by rw [sk]; exact .refl _).trans ek.L.symm
      · exact (show RowEq (lkE V.env K).C s.k.C by rw [sk]; exact .refl _).trans ek.C.symm
      · exact hT.trans encT_T.symm
  · cases some_
    · exact ⟨rfl, rfl, Nat.le_refl _, Nat.le_refl _, agree_refl _ _ _⟩
    · exact ⟨rfl, rfl, Nat.le_refl _, Nat.le_refl _, agree_refl _ _ _⟩
end Go.Proofs.Ytaliacnncemneaa.wheels

namespace Go.Proofs.Wheels
open Go.Abs

def T1c (a : Nat) (n : Int) : Blk := .arr [.i .i64] (.tab a) (L n) false
def linksC (N b : Nat) : List Blk := [row [I N, ss (b + 1) (L (N + 128)), ss (b + 2) (L (N + 128)), ss (b + 3) (L N), ss (b + 4) (L 128)], T1c 128 (N + 128), T1c 129 (N + 128), T1c 130 N, T1c 131 128]
def shN1 (N G : Nat) : Nat → Shape
  | 0 => ⟨[(0, I N), (6, .ptr G 0), (37, I (N + 128)), (38, .sx .i64 (v 0))], linksC N G⟩
  | _ => ⟨[(0, I N), (6, .ptr G 0)], linksC N G⟩
def shN2 (N G : Nat) : Nat → Shape
  | 0 => ⟨[(6, .ptr G 0), (56, I N), (57, .sx .i64 (v 0))], linksC N G⟩
  | _ => ⟨[(6, .ptr G 0)], linksC N G⟩
def nmN (st : St) (s : HS) : List Nat := linksOf s (st.t.get 6)
def gN (A B C D : SE) : List SE := [A, B, C, D]
def zS : SE := .const (L 0)
def new1S (g N G : Nat) (T : SE) : LoopSpec := ⟨g, 7, 68, shN1 N G, [L 0], gN zS zS zS zS, nmN, [⟨.exit 0, 1, [L (N + 128)], gN T T zS zS⟩], 5⟩
def new2S (g N G : Nat) (T U : SE) : LoopSpec := ⟨g, 12, 68, shN2 N G, [L 0], gN T T zS zS, nmN, [⟨.exit 2, 1, [L N], gN T T U zS⟩], 5⟩
def shNew (N G : Nat) : Nat → Shape
  | 0 => ⟨argsT 0 [I N], []⟩
  | _ => ⟨[(0, .ptr G 0)], wheelB G⟩
def fNew (n : SE) : List SE := [n, L 0, L 0, L 0, L 0, L 0]
def gNew (T U : SE) : List SE := [zS, T, T, U, zS]
def newS (g N G : Nat) (n T U : SE) : FunSpec := ⟨g, 1, shNew N G, fNew n, gNew T U, fun _ _ => [], [⟨.ret, 1, fNew n, gNew T U⟩], 0⟩
def csN1 (N : Nat) : Case := ⟨[tt, le (L 0) (v 0), nle (L (N + 128)) (v 0), le (v 0) (L (N + 127))], .normal, 0, [add (v 0) (L 1)], [.upd (.tab 128) (v 0) 0 (v 0), .upd (.tab 129) (v 0) 0 (v 0), .tab 130, .tab 131], []⟩
def csN1E (N : Nat) : Case := ⟨[tt, le (L 0) (v 0), le (L (N + 128)) (v 0)], .exit 0, 1, [], [], []⟩
def csN2 (N : Nat) : Case := ⟨[tt, le (L 0) (v 0), nle (L N) (v 0), le (v 0) (L (N - 1))], .normal, 0, [add (v 0) (L 1)], [.tab 128, .tab 129, .upd (.tab 130) (v 0) 0 (L (-1)), .tab 131], []⟩
def csN2E (N : Nat) : Case := ⟨[tt, le (L 0) (v 0), le (L N) (v 0)], .exit 2, 1, [], [], []⟩
def csNew (N G : Nat) : Case := ⟨[tt], .ret, 1, [L N, L 0, L 0, L 0, L 0, L 0], [zS, .tab 129, .tab 129, .tab 131, zS], [G + 6, G, G + 5, G + 1, G + 2, G + 3, G + 4]⟩

/-! ### Its tables -/

theorem midI {x : Int} (h1 : -1 ≤ x) (h2 : x ≤ 1000000000) : In64 x := by unfold In64; omega

def zeroT : TT := fun _ _ => 0
def idT (i : Nat) : TT := fun r c => if c = 0 ∧ r < i then (r : Int) else 0
def negT (i : Nat) : TT := fun r c => if c = 0 ∧ r < i then -1 else 0
theorem idT_0 : idT 0 = zeroT := by funext r c; unfold idT zeroT; rw [if_neg (by omega)]
theorem negT_0 : negT 0 = zeroT := by funext r c; unfold negT zeroT; rw [if_neg (by omega)]
theorem idT_up {i : Nat} : up (idT i) i i = idT (i + 1) := by
  funext r c
  unfold up idT
  by_cases h : (r : Int) = i ∧ c = 0
  · rw [if_pos h, if_pos (by omega)]; exact h.1.symm
  · rw [if_neg h]
    by_cases h2 : c = 0 ∧ r < i
    · rw [if_pos h2, if_pos (by omega)]
    · rw [if_neg h2, if_neg (by omega)]
theorem negT_up {i : Nat} : up (negT i) i (-1) = negT (i + 1) := by
  funext r c
  unfold up negT
  by_cases h : (r : Int) = i ∧ c = 0
  · rw [if_pos h, if_pos (by omega)]
  · rw [if_neg h]
    by_cases h2 : c = 0 ∧ r < i
    · rw [if_pos h2, if_pos (by omega)]
    · rw [if_neg h2, if_neg (by omega)]
theorem zeroT_mid : MidT zeroT := fun r c _ => by unfold zeroT In64; omega
theorem idT_mid {i : Nat} (h : i ≤ 10000) : MidT (idT i) := fun r c _ => by
  unfold idT
  split
  · exact midI (by omega) (by omega)
  · exact midI (by omega) (by omega)
theorem negT_mid {i : Nat} : MidT (negT i) := fun r c _ => by
  unfold negT
  split
  · exact midI (by omega) (by omega)
  · exact midI (by omega) (by omega)

/-- Nobody waits. -/
def WS.new (N : Nat) : WS := ⟨N, 0, zeroT, ⟨idT (N + 128), idT (N + 128), negT N, zeroT⟩, fun _ => 0⟩

theorem cntP_no {p : Int → Bool} : ∀ {n : Nat}, (∀ i : Nat, i < n → p i = false) → cntP p n = 0 := by
  intro n
  induction n with
  | zero => intro _; rfl
  | succ n ih =>
    intro h
    show cntP p n + (bif p n then 1 else 0) = 0
    rw [ih fun i hi => h i (by omega), h n (by omega)]
    rfl

theorem idT_at {N : Nat} {i : Int} (h0 : 0 ≤ i) (h1 : i < N) : g0 (idT N) i = i := by
  show idT N i.toNat 0 = i
  unfold idT
  rw [if_pos ⟨rfl, by omega⟩]
  omega
theorem negT_at {N : Nat} {i : Int} (h0 : 0 ≤ i) (h1 : i < N) : g0 (negT N) i = -1 := by
  show negT N i.toNat 0 = -1
  unfold negT
  rw [if_pos ⟨rfl, by omega⟩]

theorem new_inv {N : Nat} (h1 : 1 ≤ N) (h2 : N ≤ 4096) : WInv (WS.new N) (fun _ => []) := by
  have hL : ∀ t : Int, 0 ≤ t → t < N → g0 (negT N) t = -1 := fun t t0 t1 => negT_at t0 t1
  refine ⟨⟨⟨⟨by show (1 : Int) ≤ N; omega, by show (N : Int) ≤ 4096; omega⟩, fun l l0 l1 => ?_, fun l _ _ t ht => (List.not_mem_nil ht).elim, fun t t0 t1 => .inl (hL t t0 t1), fun _ _ _ => List.nodup_nil, fun _ _ _ => rfl⟩, Int.le_refl _, fun r _ => ?_⟩, fun t t0 t1 => .inl ⟨rfl, hL t t0 t1⟩⟩
  · have e : g0 (idT (N + 128)) ((N : Int) + l) = N + l := idT_at (by omega) (by omega)
    exact ⟨e, e⟩
  · show (0 : Int) = cntP (inRow (negT N) r) (N : Int).toNat
    rw [cntP_no fun i hi => ?_]
    unfold inRow
    rw [hL i (by omega) (by omega)]
    rfl
theorem new_mid {N : Nat} (h2 : N ≤ 4096) : WMid (WS.new N) := ⟨by show (0 : Int) ≤ 999000000; omega, zeroT_mid, ⟨idT_mid (by omega), idT_mid (by omega), negT_mid, zeroT_mid⟩⟩
end Go.Proofs.Wheels
namespace Go.Proofs.Ytaliacnncemneaa.wheels
open Go.Abs Go.Proofs.Wheels

theorem isNew1 : ((Try.prog.funcs[19]?).bind (·.body)).map (fun c => loopsKey 7 (subs c)) = some [bodyK 19 7] := by kernel_rfl
theorem isNew2 : ((Try.prog.funcs[19]?).bind (·.body)).map (fun c => loopsKey 12 (subs c)) = some [bodyK 19 12] := by kernel_rfl
theorem fxN1 (N : Nat) : ShapesOK (shN1 N PG) 5 [false, false, false, false, false] := fun i => by rcases i with _ | i <;> exact ⟨Nat.le_refl _, rfl, rfl⟩
theorem fxN2 (N : Nat) : ShapesOK (shN2 N PG) 5 [false, false, false, false, false] := fun i => by rcases i with _ | i <;> exact ⟨Nat.le_refl _, rfl, rfl⟩
theorem fxNew (N : Nat) : ShapesOK (shNew N PG) 0 [] := fun i => by rcases i with _ | i <;> exact ⟨Nat.zero_le _, rfl, rfl⟩

/-- What the kernel runs, for a number of things. -/
structure NewRuns (N : Nat) : Prop where
  n : 1 ≤ N ∧ N ≤ 4096
  g1 : goodAt PG (shN1 N PG 1) = true
  g2 : goodAt PG (shN2 N PG 1) = true
  g3 : goodAt PG (shNew N PG 1) = true
  u1 : ∀ i, (shN1 N PG i).ups 1 4 = true
  u2 : ∀ i, (shN2 N PG i).ups 1 4 = true
  u3 : ∀ i, (shNew N PG i).ups 6 5 = true
  r1 : runR 19 7 68 (shN1 N PG) 5 0 (csN1 N) [] = true
  r2 : runR 19 7 68 (shN1 N PG) 5 0 (csN1E N) [] = true
  r3 : runR 19 12 68 (shN2 N PG) 5 0 (csN2 N) [] = true
  r4 : runR 19 12 68 (shN2 N PG) 5 0 (csN2E N) [] = true
  r5 : ((callL (csNew N PG).pc [new1S 19 N PG (.tab 129), new2S 19 N PG (.tab 129) (.tab 131)] []) (.f 7) [I N] ((shNew N PG 0).heap PG [])).every NN (@Case.chkF ⟨(csNew N PG).pc⟩ PG 0 (shNew N PG (csNew N PG).to) (csNew N PG)) = true

set_option maxRecDepth 1000000
theorem runs40 : NewRuns 40 := ⟨by decide, by kernel_rfl, by kernel_rfl, by kernel_rfl, fun i => by rcases i with _ | i <;> kernel_rfl, fun i => by rcases i with _ | i <;> kernel_rfl, fun i => by rcases i with _ | i <;> kernel_rfl, by kernel_rfl, by kernel_rfl, by kernel_rfl, by kernel_rfl, by kernel_rfl⟩
theorem runs20 : NewRuns 20 := ⟨by decide, by kernel_rfl, by kernel_rfl, by kernel_rfl, fun i => by rcases i with _ | i <;> kernel_rfl, fun i => by rcases i with _ | i <;> kernel_rfl, fun i => by rcases i with _ | i <;> kernel_rfl, by kernel_rfl, by kernel_rfl, by kernel_rfl, by kernel_rfl, by kernel_rfl⟩

/-! ### Its loops -/

def encN (i : Nat) (A B C : TT) : Nat → Int := encL [(i : Int)] [A, B, C, zeroT]
theorem encN_mid {i : Nat} {A B C : TT} (h : i ≤ 10000) (hA : MidT A) (hB : MidT B) (hC : MidT C) : ∀ j, In64 (encN i A B C j) := encL_mid (fun x hx => by
    simp only [List.mem_cons, List.not_mem_nil, or_false] at hx
    subst hx; exact midI (by omega) (by omega)) (fun T hT => by
    simp only [List.mem_cons, List.not_mem_nil, or_false] at hT
    rcases hT with rfl | rfl | rfl | rfl
    · exact hA
    · exact hB
    · exact hC
    · exact zeroT_mid)
theorem encN_0 {i : Nat} {A B C : TT} : encN i A B C 0 = i := encL_one rfl (by decide)
theorem encN_A {i : Nat} {A B C : TT} : RowEq (tabE (encN i A B C) 128) A := encL_tab rfl (by decide) (by decide)
theorem encN_B {i : Nat} {A B C : TT} : RowEq (tabE (encN i A B C) 129) B := encL_tab rfl (by decide) (by decide)
theorem encN_C {i : Nat} {A B C : TT} : RowEq (tabE (encN i A B C) 130) C := encL_tab rfl (by decide) (by decide)
theorem encN_D {i : Nat} {A B C : TT} : RowEq (tabE (encN i A B C) 131) zeroT := encL_tab rfl (by decide) (by decide)
theorem zS_row (env : Nat → Int) : RowEq (rowE env zS) zeroT := fun _ _ _ => rfl

theorem new1_proof [F : Facts] [V : Vals] {N : Nat} (R : NewRuns N) {T : SE} (hT : RowEq (rowE V.env T) (idT (N + 128))) : LoopProof Try.prog [] (new1S 19 N PG T) := by
  have hN := R.n.2
  refine spec_proof2 (N := NN) (fuel := fuel) (new1S 19 N PG T) noTabs (fx := [false, false, false, false, false]) (b0 := bodyK 19 7) isNew1 (fxN1 N) (good_one rfl R.g1) (σ := Nat) (fun i => encN i (idT i) (idT i) zeroT) 1 4 (by decide) R.u1 (Nat.le_refl _) (Nat.le_refl _)
    (I := fun μ j i => j = 0 ∧ i ≤ N + 128 ∧ μ = N + 128 - i) (Post := fun e j i => e = .exit 0 ∧ j = 1 ∧ i = N + 128) (fun B μ j i hI => ?_) (N + 128) 0 ⟨rfl, Nat.zero_le _, rfl⟩ (encN_mid (by omega) (idT_mid (by omega)) (idT_mid (by omega)) zeroT_mid) ?_ (fun e j i hp => ?_)
  · obtain ⟨rfl, hi, rfl⟩ := hI
    have e0 : (v 0).eval (encN i (idT i) (idT i) zeroT) = i := encN_0
    by_cases hlt : i < N + 128
    · refine ⟨csN1 N, i + 1, noLoops, callF (csN1 N).pc [], noRnd B _ _ _ (fun V hV S hS => by cases hS), ?_, ?_, Nat.le_refl _, Nat.le_refl _, encN_mid (by omega) (idT_mid (by omega)) (idT_mid (by omega)) zeroT_mid, ?_, .inl ⟨rfl, N + 128 - (i + 1), by omega, rfl, by omega, rfl⟩⟩
      · have := R.r1
        exact this
      · show Fx (encN i (idT i) (idT i) zeroT) ([tt, le (L 0) (v 0), nle (L (N + 128)) (v 0), le (v 0) (L (N + 127))])
        refine .cons rfl (.cons (le_ok ?_) (.cons (nle_ok ?_) (.cons (le_ok ?_) .nil)))
        · rw [e0]; show (0 : Int) ≤ _; omega
        · rw [e0]; show _ < (N : Int) + 128; omega
        · rw [e0]; show _ ≤ (N : Int) + 127; omega
      · refine agree_of (by decide) (by decide) (fun a ha => ?_) (fun a h1 h2 => ?_)
        · obtain rfl : a = 0 := by omega
          refine Eq.trans ?_ (encN_0 (i := i + 1)).symm
          show (v 0).eval _ + 1 = ((i + 1 : Nat) : Int)
          rw [e0]; omega
        · rcases (show a = 128 ∨ a = 129 ∨ a = 130 ∨ a = 131 by omega) with rfl | rfl | rfl | rfl
          · refine RowEq.trans (B := up (idT i) i i) (up_eq encN_A e0 e0) ?_
            rw [idT_up]; exact encN_A.symm
          · refine RowEq.trans (B := up (idT i) i i) (up_eq encN_B e0 e0) ?_
            rw [idT_up]; exact encN_B.symm
          · exact encN_C.trans encN_C.symm
          · exact encN_D.trans encN_D.symm
    · refine ⟨csN1E N, i, noLoops, callF (csN1E N).pc [], noRnd B _ _ _ (fun V hV S hS => by cases hS), ?_, ?_, Nat.zero_le _, Nat.zero_le _, encN_mid (by omega) (idT_mid (by omega)) (idT_mid (by omega)) zeroT_mid, ?_, .inr ⟨by simp [csN1E], rfl, rfl, by omega⟩⟩
      · have := R.r2
        exact this
      · show Fx (encN i (idT i) (idT i) zeroT) ([tt, le (L 0) (v 0), le (L (N + 128)) (v 0)])
        refine .cons rfl (.cons (le_ok ?_) (.cons (le_ok ?_) .nil))
        · rw [e0]; show (0 : Int) ≤ _; omega
        · rw [e0]; show (N : Int) + 128 ≤ _; omega
      · exact agree_of (by decide) (by decide) (fun i hi => rfl) (fun a h1 h2 => RowEq.refl _)
  · refine agree_of (by decide) (by decide) (fun a ha => ?_) (fun a h1 h2 => ?_)
    · obtain rfl : a = 0 := by omega
      exact (encN_0 (i := 0)).symm
    · rw [idT_0]
      rcases (show a = 128 ∨ a = 129 ∨ a = 130 ∨ a = 131 by omega) with rfl | rfl | rfl | rfl
      · exact (zS_row _).trans encN_A.symm
      · exact (zS_row _).trans encN_B.symm
      · exact (zS_row _).trans encN_C.symm
      · exact (zS_row _).trans encN_D.symm
  · obtain ⟨rfl, rfl, rfl⟩ := hp
    refine ⟨0, ⟨.exit 0, 1, [L (N + 128)], gN T T zS zS⟩, rfl, rfl, rfl, Nat.le_refl _, Nat.le_refl _, agree_symm ?_⟩
    refine agree_of (by decide) (by decide) (fun a ha => ?_) (fun a h1 h2 => ?_)
    · obtain rfl : a = 0 := by omega
      refine Eq.trans ?_ (encN_0 (i := N + 128)).symm
      show (N : Int) + 128 = ((N + 128 : Nat) : Int)
      omega
    · rcases (show a = 128 ∨ a = 129 ∨ a = 130 ∨ a = 131 by omega) with rfl | rfl | rfl | rfl
      · exact hT.trans encN_A.symm
      · exact hT.trans encN_B.symm
      · exact (zS_row _).trans encN_C.symm
      · exact (zS_row _).trans encN_D.symm

theorem new2_proof [F : Facts] [V : Vals] {N : Nat} (R : NewRuns N) {T U : SE} (hT : RowEq (rowE V.env T) (idT (N + 128))) (hU : RowEq (rowE V.env U) (negT N)) : LoopProof Try.prog [] (new2S 19 N PG T U) := by
  have hN := R.n.2
  have hN1 := R.n.1
  have tm := idT_mid (i := N + 128) (by omega)
  refine spec_proof2 (N := NN) (fuel := fuel) (new2S 19 N PG T U) noTabs (fx := [false, false, false, false, false]) (b0 := bodyK 19 12) isNew2 (fxN2 N) (good_one rfl R.g2) (σ := Nat) (fun i => encN i (idT (N + 128)) (idT (N + 128)) (negT i)) 1 4 (by decide) R.u2 (Nat.le_refl _) (Nat.le_refl _)
    (I := fun μ j i => j = 0 ∧ i ≤ N ∧ μ = N - i) (Post := fun e j i => e = .exit 2 ∧ j = 1 ∧ i = N) (fun B μ j i hI => ?_) N 0 ⟨rfl, Nat.zero_le _, rfl⟩ (encN_mid (by omega) tm tm negT_mid) ?_ (fun e j i hp => ?_)
  · obtain ⟨rfl, hi, rfl⟩ := hI
    have e0 : (v 0).eval (encN i (idT (N + 128)) (idT (N + 128)) (negT i)) = i := encN_0
    by_cases hlt : i < N
    · refine ⟨csN2 N, i + 1, noLoops, callF (csN2 N).pc [], noRnd B _ _ _ (fun V hV S hS => by cases hS), ?_, ?_, Nat.le_refl _, Nat.le_refl _, encN_mid (by omega) tm tm negT_mid, ?_, .inl ⟨rfl, N - (i + 1), by omega, rfl, by omega, rfl⟩⟩
      · have := R.r3
        exact this
      · show Fx (encN i (idT (N + 128)) (idT (N + 128)) (negT i)) ([tt, le (L 0) (v 0), nle (L N) (v 0), le (v 0) (L (N - 1))])
        refine .cons rfl (.cons (le_ok ?_) (.cons (nle_ok ?_) (.cons (le_ok ?_) .nil)))
        · rw [e0]; show (0 : Int) ≤ _; omega
        · rw [e0]; show _ < (N : Int); omega
        · rw [e0]; show _ ≤ (N : Int) - 1; omega
      · refine agree_of (by decide) (by decide) (fun a ha => ?_) (fun a h1 h2 => ?_)
        · obtain rfl : a = 0 := by omega
          refine Eq.trans ?_ (encN_0 (i := i + 1)).symm
          show (v 0).eval _ + 1 = ((i + 1 : Nat) : Int)
          rw [e0]; omega
        · rcases (show a = 128 ∨ a = 129 ∨ a = 130 ∨ a = 131 by omega) with rfl | rfl | rfl | rfl
          · exact encN_A.trans encN_A.symm
          · exact encN_B.trans encN_B.symm
          · refine RowEq.trans (B := up (negT i) i (-1)) (up_eq encN_C e0 rfl) ?_
            rw [negT_up]; exact encN_C.symm
          · exact encN_D.trans encN_D.symm
    · refine ⟨csN2E N, i, noLoops, callF (csN2E N).pc [], noRnd B _ _ _ (fun V hV S hS => by cases hS), ?_, ?_, Nat.zero_le _, Nat.zero_le _, encN_mid (by omega) tm tm negT_mid, ?_, .inr ⟨by simp [csN2E], rfl, rfl, by omega⟩⟩
      · have := R.r4
        exact this
      · show Fx (encN i (idT (N + 128)) (idT (N + 128)) (negT i)) ([tt, le (L 0) (v 0), le (L N) (v 0)])
        refine .cons rfl (.cons (le_ok ?_) (.cons (le_ok ?_) .nil))
        · rw [e0]; show (0 : Int) ≤ _; omega
        · rw [e0]; show (N : Int) ≤ _; omega
      · exact agree_of (by decide) (by decide) (fun i hi => rfl) (fun a h1 h2 => RowEq.refl _)
  · refine agree_of (by decide) (by decide) (fun a ha => ?_) (fun a h1 h2 => ?_)
    · obtain rfl : a = 0 := by omega
      exact (encN_0 (i := 0)).symm
    · rw [negT_0]
      rcases (show a = 128 ∨ a = 129 ∨ a = 130 ∨ a = 131 by omega) with rfl | rfl | rfl | rfl
      · exact hT.trans encN_A.symm
      · exact hT.trans encN_B.symm
      · exact (zS_row _).trans encN_C.symm
      · exact (zS_row _).trans encN_D.symm
  · obtain ⟨rfl, rfl, hiN⟩ := hp
    have hiN : N = i := hiN.symm
    subst hiN
    refine ⟨0, ⟨.exit 2, 1, [L N], gN T T U zS⟩, rfl, rfl, rfl, Nat.le_refl _, Nat.le_refl _, agree_symm ?_⟩
    refine agree_of (by decide) (by decide) (fun a ha => ?_) (fun a h1 h2 => ?_)
    · obtain rfl : a = 0 := by omega
      exact (encN_0 (i := N)).symm
    · rcases (show a = 128 ∨ a = 129 ∨ a = 130 ∨ a = 131 by omega) with rfl | rfl | rfl | rfl
      · exact hT.trans encN_A.symm
      · exact hT.trans encN_B.symm
      · exact hU.trans encN_C.symm
      · exact (zS_row _).trans encN_D.symm

def encW (N : Nat) : Nat → Int := encL [(N : Int), 0, 0, 0, 0, 0] [zeroT, idT (N + 128), idT (N + 128), negT N, zeroT]
theorem encW_mid {N : Nat} (h : N ≤ 4096) : ∀ j, In64 (encW N j) := encL_mid (fun x hx => by
    simp only [List.mem_cons, List.not_mem_nil, or_false] at hx
    rcases hx with rfl | rfl | rfl | rfl | rfl | rfl
    all_goals exact midI (by omega) (by omega)) (fun T hT => by
    simp only [List.mem_cons, List.not_mem_nil, or_false] at hT
    rcases hT with rfl | rfl | rfl | rfl | rfl
    · exact zeroT_mid
    · exact idT_mid (by omega)
    · exact idT_mid (by omega)
    · exact negT_mid
    · exact zeroT_mid)

theorem new_proof [F : Facts] [V : Vals] {N : Nat} (R : NewRuns N) {n T U : SE} (hn : n.eval V.env = N) (hT : RowEq (rowE V.env T) (idT (N + 128))) (hU : RowEq (rowE V.env U) (negT N)) : FunProof Try.prog [] (newS 7 N PG n T U) := by
  have hN := R.n.2
  have t : ∀ {a : Nat} {X : TT}, [zeroT, idT (N + 128), idT (N + 128), negT N, zeroT][a - 128]? = some X → 128 ≤ a → a < 256 → RowEq (tabE (encW N) a) X := fun h1 h2 h3 => encL_tab h1 h2 h3
  have o : ∀ {i : Nat} {x : Int}, [(N : Int), 0, 0, 0, 0, 0][i]? = some x → i < 128 → encW N i = x := fun h1 h2 => encL_one h1 h2
  have ag : AgreeN 6 5 (intoEnv (fvL (fNew n)) (gvL (gNew T U)) V.env) (encW N) := by
    refine agree_of (by decide) (by decide) (fun a ha => ?_) (fun a h1 h2 => ?_)
    · rcases (show a = 0 ∨ a = 1 ∨ a = 2 ∨ a = 3 ∨ a = 4 ∨ a = 5 by omega) with rfl | rfl | rfl | rfl | rfl | rfl
      · exact hn.trans (o rfl (by decide)).symm
      · exact (o (x := 0) rfl (by decide)).symm
      · exact (o (x := 0) rfl (by decide)).symm
      · exact (o (x := 0) rfl (by decide)).symm
      · exact (o (x := 0) rfl (by decide)).symm
      · exact (o (x := 0) rfl (by decide)).symm
    · rcases (show a = 128 ∨ a = 129 ∨ a = 130 ∨ a = 131 ∨ a = 132 by omega) with rfl | rfl | rfl | rfl | rfl
      · exact (zS_row _).trans (t (a := 128) rfl (by decide) (by decide)).symm
      · exact hT.trans (t (a := 129) rfl (by decide) (by decide)).symm
      · exact hT.trans (t (a := 130) rfl (by decide) (by decide)).symm
      · exact hU.trans (t (a := 131) rfl (by decide) (by decide)).symm
      · exact (zS_row _).trans (t (a := 132) rfl (by decide) (by decide)).symm
  refine fun_proof (N := NN) (av := [I N]) (newS 7 N PG n T U) noTabs (fxNew N) (good_one rfl R.g3) rfl rfl (σ := Nat → Int) id 6 5 (by decide) R.u3 (Nat.le_refl _) (Nat.le_refl _) (csNew N PG) (callL (csNew N PG).pc [new1S 19 N PG (.tab 129), new2S 19 N PG (.tab 129) (.tab 131)] [])
    (encW N) (encW N) (fun B V' hV' => callL_ok B V' (fun S hS => ?_) (fun S hS => by cases hS)) ?_ (fun p hp => ?_) (Nat.le_refl _) (Nat.le_refl _) (encW_mid hN) (encW_mid hN) ?_ ag (o := ⟨.ret, 1, fNew n, gNew T U⟩) (k := 0) rfl ⟨rfl, rfl, Nat.le_refl _, Nat.le_refl _, agree_symm ag⟩
  · have hV' : V'.env = encW N := hV'
    simp only [List.mem_cons, List.not_mem_nil, or_false] at hS
    rcases hS with rfl | rfl
    · exact @new1_proof ⟨_⟩ V' N R (.tab 129) (by rw [hV']; exact t (a := 129) rfl (by decide) (by decide))
    · exact @new2_proof ⟨_⟩ V' N R (.tab 129) (.tab 131) (by rw [hV']; exact t (a := 129) rfl (by decide) (by decide)) (by rw [hV']; exact t (a := 131) rfl (by decide) (by decide))
  · have := R.r5
    exact this
  · have hp : p ∈ [tt] := hp
    simp only [List.mem_cons, List.not_mem_nil, or_false] at hp
    subst hp; rfl
  · refine agree_of (by decide) (by decide) (fun a ha => ?_) (fun a h1 h2 => ?_)
    · rcases (show a = 0 ∨ a = 1 ∨ a = 2 ∨ a = 3 ∨ a = 4 ∨ a = 5 by omega) with rfl | rfl | rfl | rfl | rfl | rfl
      · exact (o (x := N) rfl (by decide)).symm
      · exact (o (x := 0) rfl (by decide)).symm
      · exact (o (x := 0) rfl (by decide)).symm
      · exact (o (x := 0) rfl (by decide)).symm
      · exact (o (x := 0) rfl (by decide)).symm
      · exact (o (x := 0) rfl (by decide)).symm
    · rcases (show a = 128 ∨ a = 129 ∨ a = 130 ∨ a = 131 ∨ a = 132 by omega) with rfl | rfl | rfl | rfl | rfl
      · exact (zS_row _).trans (t (a := 128) rfl (by decide) (by decide)).symm
      · exact RowEq.refl _
      · exact (t (a := 129) rfl (by decide) (by decide)).trans (t (a := 130) rfl (by decide) (by decide)).symm
      · exact RowEq.refl _
      · exact (zS_row _).trans (t (a := 132) rfl (by decide) (by decide)).symm
end Go.Proofs.Ytaliacnncemneaa.wheels

namespace Go.Proofs.Wheels
open Go.Abs

def shAdd (G : Nat) : Nat → Shape
  | 0 => ⟨argsT 0 [.ptr G 0, X 6, X 7], wheelB G⟩
  | _ => ⟨[(0, ok0)], wheelB G⟩
def C8 : C4 := ⟨v 8, v 9, v 10, v 11⟩
def wAdd : SE := .upd (.tab 128) (v 6) 0 (add (v 1) (v 7))
def fAdd (n now : SE) (c : C4) (t a : SE) (c' : C4) : List SE := fW n now c t ++ (a :: c'.list)
def addS (g : Nat) (f : Fns) (n now : SE) (c c' : C4) (t a : SE) (w w' : SE) (K K' : K4) : FunSpec := ⟨g, 3, shAdd f.G, fAdd n now c t a c', gW w K ++ K'.list, nmW, [⟨.ret, 1, fAdd n now c' t a c', gW w' K' ++ K'.list⟩], 7⟩
def pcAdd : List (SB × Bool) := pcW ++ (inR (L 0) (v 6) n1 ++ (inR (L 1) (v 7) (L 65535) ++ [eq w6 (L 0)]))
def csAdd : Case := ⟨pcAdd, .ret, 1, [.var 0, .var 1, v 8, v 9, v 10, v 11], [wAdd, .tab 133, .tab 134, .tab 135, .tab 136], []⟩

/-- An id waits. -/
def WS.at_ (s : WS) (t a : Int) : WS := { s with when_ := up s.when_ t (s.now + a) }
def WS.add (s : WS) (t a : Int) : WS := (s.at_ t a).inn t

theorem at_base {s : WS} {q : Int → List Int} (h : WBase s q) (t a : Int) : WBase (s.at_ t a) q := ⟨h.rep, h.now0, h.c⟩
theorem when_at {s : WS} {t a : Int} (ht : 0 ≤ t) : g0 (s.at_ t a).when_ t = s.now + a := by
  show g0 (up s.when_ t (s.now + a)) t = _
  rw [up_at ht, if_pos rfl]
theorem out_of {s : WS} {q : Int → List Int} (h : WInv s q) {t : Int} (t0 : 0 ≤ t) (t1 : t < s.n) (hw : g0 s.when_ t = 0) : g0 s.k.L t = -1 := by
  have h0 := h.now0
  rcases h.w t t0 t1 with g | ⟨g, _⟩
  · exact g.2
  · omega
theorem add_inv {s : WS} {q : Int → List Int} (h : WInv s q) {t a : Int} (t0 : 0 ≤ t) (t1 : t < s.n) (hw : g0 s.when_ t = 0) (a1 : 1 ≤ a) (a2 : a ≤ 65535) :
    ∃ q', WInv (s.add t a) q' := by
  have hL := out_of h t0 t1 hw
  have hat := when_at (s := s) (a := a) t0
  have hb := (at_base h.toWBase t a).inn (t := t) ⟨t0, t1⟩ hL
  refine ⟨_, hb, fun y y0 y1 => ?_⟩
  by_cases e : y = t
  · subst e
    refine .inr ⟨?_, ?_, ?_⟩
    · show s.now < g0 (s.at_ y a).when_ y
      rw [hat]; omega
    · show g0 (s.at_ y a).when_ y ≤ s.now + 65535
      rw [hat]; omega
    · show g0 (up s.k.L y (locOf s.now (g0 (s.at_ y a).when_ y))) y = locOf s.now (g0 (s.at_ y a).when_ y)
      rw [up_at y0, if_pos rfl]
  · have hw' : g0 (s.add t a).when_ y = g0 s.when_ y := by
      show g0 (up s.when_ t (s.now + a)) y = _
      rw [up_at y0, if_neg e]
    have hL' : g0 (s.add t a).k.L y = g0 s.k.L y := by
      show g0 (up s.k.L t (locOf s.now (g0 (s.at_ t a).when_ t))) y = _
      rw [up_at y0, if_neg e]
    rw [hw', hL']
    exact h.w y y0 y1
end Go.Proofs.Wheels
namespace Go.Proofs.Ytaliacnncemneaa.wheels
open Go.Abs Go.Proofs.Wheels

set_option maxRecDepth 1000000
theorem run_add : ((callF csAdd.pc [inS fns (v 0) (v 1) C0 C8 (v 6) wAdd K0 K1]) (.f 9) [.ptr PG 0, X 6, X 7] ((shAdd PG 0).heap PG [])).every NN (@Case.chkF ⟨csAdd.pc⟩ PG 7 (shAdd PG csAdd.to) csAdd) = true := by kernel_rfl
theorem fxAdd : ShapesOK (shAdd PG) 7 [false, false, false, false, false, false, false] := fun i => by rcases i with _ | i <;> exact ⟨Nat.le_refl _, rfl, rfl⟩
theorem goodAdd : goodAt PG (shAdd PG 1) = true := by kernel_rfl
theorem upsAdd : ∀ i, (shAdd PG i).ups 12 9 = true := fun i => by rcases i with _ | i <;> kernel_rfl

theorem add_mid {s : WS} {q : Int → List Int} (h : WInv s q) (hm : WMid s) {t a : Int} (t0 : 0 ≤ t) (t1 : t < s.n) (a1 : 1 ≤ a) (a2 : a ≤ 65535) : WMid (s.add t a) := by
  have hnow := hm.now
  have h0 := h.now0
  have : WMid (s.at_ t a) := ⟨hm.now, hm.w.up (i64 (by omega) (by omega)), hm.k⟩
  exact this.inn (at_base h.toWBase t a) (t := t) ⟨t0, t1⟩

section
variable [F : Facts] [V : Vals] {n now t a w w' : SE} {c c' : C4} {K K' : K4}

theorem fAdd_mid (hn : In64 (n.eval V.env)) (hnow : In64 (now.eval V.env)) (hc : ∀ r, r < 4 → In64 (cE V.env c r)) (ht : In64 (t.eval V.env)) (ha : In64 (a.eval V.env)) (hc' : ∀ r, r < 4 → In64 (cE V.env c' r)) : ∀ e ∈ fAdd n now c t a c', In64 (e.eval V.env) := fun e he => by
  rcases List.mem_append.1 he with he | he
  · exact fW_mid hn hnow hc ht e he
  · rcases List.mem_cons.1 he with rfl | he
    · exact ha
    · exact c_mid hc' e he

theorem add_proof {s : WS} {q : Int → List Int} (hs : wsE V.env n now c w K = s) (h : WInv s q) (hm : WMid s) {ti ai : Int} (ht : t.eval V.env = ti) (ha : a.eval V.env = ai) (t0 : 0 ≤ ti) (t1 : ti < s.n) (hwt : g0 s.when_ ti = 0) (a1 : 1 ≤ ai) (a2 : ai ≤ 65535)
    (hw' : RowEq (rowE V.env w') (s.add ti ai).when_) (hc' : ∀ r, r < 4 → cE V.env c' r = (s.add ti ai).c r) (hK' : LKEq (lkE V.env K') (s.add ti ai).k) : FunProof Try.prog [] (addS 9 fns n now c c' t a w w' K K') := by
  obtain ⟨q', hi⟩ := add_inv h t0 t1 hwt a1 a2
  have hmi := add_mid h hm t0 t1 a1 a2
  have hn := h.rep.n1
  have h0 := h.now0
  have hnow := hm.now
  have sn : n.eval V.env = s.n := by rw [← hs]; rfl
  have snow : now.eval V.env = s.now := by rw [← hs]; rfl
  have sc : ∀ i, cE V.env c i = s.c i := fun i => by rw [← hs]; rfl
  have sw : rowE V.env w = s.when_ := by rw [← hs]; rfl
  have sk : lkE V.env K = s.k := by rw [← hs]; rfl
  have mc' : ∀ r, r < 4 → In64 (cE V.env c' r) := fun r hr => by
    rw [hc' r hr]
    have := hi.toWBase.c_in hr
    exact i64 (by omega) (by omega)
  have mc : ∀ r, r < 4 → In64 (cE V.env c r) := fun r hr => by
    rw [sc r]
    have := h.toWBase.c_in hr
    exact i64 (by omega) (by omega)
  have mK' : LKMid (lkE V.env K') := hmi.k.of hK'
  have hf := fAdd_mid (V := V) (n := n) (now := now) (c := c) (t := t) (a := a) (c' := c') (by rw [sn]; exact i64 (by omega) (by omega)) (by rw [snow]; exact i64 (by omega) (by omega)) mc (by rw [ht]; exact i64 (by omega) (by omega)) (by rw [ha]; exact i64 (by omega) (by omega)) mc'
  have hf' := fAdd_mid (V := V) (n := n) (now := now) (c := c') (t := t) (a := a) (c' := c') (by rw [sn]; exact i64 (by omega) (by omega)) (by rw [snow]; exact i64 (by omega) (by omega)) mc' (by rw [ht]; exact i64 (by omega) (by omega)) (by rw [ha]; exact i64 (by omega) (by omega)) mc'
  have hg := gW_mid (V := V) (w := w) (K := K) (K' := K') (by rw [sw]; exact hm.w) (by rw [sk]; exact hm.k) mK'
  have hg' := gW_mid (V := V) (w := w') (K := K') (K' := K') (hmi.w.of hw') mK' mK'
  obtain ⟨s0, hs0⟩ : ∃ s0, s0 = inE (fAdd n now c t a c') (gW w K ++ K'.list) V.env := ⟨_, rfl⟩
  have m0 := mid_into V.mid hf hg
  rw [show intoEnv (fun i => ((fAdd n now c t a c')[i]?).getD (.var i)) (fun b => ((gW w K ++ K'.list)[b - 128]?).getD (.tab b)) V.env = s0 from hs0.symm] at m0
  obtain ⟨a0, a1', a2', a3, a4⟩ := ws_into (n := n) (now := now) (c := c) (w := w) (K := K) (f := fAdd n now c t a c') (g1 := K'.list) (env := V.env) rfl
  have a5 : LKEq (lkT (inE (fAdd n now c t a c') (gW w K ++ (K'.list ++ [])) V.env) 133) (lkE V.env K') := lk_into (g0 := gW w K) (g1 := []) rfl (by decide)
  rw [List.append_nil] at a5
  have a6 : inE (fAdd n now c t a c') (gW w K ++ K'.list) V.env 6 = t.eval V.env := inE_one rfl (by decide)
  have a7 : inE (fAdd n now c t a c') (gW w K ++ K'.list) V.env 7 = a.eval V.env := inE_one rfl (by decide)
  have a8 : ∀ r, r < 4 → inE (fAdd n now c t a c') (gW w K ++ K'.list) V.env (8 + r) = cE V.env c' r := fun r hr => by
    rcases (show r = 0 ∨ r = 1 ∨ r = 2 ∨ r = 3 by omega) with rfl | rfl | rfl | rfl <;> exact inE_one rfl (by decide)
  rw [← hs0] at a0 a1' a2' a3 a4 a5 a6 a7 a8
  rw [sn] at a0
  rw [snow] at a1'
  rw [ht] at a6
  rw [ha] at a7
  rw [sw] at a3
  rw [sk] at a4
  have e6 : (v 6).eval s0 = ti := a6
  have ew : w6.eval s0 = g0 s.when_ ti := by
    refine (sel_eval s0 128 (v 6)).trans ?_
    rw [e6]; exact a3.g _
  have run := run_add
  refine fun_proof (N := NN) (av := [.ptr PG 0, X 6, X 7]) (addS 9 fns n now c c' t a w w' K K') noTabs fxAdd (good_one rfl goodAdd) rfl rfl (σ := Nat → Int) id 12 9 (by decide) upsAdd (Nat.le_refl _) (Nat.le_refl _) csAdd (callF csAdd.pc [inS fns (v 0) (v 1) C0 C8 (v 6) wAdd K0 K1])
    s0 (inE (fAdd n now c' t a c') (gW w' K' ++ K'.list) V.env)
    (fun B V' hV' => callF_ok B V' fun S hS => ?_) ?_ ?_ (Nat.le_of_ble_eq_true rfl) (Nat.le_of_ble_eq_true rfl) m0 (mid_into V.mid hf' hg') ?_ (by rw [hs0]; exact agree_refl _ _ _) (o := ⟨.ret, 1, fAdd n now c' t a c', gW w' K' ++ K'.list⟩) (k := 0) rfl ⟨rfl, rfl, Nat.le_refl _, Nat.le_refl _, agree_refl _ _ _⟩
  · have hS : S = inS fns (v 0) (v 1) C0 C8 (v 6) wAdd K0 K1 := by simpa using hS
    subst hS
    have hV' : V'.env = s0 := hV'
    have hws : WSEq (wsE s0 (v 0) (v 1) C0 wAdd K0) (s.at_ ti ai) := by
      refine ⟨a0, a1', ?_, a4, fun r hr => ?_⟩
      · exact up_eq a3 e6 (by show s0 1 + s0 7 = _; rw [a1', a7])
      · rcases (show r = 0 ∨ r = 1 ∨ r = 2 ∨ r = 3 by omega) with rfl | rfl | rfl | rfl
        · exact (a2' 0 (by decide)).trans (sc 0)
        · exact (a2' 1 (by decide)).trans (sc 1)
        · exact (a2' 2 (by decide)).trans (sc 2)
        · exact (a2' 3 (by decide)).trans (sc 3)
    have hma : WMid (s.at_ ti ai) := ⟨hm.now, hm.w.up (i64 (by omega) (by omega)), hm.k⟩
    have hwa := when_at (s := s) (a := ai) t0
    have hin := inn_eq hws (t := (v 6).eval s0) (t' := ti) e6
    refine @in_proof ⟨csAdd.pc⟩ V' (v 0) (v 1) (v 6) wAdd C0 C8 K0 K1 q ?_ ?_ ?_ ?_ ?_ ?_ ?_
    all_goals rw [hV']
    · exact (at_base h.toWBase ti ai).of hws
    · exact hma.of hws
    · rw [e6]; exact ⟨t0, by show ti < s0 0; rw [a0]; exact t1⟩
    · rw [e6]; exact (a4.L.g _).trans (out_of h t0 t1 hwt)
    · have hg0 : g0 (rowE s0 wAdd) ti = g0 (s.at_ ti ai).when_ ti := hws.w.g ti
      rw [e6, hg0, hwa]
      exact ⟨by omega, by unfold most; omega⟩
    · intro r hr
      rw [hin.c r hr]
      refine Eq.trans ?_ (hc' r hr)
      rcases (show r = 0 ∨ r = 1 ∨ r = 2 ∨ r = 3 by omega) with rfl | rfl | rfl | rfl
      · exact a8 0 (by decide)
      · exact a8 1 (by decide)
      · exact a8 2 (by decide)
      · exact a8 3 (by decide)
    · exact (a5.trans hK').trans hin.k.symm
  · exact run
  · show Fx s0 pcAdd
    refine .app (ws_facts h.toWBase hm a0 a1' fun r hr => by rw [a2' r hr, sc]) (.app (inR_ok ?_ ?_) (.app (inR_ok ?_ ?_) (one_ok (eq_ok ?_))))
    · rw [e6]; exact t0
    · rw [e6]; show _ ≤ s0 0 + (-1); rw [a0]; omega
    · show (1 : Int) ≤ s0 7; rw [a7]; exact a1
    · show s0 7 ≤ 65535; rw [a7]; exact a2
    · rw [ew]; exact hwt
  · obtain ⟨b0, b1, b2, _, _⟩ := ws_into (n := n) (now := now) (c := c') (w := w') (K := K') (f := fAdd n now c' t a c') (g1 := K'.list) (env := V.env) rfl
    have b6 : inE (fAdd n now c' t a c') (gW w' K' ++ K'.list) V.env 6 = t.eval V.env := inE_one rfl (by decide)
    have b7 : inE (fAdd n now c' t a c') (gW w' K' ++ K'.list) V.env 7 = a.eval V.env := inE_one rfl (by decide)
    have b8 : ∀ r, r < 4 → inE (fAdd n now c' t a c') (gW w' K' ++ K'.list) V.env (8 + r) = cE V.env c' r := fun r hr => by
      rcases (show r = 0 ∨ r = 1 ∨ r = 2 ∨ r = 3 by omega) with rfl | rfl | rfl | rfl <;> exact inE_one rfl (by decide)
    refine agree_of (by decide) (by decide) (fun i hi => ?_) (ws_agree ?_ a5 a5)
    · rcases (show i = 0 ∨ i = 1 ∨ i = 2 ∨ i = 3 ∨ i = 4 ∨ i = 5 ∨ i = 6 ∨ i = 7 ∨ i = 8 ∨ i = 9 ∨ i = 10 ∨ i = 11 by omega) with rfl | rfl | rfl | rfl | rfl | rfl | rfl | rfl | rfl | rfl | rfl | rfl
      · exact a0.trans (sn.symm.trans b0.symm)
      · exact a1'.trans (snow.symm.trans b1.symm)
      · exact (a8 0 (by decide)).trans (b2 0 (by decide)).symm
      · exact (a8 1 (by decide)).trans (b2 1 (by decide)).symm
      · exact (a8 2 (by decide)).trans (b2 2 (by decide)).symm
      · exact (a8 3 (by decide)).trans (b2 3 (by decide)).symm
      · exact a6.trans (ht.symm.trans b6.symm)
      · exact a7.trans (ha.symm.trans b7.symm)
      · exact (a8 0 (by decide)).trans (b8 0 (by decide)).symm
      · exact (a8 1 (by decide)).trans (b8 1 (by decide)).symm
      · exact (a8 2 (by decide)).trans (b8 2 (by decide)).symm
      · exact (a8 3 (by decide)).trans (b8 3 (by decide)).symm
    · refine RowEq.trans (B := (s.add ti ai).when_) ?_ hw'.symm
      exact up_eq a3 e6 (by show s0 1 + s0 7 = _; rw [a1', a7])
end
end Go.Proofs.Ytaliacnncemneaa.wheels
end
