/- Tick, New, Add. Conditions: those that each theorem names. -/
import Derived.Test.YtaliacnncemneaaGreatSWheelParts
open Go
noncomputable section
namespace Go.Proofs.Wheels
open Go.Abs
theorem top_eq {s s' : WS} (h : zDg s s') (r : Nat) : s.top r = s'.top r := by
 unfold WS.top
 rw [h.k.N.g, h.n, h.now]
theorem dn1_eq {s s' : WS} (h : zDg s s') (r : Nat) : zDg (s.dn1 r) (s'.dn1 r) := by
 unfold WS.dn1
 refine inn_eq (s := s.pop r) (s' := s'.pop r) ⟨h.n, h.now, h.w, zMe h.k (top_eq h r), fun i hi => ?_⟩ (top_eq h r)
 show bump s.c r (-1) i = bump s'.c r (-1) i
 unfold bump
 rw [h.c i hi]
theorem dnK_eq {r : Nat} : ∀ {m : Nat} {s s' : WS}, zDg s s' → zDg (WS.dnK r m s) (WS.dnK r m s') := by
 intro m
 induction m with
 | zero => intro s s' h; exact h
 | succ m ih => intro s s' h; exact ih (dn1_eq h r)
theorem many_eq {s s' : WS} (h : zDg s s') (r : Nat) : s.many r = s'.many r := by
 unfold WS.many
 rw [h.k.C.g, h.now]
theorem WDn.of {s s' : WS} {q : Int → List Int} {r : Nat} (h : WDn s q r) (e : zDg s' s) : WDn s' q r :=
 ⟨h.toWBase.of e, by rw [e.now]; exact h.now1, fun t t0 t1 => by
  rw [e.n] at t1
  rw [e.now, e.w.g, e.k.L.g]
  exact h.w t t0 t1⟩
theorem WWk.of {s s' : WS} {q : Int → List Int} {l : List Int} (h : WWk s q l) (e : zDg s' s) : WWk s' q l :=
 ⟨h.toWBase.of e, by rw [e.now]; exact h.now1, h.nd, fun t => by rw [e.n, e.w.g, e.now]; exact h.mem t, fun t t0 t1 => by
  rw [e.n] at t1
  rw [e.now, e.w.g, e.k.L.g]
  exact h.w t t0 t1⟩
theorem zEc.of {s s' : WS} {q : Int → List Int} (h : zEc s q) (e : zDg s' s) : zEc s' q :=
 ⟨h.toWBase.of e, fun t t0 t1 => by
  rw [e.n] at t1
  rw [e.now, e.w.g, e.k.L.g]
  exact h.w t t0 t1⟩
theorem wake_eq {s s' : WS} (h : zDg s s') (t : Int) : zDg (s.wake t) (s'.wake t) := by
 have ho := out_eq h (t := t) rfl
 exact ⟨ho.n, ho.now, zEd h.w rfl rfl, ho.k, ho.c⟩
theorem wakes_eq : ∀ {l : List Int} {s s' : WS}, zDg s s' → zDg (WS.wakes l s) (WS.wakes l s') := by
 intro l
 induction l with
 | nil => intro s s' h; exact h
 | cons t l ih => intro s s' h; exact ih (wake_eq h t)
theorem down_mid {s : WS} {q : Int → List Int} {r : Nat} (h : WDn s q (r + 1)) (hm : zEh s) (hr1 : 1 ≤ r) (hr4 : r < 4) : zEh (s.down r) := by
 have key : ∀ (m : Nat) (s : WS) (q : Int → List Int), WDn s q (r + 1) → (q (placeOf r s.now)).length = m → zEh s → zEh (WS.dnK r m s) := by
  intro m
  induction m with
  | zero => intro s q _ _ hm; exact hm
  | succ m ih =>
   intro s q h hl hm
   cases hq : q (placeOf r s.now) with
   | nil => rw [hq] at hl; simp at hl
   | cons x l =>
    obtain ⟨e1, e2, e3, e4⟩ := h.toWBase.top hr4 hq
    obtain ⟨p0, _, _⟩ := zBa (at_ := s.now) hr4
    have hL : g0 s.k.L x ≠ -1 := by omega
    have hp := pop_eq h.toWBase hr4 hq
    have ho := h.toWBase.out ⟨e2, e3⟩ hL
    have hmo := (hm.out h.toWBase ⟨e2, e3⟩ hL).inn ho (t := x) ⟨e2, e3⟩
    obtain ⟨q', g1, g2⟩ := h.step hr1 hr4 hq
    have ed : s.dn1 r = (s.out x).inn x := by unfold WS.dn1; rw [hp, e1]
    refine ih (s.dn1 r) q' g1 ?_ (by rw [ed]; exact hmo)
    rw [(dn1_keep (s := s) (r := r)).2.1, g2]
    rw [hq] at hl
    simpa using hl
 unfold WS.down
 split
 ·exact key _ s q h (h.toWBase.many hr4).symm hm
 ·exact hm
def walkN (N : TT) : Nat → Int → List Int
 | 0, _ => []
 | m + 1, a => g0 N a :: walkN N m (g0 N a)
theorem seg_walk {N B : TT} : ∀ {l : List Int} {a b : Int}, Seg N B a l b → walkN N l.length a = l := by
 intro l
 induction l with
 | nil => intro a b _; rfl
 | cons x l ih =>
  intro a b h
  obtain ⟨h1, _, h3⟩ := h
  show g0 N a :: walkN N l.length (g0 N a) = x :: l
  rw [h1, ih h3]
def WS.raw (s : WS) : List Int := walkN s.downs.k.N (s.downs.many 0) (s.downs.n + placeOf 0 s.downs.now)
def WS.fin (s : WS) : WS := WS.wakes s.raw s.downs
theorem raw_eq {s : WS} {q : Int → List Int} (h : WTk s.downs q) : s.raw = q (placeOf 0 s.downs.now) := by
 obtain ⟨p0, p1, _⟩ := zBa (r := 0) (at_ := s.downs.now) (by omega)
 unfold WS.raw
 rw [h.toWBase.many (by omega)]
 exact seg_walk (h.rep.seg _ p0 p1)
def tkC (i : Nat) : C4 := match i with
 | 0 => ⟨v 2, v 3, v 4, v 5⟩
 | 1 => ⟨v 7, v 8, v 9, v 10⟩
 | 2 => ⟨v 11, v 12, v 13, v 14⟩
 | 3 => ⟨v 15, v 16, v 17, v 18⟩
 | _ => ⟨v 19, v 20, v 21, v 22⟩
def tkK (i : Nat) : K4 := match i with
 | 0 => ⟨.tab 129, .tab 130, .tab 131, .tab 132⟩
 | 1 => ⟨.tab 134, .tab 135, .tab 136, .tab 137⟩
 | 2 => ⟨.tab 138, .tab 139, .tab 140, .tab 141⟩
 | 3 => ⟨.tab 142, .tab 143, .tab 144, .tab 145⟩
 | _ => ⟨.tab 148, .tab 149, .tab 150, .tab 151⟩
def nowT : SE := add (v 1) (L 1)
def pre (k r : Nat) : Nat := if r = k then 0 else 3 - r
def cntE (k r : Nat) : SE := .sel (tkK (pre k r)).d (placeS r nowT) 0
def downL (f : Fns) (k r : Nat) : List zAd := if r ≤ k then [dnS f r (v 0) nowT (tkC (pre k r)) (tkC (4 - r)) (placeS r nowT) (cntE k r) (.tab 128) (tkK (pre k r)) (tkK (4 - r))] else []
def zGm (k : Nat) : Nat := if k = 0 then 0 else 3
def headE (k : Nat) : SE := .sel (tkK (zGm k)).a (add (v 0) (placeS 0 nowT)) 0
def rawT : SE := .tab 147
def tickL (f : Fns) (ab : Code × Code) (k : Nat) (w : Bool) : List zAd :=
 downL f k 3 ++ (downL f k 2 ++ (downL f k 1 ++ ([allS f ab (v 0) (placeS 0 nowT) (headE k) (v 6) (tkK (zGm k)).a rawT w] ++
  (if w then [wakeS f (v 0) nowT (tkC (zGm k)) (tkC 4) (v 6) (.tab 128) (.tab 146) (tkK (zGm k)) (tkK 4) rawT] else []))))
def tickF (f : Fns) (w : Bool) : List zAi := if w then [sortS f (v 6) rawT (.tab 133)] else []
def pcDown (k r : Nat) : List (SB × Bool) := [(.eq (.rem nowT (pwS r)) (L 0), decide (r ≤ k))] ++ (if r ≤ k then inR (L 0) (cntE k r) (L 4096) else [])
def pcTick (k : Nat) (w : Bool) : List (SB × Bool) := pcW ++ (pcDown k 3 ++ (pcDown k 2 ++ (pcDown k 1 ++ (inR (L 0) (headE k) n127 ++ (if w then inR (L 1) (v 6) (L 4096) else [])))))
def shT (G : Nat) : Nat → Shape
 | 0 => ⟨zHg 0 [.ptr G 0], zDr G⟩
 | 1 => ⟨[(0, nilS)], zDr G⟩
 | _ => ⟨[(0, ss (G + 7) (v 6))], zDr G ++ [T1 133 (v 6)]⟩
def zNb (G k : Nat) (w : Bool) : Case :=
 ⟨pcTick k w, .ret, if w then 2 else 1, [.var 0, nowT] ++ ((tkC (if w then 4 else zGm k)).list ++ [v 6]), [if w then .tab 146 else .tab 128] ++ ((tkK (if w then 4 else zGm k)).list ++ [.tab 133]), if w then [G, G + 1, G + 2, G + 3, G + 4, G + 5, G + 6, G + 12] else []⟩
def tickS (f : Fns) (n now now' : SE) (c c' : C4) (m : SE) (w w' : SE) (K K' : K4) (T : SE) (some_ : Bool) : zAi :=
 ⟨f.tick, 1, shT f.G, fW n now c m, gK w K T, nmW, [⟨.ret, if some_ then 2 else 1, fW n now' c' m, gK w' K' T⟩], 7⟩
end Go.Proofs.Wheels
namespace Go.Proofs.YtaliacnncemneaaGreat.wheels
open Go.Abs Go.Proofs.Wheels
noncomputable def runT (k : Nat) (w : Bool) : Bool :=
 ((zJk (zNb PG k w).pc (tickL fns abK k w) (tickF fns w)) (.f fTick) [.ptr PG 0] ((shT PG 0).heap PG [])).every NN (@Case.chkF ⟨(zNb PG k w).pc⟩ PG 7 (shT PG (zNb PG k w).to) (zNb PG k w))
set_option maxRecDepth 1000000
theorem run_t00 : runT 0 false = true := by kernel_rfl
theorem run_t01 : runT 0 true = true := by kernel_rfl
theorem run_t10 : runT 1 false = true := by kernel_rfl
theorem run_t11 : runT 1 true = true := by kernel_rfl
theorem run_t20 : runT 2 false = true := by kernel_rfl
theorem run_t21 : runT 2 true = true := by kernel_rfl
theorem run_t30 : runT 3 false = true := by kernel_rfl
theorem run_t31 : runT 3 true = true := by kernel_rfl
theorem run_t {k : Nat} (hk : k ≤ 3) (w : Bool) : runT k w = true := by
 rcases (show k = 0 ∨ k = 1 ∨ k = 2 ∨ k = 3 by omega) with rfl | rfl | rfl | rfl <;> cases w
 ·exact run_t00
 ·exact run_t01
 ·exact run_t10
 ·exact run_t11
 ·exact run_t20
 ·exact run_t21
 ·exact run_t30
 ·exact run_t31
theorem zJc {pc : List (SB × Bool)} {ls : List zAd} {fs : List zAi} (B : Nat) (V : @zAc ⟨pc⟩) (hl : ∀ S ∈ ls, @zAp ⟨pc⟩ V Tryz.prog [] S) (hf : ∀ S ∈ fs, @zAj ⟨pc⟩ V Tryz.prog [] S) : @zCe ⟨pc⟩ V Tryz.prog B (zJk pc ls fs) := by
 letI F : Facts := ⟨pc⟩
 letI := manyLoops PG [] ls
 letI := zDm hl
 exact zKr (zIk (base := fun _ => none) ⟨zEw hl B, (fun _ _ e => by cases e), fun _ _ e => by cases e⟩ hf) (fun _ h => zEu h) deep
theorem fxT : zAl (shT PG) 7 [false, false, false, false, false, false, false] := fun i => by
 rcases i with _ | _ | i <;> exact ⟨by show (7 : Nat) ≤ _; first | exact Nat.le_refl 7 | exact Nat.le_succ 7, rfl, rfl⟩
set_option maxRecDepth 100000
theorem goodT1 : zBk PG (shT PG 1) = true := by kernel_rfl
theorem goodT2 : zBk PG (shT PG 2) = true := by kernel_rfl
theorem upsT : ∀ i, (shT PG i).ups 7 6 = true := fun i => by rcases i with _ | _ | i <;> kernel_rfl
def zBe (now : Int) : Nat := if now % 32768 = 0 then 3 else if now % 1024 = 0 then 2 else if now % 32 = 0 then 1 else 0
theorem rowsDn_le {now : Int} : zBe now ≤ 3 := by
 unfold zBe
 repeat' split
 all_goals omega
theorem zNp {now : Int} {r : Nat} (h1 : 1 ≤ r) (h4 : r < 4) : r ≤ zBe now ↔ now % pw r = 0 := by
 unfold zBe
 rcases (show r = 1 ∨ r = 2 ∨ r = 3 by omega) with rfl | rfl | rfl <;> simp only [pw] <;> repeat' split
 all_goals omega
def stg (s : WS) : Nat → WS
 | 0 => s.tick
 | 1 => s.tick.down 3
 | 2 => (s.tick.down 3).down 2
 | _ => s.downs
theorem stg_down {s : WS} {r : Nat} (h1 : 1 ≤ r) (h4 : r < 4) : stg s (4 - r) = (stg s (3 - r)).down r := by
 rcases (show r = 1 ∨ r = 2 ∨ r = 3 by omega) with rfl | rfl | rfl <;> rfl
theorem zOz {s : WS} {i : Nat} : (stg s i).n = s.n ∧ (stg s i).now = s.now + 1 ∧ (stg s i).when_ = s.when_ := by
 have t : s.tick.n = s.n ∧ s.tick.now = s.now + 1 ∧ s.tick.when_ = s.when_ := ⟨rfl, rfl, rfl⟩
 have a3 := zKa (s := s.tick) (r := 3)
 have a2 := zKa (s := s.tick.down 3) (r := 2)
 have a1 := zBu (s := s)
 rcases i with _ | _ | _ | i
 ·exact t
 ·exact ⟨a3.1.trans t.1, a3.2.1.trans t.2.1, a3.2.2.trans t.2.2⟩
 ·exact ⟨a2.1.trans (a3.1.trans t.1), a2.2.1.trans (a3.2.1.trans t.2.1), a2.2.2.trans (a3.2.2.trans t.2.2)⟩
 ·exact a1
theorem zNa {s : WS} {r : Nat} (h1 : 1 ≤ r) (h4 : r < 4) (h : ¬ r ≤ zBe s.now) : s.down r = s := by
 unfold WS.down
 rw [if_neg (fun e => h ((zNp h1 h4).2 e))]
theorem stg_pre {s : WS} {r : Nat} (h1 : 1 ≤ r) (h4 : r < 4) (h : r ≤ zBe (s.now + 1)) : stg s (pre (zBe (s.now + 1)) r) = stg s (3 - r) := by
 unfold pre
 by_cases e : r = zBe (s.now + 1)
 ·rw [if_pos e]
  have d3 : ¬ 3 ≤ zBe (s.now + 1) → stg s 1 = stg s 0 := fun h3 => zNa (s := s.tick) (by omega) (by omega) h3
  have d2 : ¬ 2 ≤ zBe (s.now + 1) → stg s 2 = stg s 0 := fun h2 => by
   have : stg s 2 = (stg s 1).down 2 := rfl
   rw [this, d3 (by omega)]
   exact zNa (s := s.tick) (by omega) (by omega) h2
  rcases (show r = 1 ∨ r = 2 ∨ r = 3 by omega) with rfl | rfl | rfl
  ·exact (d2 (by omega)).symm
  ·exact (d3 (by omega)).symm
  ·rfl
 ·rw [if_neg e]
theorem stg_last {s : WS} : stg s (zGm (zBe (s.now + 1))) = s.downs := by
 unfold zGm
 by_cases e : zBe (s.now + 1) = 0
 ·rw [if_pos e]
  have h3 : s.tick.down 3 = s.tick := zNa (by omega) (by omega) (by show ¬ 3 ≤ zBe (s.now + 1); omega)
  have h2 : s.tick.down 2 = s.tick := zNa (by omega) (by omega) (by show ¬ 2 ≤ zBe (s.now + 1); omega)
  have h1 : s.tick.down 1 = s.tick := zNa (by omega) (by omega) (by show ¬ 1 ≤ zBe (s.now + 1); omega)
  show s.tick = ((s.tick.down 3).down 2).down 1
  rw [h3, h2, h1]
 ·rw [if_neg e]; rfl
theorem stg_inv {s : WS} {q : Int → List Int} (h : zEc s q) (hm : zEh s) (hnow : s.now + 1 ≤ 999000000) {r : Nat} (hr : r < 4) : ∃ q', WDn (stg s (3 - r)) q' (r + 1) ∧ zEh (stg s (3 - r)) := by
 have m0 : zEh s.tick := ⟨hnow, hm.w, hm.k⟩
 obtain ⟨q3, h3⟩ := h.tick.down (r := 3) (by omega) (by omega)
 have m3 := down_mid h.tick m0 (by omega) (by omega)
 obtain ⟨q2, h2⟩ := h3.down (r := 2) (by omega) (by omega)
 have m2 := down_mid h3 m3 (by omega) (by omega)
 obtain ⟨q1, h1⟩ := h2.down (r := 1) (by omega) (by omega)
 have m1 := down_mid h2 m2 (by omega) (by omega)
 rcases (show r = 0 ∨ r = 1 ∨ r = 2 ∨ r = 3 by omega) with rfl | rfl | rfl | rfl
 ·exact ⟨q1, h1, m1⟩
 ·exact ⟨q2, h2, m2⟩
 ·exact ⟨q3, h3, m3⟩
 ·exact ⟨q, h.tick, m0⟩
def zEs (s : WS) : Nat → Int :=
 zCb ([s.n, s.now] ++ (s.cs ++ ([(s.raw.length : Int)] ++ ((stg s 1).cs ++ ((stg s 2).cs ++ (s.downs.cs ++ s.fin.cs))))))
  ([s.when_] ++ (s.k.list ++ ([zAs (sorted s.raw)] ++ ((stg s 1).k.list ++ ((stg s 2).k.list ++ (s.downs.k.list ++ ([s.fin.when_, zAs s.raw] ++ s.fin.k.list)))))))
section
variable {s : WS}
theorem encT_0 : zEs s 0 = s.n := zAu rfl (by decide)
theorem encT_1 : zEs s 1 = s.now := zAu rfl (by decide)
theorem encT_6 : zEs s 6 = s.raw.length := zAu rfl (by decide)
theorem encT_w : zAg (zFl (zEs s) 128) s.when_ := zAq rfl (by decide) (by decide)
theorem encT_T : zAg (zFl (zEs s) 133) (zAs (sorted s.raw)) := zAq rfl (by decide) (by decide)
theorem encT_fw : zAg (zFl (zEs s) 146) s.fin.when_ := zAq rfl (by decide) (by decide)
theorem encT_raw : zAg (zFl (zEs s) 147) (zAs s.raw) := zAq rfl (by decide) (by decide)
theorem encT_k : zEi (lkT (zEs s) 129) s.k := ⟨zAq rfl (by decide) (by decide), zAq rfl (by decide) (by decide), zAq rfl (by decide) (by decide), zAq rfl (by decide) (by decide)⟩
theorem encT_k1 : zEi (lkT (zEs s) 134) (stg s 1).k := ⟨zAq rfl (by decide) (by decide), zAq rfl (by decide) (by decide), zAq rfl (by decide) (by decide), zAq rfl (by decide) (by decide)⟩
theorem encT_k2 : zEi (lkT (zEs s) 138) (stg s 2).k := ⟨zAq rfl (by decide) (by decide), zAq rfl (by decide) (by decide), zAq rfl (by decide) (by decide), zAq rfl (by decide) (by decide)⟩
theorem encT_k3 : zEi (lkT (zEs s) 142) s.downs.k := ⟨zAq rfl (by decide) (by decide), zAq rfl (by decide) (by decide), zAq rfl (by decide) (by decide), zAq rfl (by decide) (by decide)⟩
theorem encT_k4 : zEi (lkT (zEs s) 148) s.fin.k := ⟨zAq rfl (by decide) (by decide), zAq rfl (by decide) (by decide), zAq rfl (by decide) (by decide), zAq rfl (by decide) (by decide)⟩
theorem zDi {i : Nat} (hi : i < 4) : zEs s (2 + i) = s.c i ∧ zEs s (7 + i) = (stg s 1).c i ∧ zEs s (11 + i) = (stg s 2).c i ∧ zEs s (15 + i) = s.downs.c i ∧ zEs s (19 + i) = s.fin.c i := by
 rcases (show i = 0 ∨ i = 1 ∨ i = 2 ∨ i = 3 by omega) with rfl | rfl | rfl | rfl <;> exact ⟨zAu rfl (by decide), zAu rfl (by decide), zAu rfl (by decide), zAu rfl (by decide), zAu rfl (by decide)⟩
theorem nowT_ev : nowT.eval (zEs s) = s.now + 1 := by
 show zEs s 1 + 1 = _
 rw [encT_1]
theorem tk_c {i : Nat} (hi : i ≤ 3) : ∀ r, r < 4 → cE (zEs s) (tkC i) r = (stg s i).c r := fun r hr => by
 rcases (show i = 0 ∨ i = 1 ∨ i = 2 ∨ i = 3 by omega) with rfl | rfl | rfl | rfl <;> rcases (show r = 0 ∨ r = 1 ∨ r = 2 ∨ r = 3 by omega) with rfl | rfl | rfl | rfl
 ·exact (zDi (s := s) (i := 0) (by decide)).1
 ·exact (zDi (s := s) (i := 1) (by decide)).1
 ·exact (zDi (s := s) (i := 2) (by decide)).1
 ·exact (zDi (s := s) (i := 3) (by decide)).1
 ·exact (zDi (s := s) (i := 0) (by decide)).2.1
 ·exact (zDi (s := s) (i := 1) (by decide)).2.1
 ·exact (zDi (s := s) (i := 2) (by decide)).2.1
 ·exact (zDi (s := s) (i := 3) (by decide)).2.1
 ·exact (zDi (s := s) (i := 0) (by decide)).2.2.1
 ·exact (zDi (s := s) (i := 1) (by decide)).2.2.1
 ·exact (zDi (s := s) (i := 2) (by decide)).2.2.1
 ·exact (zDi (s := s) (i := 3) (by decide)).2.2.1
 ·exact (zDi (s := s) (i := 0) (by decide)).2.2.2.1
 ·exact (zDi (s := s) (i := 1) (by decide)).2.2.2.1
 ·exact (zDi (s := s) (i := 2) (by decide)).2.2.2.1
 ·exact (zDi (s := s) (i := 3) (by decide)).2.2.2.1
theorem tk_c4 : ∀ r, r < 4 → cE (zEs s) (tkC 4) r = s.fin.c r := fun r hr => by
 rcases (show r = 0 ∨ r = 1 ∨ r = 2 ∨ r = 3 by omega) with rfl | rfl | rfl | rfl
 ·exact (zDi (s := s) (i := 0) (by decide)).2.2.2.2
 ·exact (zDi (s := s) (i := 1) (by decide)).2.2.2.2
 ·exact (zDi (s := s) (i := 2) (by decide)).2.2.2.2
 ·exact (zDi (s := s) (i := 3) (by decide)).2.2.2.2
theorem tk_k {i : Nat} (hi : i ≤ 3) : zEi (lkE (zEs s) (tkK i)) (stg s i).k := by
 rcases (show i = 0 ∨ i = 1 ∨ i = 2 ∨ i = 3 by omega) with rfl | rfl | rfl | rfl
 ·exact encT_k
 ·exact encT_k1
 ·exact encT_k2
 ·exact encT_k3
theorem tk_k4 : zEi (lkE (zEs s) (tkK 4)) s.fin.k := encT_k4
theorem tk_ws {i : Nat} (hi : i ≤ 3) : zDg (wsE (zEs s) (v 0) nowT (tkC i) (.tab 128) (tkK i)) (stg s i) := by
 obtain ⟨e1, e2, e3⟩ := zOz (s := s) (i := i)
 exact ⟨by rw [e1]; exact encT_0, by rw [e2]; exact nowT_ev, by rw [e3]; exact encT_w, tk_k hi, tk_c hi⟩
theorem tk_sel {i : Nat} (hi : i ≤ 3) (e : SE) : (SE.sel (tkK i).d e 0).eval (zEs s) = g0 (stg s i).k.C (e.eval (zEs s)) ∧ (SE.sel (tkK i).a e 0).eval (zEs s) = g0 (stg s i).k.N (e.eval (zEs s)) := by
 have hk := tk_k (s := s) hi
 rcases (show i = 0 ∨ i = 1 ∨ i = 2 ∨ i = 3 by omega) with rfl | rfl | rfl | rfl
 ·exact ⟨(zBv _ 132 e).trans (hk.C.g _), (zBv _ 129 e).trans (hk.N.g _)⟩
 ·exact ⟨(zBv _ 137 e).trans (hk.C.g _), (zBv _ 134 e).trans (hk.N.g _)⟩
 ·exact ⟨(zBv _ 141 e).trans (hk.C.g _), (zBv _ 138 e).trans (hk.N.g _)⟩
 ·exact ⟨(zBv _ 145 e).trans (hk.C.g _), (zBv _ 142 e).trans (hk.N.g _)⟩
theorem zMf (h : 0 ≤ s.now) (r : Nat) : (placeS r nowT).eval (zEs s) = placeOf r (s.now + 1) := by
 rw [place_eval (by rw [nowT_ev]; omega), nowT_ev]
end
structure zNi (s : WS) (qt qf : Int → List Int) : Prop where
 tk : WTk s.downs qt
 raw : s.raw = qt (placeOf 0 s.downs.now)
 wk : WWk s.downs qt s.raw
 mid : zEh s.downs
 fin : zEc s.fin qf
 finM : zEh s.fin
 len : s.raw.length ≤ 4096
 th : ∀ t ∈ s.raw, 0 ≤ t ∧ t < s.n
theorem wakes_mid : ∀ {l : List Int} {s : WS} {q : Int → List Int}, WWk s q l → zEh s → zEh (WS.wakes l s) := by
 intro l
 induction l with
 | nil => intro s q _ h; exact h
 | cons t l ih =>
  intro s q h hm
  obtain ⟨hL, h1⟩ := h.step
  obtain ⟨t0, t1, _⟩ := (h.mem t).1 (.head _)
  have ho := hm.out h.toWBase ⟨t0, t1⟩ hL
  exact ih h1 ⟨ho.now, ho.w.up (i64 (by omega) (by omega)), ho.k⟩
theorem zJo {s : WS} {q : Int → List Int} (h : zEc s q) (hm : zEh s) (hnow : s.now + 1 ≤ 999000000) : ∃ qt qf, zNi s qt qf := by
 obtain ⟨qt, ht⟩ := h.downs
 obtain ⟨q0, _, m1⟩ := stg_inv h hm hnow (r := 0) (by omega)
 have m1 : zEh s.downs := m1
 have hr := raw_eq ht
 have wk : WWk s.downs qt s.raw := by rw [hr]; exact ht.start
 obtain ⟨qf, hf, _⟩ := wk.all
 have hth : ∀ t ∈ s.raw, 0 ≤ t ∧ t < s.n := fun t hts => by
  have := (wk.mem t).1 hts
  rw [zBu.1] at this
  exact ⟨this.1, this.2.1⟩
 have hn := h.rep.n1
 refine ⟨qt, qf, ht, hr, wk, m1, hf, wakes_mid wk m1, ?_, hth⟩
 have := zJu (n := s.n.toNat) wk.nd fun t ht => by
  have := hth t ht
  omega
 omega
theorem encT_mid {s : WS} {q qt qf : Int → List Int} (h : zEc s q) (hm : zEh s) (hnow : s.now + 1 ≤ 999000000) (ha : zNi s qt qf) : ∀ j, In64 (zEs s j) := by
 have hn := h.rep.n1
 have h0 := h.now0
 obtain ⟨q1, d1, e1⟩ := stg_inv h hm hnow (r := 2) (by omega)
 obtain ⟨q2, d2, e2⟩ := stg_inv h hm hnow (r := 1) (by omega)
 have d1 : WDn (stg s 1) q1 3 := d1
 have e1 : zEh (stg s 1) := e1
 have d2 : WDn (stg s 2) q2 2 := d2
 have e2 : zEh (stg s 2) := e2
 have hlen := ha.len
 have app : ∀ {α : Type} {p : α → Prop} {l m : List α}, (∀ x ∈ l, p x) → (∀ x ∈ m, p x) → ∀ x ∈ l ++ m, p x := fun h1 h2 x hx => (List.mem_append.1 hx).elim (h1 x) (h2 x)
 have one : ∀ {α : Type} {p : α → Prop} {a : α}, p a → ∀ x ∈ [a], p x := fun h1 x hx => by
  simp only [List.mem_cons, List.not_mem_nil, or_false] at hx
  subst hx; exact h1
 have two : ∀ {α : Type} {p : α → Prop} {a b : α}, p a → p b → ∀ x ∈ [a, b], p x := fun h1 h2 x hx => by
  simp only [List.mem_cons, List.not_mem_nil, or_false] at hx
  rcases hx with rfl | rfl
  ·exact h1
  ·exact h2
 have hth : ∀ t ∈ s.raw, In64 t := fun t ht => by
  have := ha.th t ht
  exact i64 (by omega) (by omega)
 refine zMv ?_ ?_
 ·exact app (two (i64 (by omega) (by omega)) (i64 (by omega) (by omega))) (app h.toWBase.cs_mid (app (one (i64 (by omega) (by omega))) (app d1.toWBase.cs_mid (app d2.toWBase.cs_mid (app ha.tk.toWBase.cs_mid ha.fin.toWBase.cs_mid)))))
 ·exact app (one hm.w) (app (LK.list_mid hm.k) (app (one (zBf fun x hx => hth x (zDx.1 hx))) (app (LK.list_mid e1.k) (app (LK.list_mid e2.k) (app (LK.list_mid ha.mid.k) (app (two ha.finM.w (zBf hth)) (LK.list_mid ha.finM.k)))))))
section
variable {s : WS} {q qt qf : Int → List Int}
theorem stg_pre_le {k r : Nat} : pre k r ≤ 3 := by
 unfold pre
 split <;> omega
theorem last_le {k : Nat} : zGm k ≤ 3 := by
 unfold zGm
 split <;> omega
theorem pre_ws {r : Nat} (h1 : 1 ≤ r) (h4 : r < 4) (hk : r ≤ zBe (s.now + 1)) : zDg (wsE (zEs s) (v 0) nowT (tkC (pre (zBe (s.now + 1)) r)) (.tab 128) (tkK (pre (zBe (s.now + 1)) r))) (stg s (3 - r)) := by
 have := tk_ws (s := s) (i := pre (zBe (s.now + 1)) r) stg_pre_le
 rw [stg_pre h1 h4 hk] at this
 exact this
theorem cnt_ev (h0 : 0 ≤ s.now) {r : Nat} (h1 : 1 ≤ r) (h4 : r < 4) (hk : r ≤ zBe (s.now + 1)) : (cntE (zBe (s.now + 1)) r).eval (zEs s) = g0 (stg s (3 - r)).k.C (placeOf r (s.now + 1)) := by
 have := (tk_sel (s := s) (i := pre (zBe (s.now + 1)) r) stg_pre_le (placeS r nowT)).1
 rw [stg_pre h1 h4 hk, zMf h0] at this
 exact this
theorem last_ws : zDg (wsE (zEs s) (v 0) nowT (tkC (zGm (zBe (s.now + 1)))) (.tab 128) (tkK (zGm (zBe (s.now + 1))))) s.downs := by
 have := tk_ws (s := s) (i := zGm (zBe (s.now + 1))) last_le
 rw [stg_last] at this
 exact this
theorem head_ev (h0 : 0 ≤ s.now) : (headE (zBe (s.now + 1))).eval (zEs s) = g0 s.downs.k.N (s.n + placeOf 0 (s.now + 1)) := by
 have := (tk_sel (s := s) (i := zGm (zBe (s.now + 1))) last_le (add (v 0) (placeS 0 nowT))).2
 rw [stg_last] at this
 refine this.trans ?_
 show g0 s.downs.k.N (zEs s 0 + (placeS 0 nowT).eval (zEs s)) = _
 rw [encT_0, zMf h0]
theorem down_at (h : zEc s q) (hm : zEh s) (hnow : s.now + 1 ≤ 999000000) {r : Nat} (h1 : 1 ≤ r) (h4 : r < 4) (hk : r ≤ zBe (s.now + 1)) [F : Facts] [V : zAc] (hV : V.env = zEs s) :
  zAp Tryz.prog [] (dnS fns r (v 0) nowT (tkC (pre (zBe (s.now + 1)) r)) (tkC (4 - r)) (placeS r nowT) (cntE (zBe (s.now + 1)) r) (.tab 128) (tkK (pre (zBe (s.now + 1)) r)) (tkK (4 - r))) := by
 obtain ⟨q', d, e⟩ := stg_inv h hm hnow h4
 have w := pre_ws (s := s) h1 h4 hk
 have h0 := h.now0
 have hdn : (stg s (3 - r)).now % pw r = 0 := by
  rw [zOz.2.1]; exact (zNp h1 h4).1 hk
 have hdown : WS.dnK r ((stg s (3 - r)).many r) (stg s (3 - r)) = stg s (4 - r) := by
  rw [stg_down h1 h4]
  unfold WS.down
  rw [if_pos hdn]
 obtain ⟨s', hs'⟩ : ∃ s', s' = wsE (zEs s) (v 0) nowT (tkC (pre (zBe (s.now + 1)) r)) (.tab 128) (tkK (pre (zBe (s.now + 1)) r)) := ⟨_, rfl⟩
 rw [← hs'] at w
 have hfin : zDg (WS.dnK r (s'.many r) s') (stg s (4 - r)) := by
  rw [← hdown, many_eq w]
  exact dnK_eq w
 have hnw : s'.now = s.now + 1 := w.now.trans zOz.2.1
 refine down_proof (q := q') (s := s') (fin := WS.dnK r (s'.many r) s') h1 h4 (by rw [hV]; exact hs'.symm) (d.of w) (e.of w) ?_ ?_ rfl (fun i hi => ?_) ?_
 ·rw [hV, hnw]; exact zMf h0 r
 ·rw [hV, cnt_ev h0 h1 h4 hk, many_eq w]
  unfold WS.many
  rw [zOz.2.1]
  obtain ⟨p0, p1, _⟩ := zBa (at_ := s.now + 1) h4
  have hc := d.rep.cnt _ p0 p1
  rw [hc]
  simp
 ·rw [hV, hfin.c i hi]
  exact tk_c (by omega) i hi
 ·rw [hV]
  exact (tk_k (s := s) (i := 4 - r) (by omega)).trans hfin.k.symm
theorem all_base (h : zEc s q) (ha : zNi s qt qf) : zOf s.n (placeOf 0 (s.now + 1)) s.downs.k.N s.raw := by
 obtain ⟨p0, p1, _⟩ := zBa (r := 0) (at_ := s.now + 1) (by omega)
 have hn := h.rep.n1
 have hseg := ha.tk.rep.seg _ p0 p1
 rw [zBu.1] at hseg
 have hr := ha.raw
 rw [zBu.2.1] at hr
 rw [← hr] at hseg
 exact ⟨by omega, ⟨p0, p1⟩, (seg_plc hseg).2, ha.th, ha.len, ha.mid.k.N⟩
theorem head_plc (h : zEc s q) (ha : zNi s qt qf) : g0 s.downs.k.N (s.n + placeOf 0 (s.now + 1)) = plc s.raw (s.n + placeOf 0 (s.now + 1)) 0 := by
 obtain ⟨p0, p1, _⟩ := zBa (r := 0) (at_ := s.now + 1) (by omega)
 have hseg := ha.tk.rep.seg _ p0 p1
 rw [zBu.1] at hseg
 have hr := ha.raw
 rw [zBu.2.1] at hr
 rw [← hr] at hseg
 exact (seg_plc hseg).1
theorem all_at (h : zEc s q) (ha : zNi s qt qf) {w : Bool} (hw : w = true ↔ s.raw ≠ []) [F : Facts] [V : zAc] (hV : V.env = zEs s) :
  zAp Tryz.prog [] (allS fns abK (v 0) (placeS 0 nowT) (headE (zBe (s.now + 1))) (v 6) (tkK (zGm (zBe (s.now + 1)))).a rawT w) := by
 have h0 := h.now0
 have b := all_base h ha
 have hN : zAg (zAw (zEs s) (tkK (zGm (zBe (s.now + 1)))).a) s.downs.k.N := (last_ws (s := s)).k.N
 have e0 : (v 0).eval (zEs s) = s.n := encT_0
 refine all_proof (ql := s.raw) ?_ ?_ ?_ ?_ hw
 all_goals rw [hV]
 ·rw [e0, zMf h0]
  exact ⟨b.hn, b.hl, fun i hi => by rw [hN.g]; exact b.seg i hi, b.th, b.len, b.mid.of hN⟩
 ·rw [e0, zMf h0, head_ev h0]; exact head_plc h ha
 ·exact encT_6
 ·exact encT_raw
theorem wake_at (ha : zNi s qt qf) [F : Facts] [V : zAc] (hV : V.env = zEs s) :
  zAp Tryz.prog [] (wakeS fns (v 0) nowT (tkC (zGm (zBe (s.now + 1)))) (tkC 4) (v 6) (.tab 128) (.tab 146) (tkK (zGm (zBe (s.now + 1)))) (tkK 4) rawT) := by
 have w := last_ws (s := s)
 obtain ⟨s', hs'⟩ : ∃ s', s' = wsE (zEs s) (v 0) nowT (tkC (zGm (zBe (s.now + 1)))) (.tab 128) (tkK (zGm (zBe (s.now + 1)))) := ⟨_, rfl⟩
 rw [← hs'] at w
 have hf : zDg (WS.wakes s.raw s') s.fin := wakes_eq w
 refine wake_proof (q := qt) (s := s') (fin := WS.wakes s.raw s') (ql := s.raw) (by rw [hV]; exact hs'.symm) (ha.wk.of w) (ha.mid.of w) ?_ ?_ rfl ?_ (fun i hi => ?_) ?_
 all_goals rw [hV]
 ·exact encT_6
 ·exact encT_raw
 ·exact encT_fw.trans hf.w.symm
 ·rw [hf.c i hi]; exact tk_c4 i hi
 ·exact tk_k4.trans hf.k.symm
theorem raw_mid (h : zEc s q) (ha : zNi s qt qf) : ∀ t ∈ s.raw, In64 t := fun t ht => by
 have := ha.th t ht
 have hn := h.rep.n1
 exact i64 (by omega) (by omega)
theorem sort_at (hC : zOd Tryz.prog zLp) (h : zEc s q) (ha : zNi s qt qf) (hne : s.raw ≠ []) [F : Facts] [V : zAc] (hV : V.env = zEs s) : zAj Tryz.prog [] (sortS fns (v 6) rawT (.tab 133)) := by
 have hl : 1 ≤ s.raw.length := by
  cases e : s.raw with
  | nil => exact absurd e hne
  | cons a l => simp
 refine sort_ok (l := s.raw) hC ?_ hl ha.len (raw_mid h ha) ?_ ?_
 all_goals rw [hV]
 ·exact encT_6
 ·exact encT_raw
 ·exact encT_T
theorem fact_dn (h : zEc s q) (hm : zEh s) (hnow : s.now + 1 ≤ 999000000) {r : Nat} (h1 : 1 ≤ r) (h4 : r < 4) : Fx (zEs s) (pcDown (zBe (s.now + 1)) r) := by
 have h0 := h.now0
 refine .app (zEb ?_) ?_
 ·show decide ((nowT.eval (zEs s)).tmod (pw r) = 0) = decide (r ≤ zBe (s.now + 1))
  rw [nowT_ev, tmod_pos (by omega)]
  exact decide_eq_decide.2 (zNp h1 h4).symm
 ·by_cases hk : r ≤ zBe (s.now + 1)
  ·rw [if_pos hk]
   obtain ⟨q', d, e⟩ := stg_inv h hm hnow h4
   obtain ⟨p0, p1, _⟩ := zBa (at_ := s.now + 1) h4
   have hc := d.rep.cnt _ p0 p1
   have hl := d.rep.len p0 p1
   have hn := d.rep.n1
   have ec := cnt_ev h0 h1 h4 hk
   rw [hc] at ec
   refine zAv ?_ ?_
   ·rw [ec]; show (0 : Int) ≤ _; omega
   ·rw [ec]; show _ ≤ (4096 : Int); omega
  ·rw [if_neg hk]; exact .nil
theorem fact_tick (h : zEc s q) (hm : zEh s) (hnow : s.now + 1 ≤ 999000000) (ha : zNi s qt qf) {w : Bool} (hw : w = true ↔ s.raw ≠ []) : Fx (zEs s) (pcTick (zBe (s.now + 1)) w) := by
 have h0 := h.now0
 have hn := h.rep.n1
 refine .app (zDw h.toWBase hm encT_0 encT_1 fun r hr => (zDi (s := s) hr).1) (.app (fact_dn h hm hnow (by omega) (by omega)) (.app (fact_dn h hm hnow (by omega) (by omega)) (.app (fact_dn h hm hnow (by omega) (by omega)) (.app ?_ ?_))))
 ·obtain ⟨p0, p1, _⟩ := zBa (r := 0) (at_ := s.now + 1) (by omega)
  have e : (headE (zBe (s.now + 1))).eval (zEs s) = plc s.raw (s.n + placeOf 0 (s.now + 1)) 0 := (head_ev h0).trans (head_plc h ha)
  obtain ⟨b1, b2⟩ := (all_base h ha).at_ (i := 0) (Nat.zero_le _)
  have b : 0 ≤ plc s.raw (s.n + placeOf 0 (s.now + 1)) 0 ∧ plc s.raw (s.n + placeOf 0 (s.now + 1)) 0 ≤ s.n + 127 := by
   by_cases hz : 0 = s.raw.length
   ·have := b2 hz; omega
   ·have := b1 (by omega); omega
  refine zAv ?_ ?_
  ·rw [e]; exact b.1
  ·rw [e]; show _ ≤ zEs s 0 + 127; rw [encT_0]; exact b.2
 ·cases hb : w with
  | false => exact .nil
  | true =>
   have hne := hw.1 hb
   have hl : 1 ≤ s.raw.length := by
    cases e : s.raw with
    | nil => exact absurd e hne
    | cons a l => simp
   have := ha.len
   refine zAv ?_ ?_
   ·show (1 : Int) ≤ zEs s 6; rw [encT_6]; omega
   ·show zEs s 6 ≤ 4096; rw [encT_6]; omega
end
theorem gK_mid {env : Nat → Int} {w T : SE} {K : K4} (hw : zDc (zAw env w)) (hK : zEg (lkE env K)) (hT : zDc (zAw env T)) : ∀ e ∈ gK w K T, zDc (zAw env e) := fun e he => by
 simp only [gK, List.mem_cons, List.not_mem_nil, or_false] at he
 rcases he with rfl | rfl | rfl | rfl | rfl | rfl
 ·exact hw
 ·exact hK.N
 ·exact hK.B
 ·exact hK.L
 ·exact hK.C
 ·exact hT
theorem zFw {s : WS} : s.fin.n = s.n ∧ s.fin.now = s.now + 1 := by
 have h := wakes_keep (l := s.raw) (s := s.downs)
 exact ⟨h.1.trans zBu.1, h.2.trans zBu.2.1⟩
theorem end_ws {s : WS} {w : Bool} (hw : w = true ↔ s.raw ≠ []) :
  zAg (zFl (zEs s) (if w then 146 else 128)) s.fin.when_ ∧ zEi (lkE (zEs s) (tkK (if w then 4 else zGm (zBe (s.now + 1))))) s.fin.k ∧ (∀ r, r < 4 → cE (zEs s) (tkC (if w then 4 else zGm (zBe (s.now + 1)))) r = s.fin.c r) := by
 cases hb : w with
 | true => exact ⟨encT_fw, tk_k4, tk_c4⟩
 | false =>
  have hr : s.raw = [] := by
   apply Classical.byContradiction
   intro hne
   have := hw.2 hne
   rw [hb] at this; cases this
  have hf : s.fin = s.downs := by unfold WS.fin; rw [hr]; rfl
  have w := last_ws (s := s)
  rw [hf]
  exact ⟨w.w, w.k, w.c⟩
theorem zNl [F : Facts] [V : zAc] (hC : zOd Tryz.prog zLp) {n now now' m w w' T : SE} {c c' : C4} {K K' : K4} {some_ : Bool} {s : WS} {q : Int → List Int} (hs : wsE V.env n now c w K = s) (h : zEc s q) (hm : zEh s) (hnow : s.now + 1 ≤ 999000000)
  (hmany : m.eval V.env = s.raw.length) (hnow' : now'.eval V.env = s.now + 1) (hw' : zAg (zAw V.env w') s.fin.when_) (hc' : ∀ r, r < 4 → cE V.env c' r = s.fin.c r) (hK' : zEi (lkE V.env K') s.fin.k) (hT : zAg (zAw V.env T) (zAs (sorted s.raw))) (hsome : some_ = true ↔ s.raw ≠ []) :
  zAj Tryz.prog [] (tickS fns n now now' c c' m w w' K K' T some_) := by
 obtain ⟨qt, qf, ha⟩ := zJo h hm hnow
 have h0 := h.now0
 have hn := h.rep.n1
 have hlen := ha.len
 have sn : n.eval V.env = s.n := by rw [← hs]; rfl
 have snow : now.eval V.env = s.now := by rw [← hs]; rfl
 have sc : ∀ i, cE V.env c i = s.c i := fun i => by rw [← hs]; rfl
 have sw : zAw V.env w = s.when_ := by rw [← hs]; rfl
 have sk : lkE V.env K = s.k := by rw [← hs]; rfl
 have hmidT : zDc (zAw V.env T) := (zBf fun x hx => raw_mid h ha x (zDx.1 hx)).of hT
 have hf' := fW_mid (V := V) (n := n) (now := now') (c := c') (t := m) (by rw [sn]; exact i64 (by omega) (by omega)) (by rw [hnow']; exact i64 (by omega) (by omega))
  (fun r hr => by
   rw [hc' r hr]
   have := ha.fin.toWBase.c_in hr
   have := zFw (s := s)
   exact i64 (by omega) (by omega)) (by rw [hmany]; exact i64 (by omega) (by omega))
 have hg' := gK_mid (env := V.env) (w := w') (K := K') (T := T) (ha.finM.w.of hw') (ha.finM.k.of hK') hmidT
 obtain ⟨d1, d2, d3⟩ := end_ws hsome
 obtain ⟨k, hk⟩ : ∃ k, k = zBe (s.now + 1) := ⟨_, rfl⟩
 have hk3 : k ≤ 3 := by rw [hk]; exact rowsDn_le
 rw [← hk] at d2 d3
 have run := run_t hk3 some_
 have hpc := fact_tick h hm hnow ha hsome
 rw [← hk] at hpc
 refine zFi (N := NN) (av := [.ptr PG 0]) (tickS fns n now now' c c' m w w' K K' T some_) zFe fxT ?_ rfl rfl (σ := Nat → Int) id 7 6 (by decide) upsT (Nat.le_refl _) (Nat.le_refl _) (zNb PG k some_) (zJk (zNb PG k some_).pc (tickL fns abK k some_) (tickF fns some_))
  (zEs s) (inE (fW n now' c' m) (gK w' K' T) V.env)
  (fun B V' hV' => zJc B V' (fun S hS => ?_) (fun S hS => ?_)) ?_ hpc ?_ ?_ (encT_mid h hm hnow ha) (zCh V.mid hf' hg') ?_ ?_ (o := ⟨.ret, if some_ then 2 else 1, fW n now' c' m, gK w' K' T⟩) (k := 0) rfl ?_
 ·cases some_
  ·exact zCa rfl goodT1
  ·exact zCa rfl goodT2
 ·have hV' : V'.env = zEs s := hV'
  rw [hk] at hS
  simp only [tickL, List.mem_append, List.mem_cons, List.not_mem_nil, or_false] at hS
  have dn : ∀ r, 1 ≤ r → r < 4 → S ∈ downL fns (zBe (s.now + 1)) r → @zAp ⟨(zNb PG k some_).pc⟩ V' Tryz.prog [] S := fun r h1 h4 hS => by
   unfold downL at hS
   split at hS
   ·rename_i hr
    simp only [List.mem_cons, List.not_mem_nil, or_false] at hS
    subst hS
    exact @down_at s q h hm hnow r h1 h4 hr ⟨_⟩ V' hV'
   ·cases hS
  rcases hS with hS | hS | hS | hS | hS
  ·exact dn 3 (by omega) (by omega) hS
  ·exact dn 2 (by omega) (by omega) hS
  ·exact dn 1 (by omega) (by omega) hS
  ·subst hS
   exact @all_at s q qt qf h ha some_ hsome ⟨_⟩ V' hV'
  ·split at hS
   ·simp only [List.mem_cons, List.not_mem_nil, or_false] at hS
    subst hS
    exact @wake_at s qt qf ha ⟨_⟩ V' hV'
   ·cases hS
 ·have hV' : V'.env = zEs s := hV'
  unfold tickF at hS
  split at hS
  ·rename_i hb
   simp only [List.mem_cons, List.not_mem_nil, or_false] at hS
   subst hS
   exact @sort_at s q qt qf hC h ha (hsome.1 hb) ⟨_⟩ V' hV'
  ·cases hS
 ·exact run
 ·show ([.var 0, nowT] ++ ((tkC (if some_ then 4 else zGm k)).list ++ [v 6])).length ≤ 7
  exact Nat.le_refl 7
 ·show ([if some_ then SE.tab 146 else SE.tab 128] ++ ((tkK (if some_ then 4 else zGm k)).list ++ [SE.tab 133])).length ≤ 6
  exact Nat.le_refl 6
 ·refine zBg (by decide) (by decide) (fun i hi => ?_) (fun a h1 h2 => ?_)
  ·rcases (show i = 0 ∨ i = 1 ∨ i = 2 ∨ i = 3 ∨ i = 4 ∨ i = 5 ∨ i = 6 by omega) with rfl | rfl | rfl | rfl | rfl | rfl | rfl
   ·exact (show zEs s 0 = _ from encT_0).trans (sn.symm.trans (show inE (fW n now' c' m) (gK w' K' T) V.env 0 = n.eval V.env from zAx rfl (by decide)).symm)
   ·exact nowT_ev.trans (hnow'.symm.trans (show inE (fW n now' c' m) (gK w' K' T) V.env 1 = now'.eval V.env from zAx rfl (by decide)).symm)
   ·exact (d3 0 (by decide)).trans ((hc' 0 (by decide)).symm.trans (show inE (fW n now' c' m) (gK w' K' T) V.env 2 = c'.a.eval V.env from zAx rfl (by decide)).symm)
   ·exact (d3 1 (by decide)).trans ((hc' 1 (by decide)).symm.trans (show inE (fW n now' c' m) (gK w' K' T) V.env 3 = c'.b.eval V.env from zAx rfl (by decide)).symm)
   ·exact (d3 2 (by decide)).trans ((hc' 2 (by decide)).symm.trans (show inE (fW n now' c' m) (gK w' K' T) V.env 4 = c'.c.eval V.env from zAx rfl (by decide)).symm)
   ·exact (d3 3 (by decide)).trans ((hc' 3 (by decide)).symm.trans (show inE (fW n now' c' m) (gK w' K' T) V.env 5 = c'.d.eval V.env from zAx rfl (by decide)).symm)
   ·exact (show zEs s 6 = _ from encT_6).trans (hmany.symm.trans (show inE (fW n now' c' m) (gK w' K' T) V.env 6 = m.eval V.env from zAx rfl (by decide)).symm)
  ·have t : ∀ {a : Nat} {e : SE}, (gK w' K' T)[a - 128]? = some e → 128 ≤ a → a < 256 → zAg (zFl (inE (fW n now' c' m) (gK w' K' T) V.env) a) (zAw V.env e) := fun h1 h2 h3 => zDd h1 h2 h3
   rcases (show a = 128 ∨ a = 129 ∨ a = 130 ∨ a = 131 ∨ a = 132 ∨ a = 133 by omega) with rfl | rfl | rfl | rfl | rfl | rfl
   ·have : zAw (zEs s) ((zNb PG k some_).gv 128) = zFl (zEs s) (if some_ then 146 else 128) := by cases some_ <;> rfl
    show zAg (zAw (zEs s) ((zNb PG k some_).gv 128)) _
    rw [this]
    exact d1.trans (hw'.symm.trans (t (a := 128) (e := w') rfl (by decide) (by decide)).symm)
   ·exact d2.N.trans (hK'.N.symm.trans (t (a := 129) (e := K'.a) rfl (by decide) (by decide)).symm)
   ·exact d2.B.trans (hK'.B.symm.trans (t (a := 130) (e := K'.b) rfl (by decide) (by decide)).symm)
   ·exact d2.L.trans (hK'.L.symm.trans (t (a := 131) (e := K'.c) rfl (by decide) (by decide)).symm)
   ·exact d2.C.trans (hK'.C.symm.trans (t (a := 132) (e := K'.d) rfl (by decide) (by decide)).symm)
   ·exact (show zAg (zFl (zEs s) 133) _ from encT_T).trans (hT.symm.trans (t (a := 133) (e := T) rfl (by decide) (by decide)).symm)
 ·refine zBg (by decide) (by decide) (fun i hi => ?_) (fun a h1 h2 => ?_)
  ·rcases (show i = 0 ∨ i = 1 ∨ i = 2 ∨ i = 3 ∨ i = 4 ∨ i = 5 ∨ i = 6 by omega) with rfl | rfl | rfl | rfl | rfl | rfl | rfl
   ·exact sn.trans encT_0.symm
   ·exact snow.trans encT_1.symm
   ·exact (sc 0).trans (zDi (s := s) (i := 0) (by decide)).1.symm
   ·exact (sc 1).trans (zDi (s := s) (i := 1) (by decide)).1.symm
   ·exact (sc 2).trans (zDi (s := s) (i := 2) (by decide)).1.symm
   ·exact (sc 3).trans (zDi (s := s) (i := 3) (by decide)).1.symm
   ·exact hmany.trans encT_6.symm
  ·have ek := encT_k (s := s)
   rcases (show a = 128 ∨ a = 129 ∨ a = 130 ∨ a = 131 ∨ a = 132 ∨ a = 133 by omega) with rfl | rfl | rfl | rfl | rfl | rfl
   ·exact (show zAg (zAw V.env w) s.when_ by rw [sw]; exact .refl _).trans encT_w.symm
   ·exact (show zAg (lkE V.env K).N s.k.N by rw [sk]; exact .refl _).trans ek.N.symm
   ·exact (show zAg (lkE V.env K).B s.k.B by rw [sk]; exact .refl _).trans ek.B.symm
   ·exact (show zAg (lkE V.env K).L s.k.L by rw [sk]; exact .refl _).trans ek.L.symm
   ·exact (show zAg (lkE V.env K).C s.k.C by rw [sk]; exact .refl _).trans ek.C.symm
   ·exact hT.trans encT_T.symm
 ·cases some_
  ·exact ⟨rfl, rfl, Nat.le_refl _, Nat.le_refl _, zCc _ _ _⟩
  ·exact ⟨rfl, rfl, Nat.le_refl _, Nat.le_refl _, zCc _ _ _⟩
end Go.Proofs.YtaliacnncemneaaGreat.wheels
namespace Go.Proofs.Wheels
open Go.Abs
def n128 : SE := add (v 1) (L 128)
def linksC (b : Nat) : List Blk := [row [X 1, ss (b + 1) n128, ss (b + 2) n128, ss (b + 3) (v 1), ss (b + 4) (L 128)], T1 128 n128, T1 129 n128, T1 130 (v 1), T1 131 (L 128)]
def shN1 (G : Nat) : Nat → Shape
 | 0 => ⟨[(0, X 1), (6, .ptr G 0), (37, .sx .i64 n128), (38, X 0)], linksC G⟩
 | _ => ⟨[(0, X 1), (6, .ptr G 0)], linksC G⟩
def shN2 (G : Nat) : Nat → Shape
 | 0 => ⟨[(6, .ptr G 0), (56, X 1), (57, X 0)], linksC G⟩
 | _ => ⟨[(6, .ptr G 0)], linksC G⟩
def nmN (st : St) (s : HS) : List Nat := linksOf s (st.t.get 6)
def gN (A B C D : SE) : List SE := [A, B, C, D]
def zS : SE := .const (L 0)
def new1S (g G : Nat) (n T : SE) : zAd := ⟨g, 7, 68, shN1 G, [L 0, n], gN zS zS zS zS, nmN, [⟨.exit 0, 1, [add n (L 128), n], gN T T zS zS⟩], 5⟩
def new2S (g G : Nat) (n T U : SE) : zAd := ⟨g, 12, 68, shN2 G, [L 0, n], gN T T zS zS, nmN, [⟨.exit 2, 1, [n, n], gN T T U zS⟩], 5⟩
def shNew (G : Nat) : Nat → Shape
 | 0 => ⟨zHg 0 [X 0], []⟩
 | _ => ⟨[(0, .ptr G 0)], zDr G⟩
def fNew (n : SE) : List SE := [n, L 0, L 0, L 0, L 0, L 0]
def gNew (T U : SE) : List SE := [zS, T, T, U, zS]
def newS (g G : Nat) (n T U : SE) : zAi := ⟨g, 1, shNew G, fNew n, gNew T U, fun _ _ => [], [⟨.ret, 1, fNew n, gNew T U⟩], 0⟩
def pcN1 : List (SB × Bool) := [tt, le (L 0) (v 0), le (L 1) (v 1), le (v 1) (L 4096)]
def csN1 : Case := ⟨pcN1 ++ [nle n128 (v 0), le (v 0) (add (v 1) (L 127)), le (v 0) (L 4223)], .normal, 0, [add (v 0) (L 1), v 1], [.upd (.tab 128) (v 0) 0 (v 0), .upd (.tab 129) (v 0) 0 (v 0), .tab 130, .tab 131], []⟩
def csN1E : Case := ⟨pcN1 ++ [le n128 (v 0)], .exit 0, 1, [], [], []⟩
def csN2 : Case := ⟨pcN1 ++ [nle (v 1) (v 0), le (v 0) (add (v 1) (L (-1))), le (v 0) (L 4095)], .normal, 0, [add (v 0) (L 1), v 1], [.tab 128, .tab 129, .upd (.tab 130) (v 0) 0 (L (-1)), .tab 131], []⟩
def csN2E : Case := ⟨pcN1 ++ [le (v 1) (v 0)], .exit 2, 1, [], [], []⟩
def csNew (G : Nat) : Case := ⟨[tt] ++ inR (L 1) (v 0) (L 4096), .ret, 1, [v 0, L 0, L 0, L 0, L 0, L 0], [zS, .tab 129, .tab 129, .tab 131, zS], [G + 6, G, G + 5, G + 1, G + 2, G + 3, G + 4]⟩
theorem midI {x : Int} (h1 : -1 ≤ x) (h2 : x ≤ 1000000000) : In64 x := by unfold In64; omega
def zBj : TT := fun _ _ => 0
def idT (i : Nat) : TT := fun r c => if c = 0 ∧ r < i then (r : Int) else 0
def zMi (i : Nat) : TT := fun r c => if c = 0 ∧ r < i then -1 else 0
theorem idT_0 : idT 0 = zBj := by funext r c; unfold idT zBj; rw [if_neg (by omega)]
theorem negT_0 : zMi 0 = zBj := by funext r c; unfold zMi zBj; rw [if_neg (by omega)]
theorem idT_up {i : Nat} : up (idT i) i i = idT (i + 1) := by
 funext r c
 unfold up idT
 by_cases h : (r : Int) = i ∧ c = 0
 ·rw [if_pos h, if_pos (by omega)]; exact h.1.symm
 ·rw [if_neg h]
  by_cases h2 : c = 0 ∧ r < i
  ·rw [if_pos h2, if_pos (by omega)]
  ·rw [if_neg h2, if_neg (by omega)]
theorem negT_up {i : Nat} : up (zMi i) i (-1) = zMi (i + 1) := by
 funext r c
 unfold up zMi
 by_cases h : (r : Int) = i ∧ c = 0
 ·rw [if_pos h, if_pos (by omega)]
 ·rw [if_neg h]
  by_cases h2 : c = 0 ∧ r < i
  ·rw [if_pos h2, if_pos (by omega)]
  ·rw [if_neg h2, if_neg (by omega)]
theorem zAy : zDc zBj := fun r c _ => by unfold zBj In64; omega
theorem zDv {i : Nat} (h : i ≤ 10000) : zDc (idT i) := fun r c _ => by
 unfold idT
 split
 ·exact midI (by omega) (by omega)
 ·exact midI (by omega) (by omega)
theorem zKk {i : Nat} : zDc (zMi i) := fun r c _ => by
 unfold zMi
 split
 ·exact midI (by omega) (by omega)
 ·exact midI (by omega) (by omega)
def WS.new (N : Nat) : WS := ⟨N, 0, zBj, ⟨idT (N + 128), idT (N + 128), zMi N, zBj⟩, fun _ => 0⟩
theorem cntP_no {p : Int → Bool} : ∀ {n : Nat}, (∀ i : Nat, i < n → p i = false) → zLf p n = 0 := by
 intro n
 induction n with
 | zero => intro _; rfl
 | succ n ih =>
  intro h
  show zLf p n + (bif p n then 1 else 0) = 0
  rw [ih fun i hi => h i (by omega), h n (by omega)]
  rfl
theorem idT_at {N : Nat} {i : Int} (h0 : 0 ≤ i) (h1 : i < N) : g0 (idT N) i = i := by
 show idT N i.toNat 0 = i
 unfold idT
 rw [if_pos ⟨rfl, by omega⟩]
 omega
theorem negT_at {N : Nat} {i : Int} (h0 : 0 ≤ i) (h1 : i < N) : g0 (zMi N) i = -1 := by
 show zMi N i.toNat 0 = -1
 unfold zMi
 rw [if_pos ⟨rfl, by omega⟩]
theorem new_inv {N : Nat} (h1 : 1 ≤ N) (h2 : N ≤ 4096) : zEc (WS.new N) (fun _ => []) := by
 have hL : ∀ t : Int, 0 ≤ t → t < N → g0 (zMi N) t = -1 := fun t t0 t1 => negT_at t0 t1
 refine ⟨⟨⟨⟨by show (1 : Int) ≤ N; omega, by show (N : Int) ≤ 4096; omega⟩, fun l l0 l1 => ?_, fun l _ _ t ht => (List.not_mem_nil ht).elim, fun t t0 t1 => .inl (hL t t0 t1), fun _ _ _ => List.nodup_nil, fun _ _ _ => rfl⟩, Int.le_refl _, fun r _ => ?_⟩, fun t t0 t1 => .inl ⟨rfl, hL t t0 t1⟩⟩
 ·have e : g0 (idT (N + 128)) ((N : Int) + l) = N + l := idT_at (by omega) (by omega)
  exact ⟨e, e⟩
 ·show (0 : Int) = zLf (zHe (zMi N) r) (N : Int).toNat
  rw [cntP_no fun i hi => ?_]
  unfold zHe
  rw [hL i (by omega) (by omega)]
  rfl
theorem new_mid {N : Nat} (h2 : N ≤ 4096) : zEh (WS.new N) := ⟨by show (0 : Int) ≤ 999000000; omega, zAy, ⟨zDv (by omega), zDv (by omega), zKk, zAy⟩⟩
end Go.Proofs.Wheels
namespace Go.Proofs.YtaliacnncemneaaGreat.wheels
open Go.Abs Go.Proofs.Wheels
end Go.Proofs.YtaliacnncemneaaGreat.wheels
namespace Go.Proofs.Wheels
open Go.Abs
def zCr {α : Type} (p : α → Prop) : List α → Prop
 | [] => True
 | a :: l => p a ∧ zCr p l
theorem zCr.mem {α : Type} {p : α → Prop} : ∀ {l : List α}, zCr p l → ∀ x ∈ l, p x := by
 intro l
 induction l with
 | nil => intro _ x h; cases h
 | cons a l ih =>
  intro h x hx
  rcases List.mem_cons.1 hx with rfl | hx
  ·exact h.1
  ·exact ih h.2 x hx
theorem zCr.of {α : Type} {p : α → Prop} : ∀ {l : List α}, (∀ x ∈ l, p x) → zCr p l := by
 intro l
 induction l with
 | nil => intro _; trivial
 | cons a l ih => intro h; exact ⟨h a (.head _), ih fun x hx => h x (.tail _ hx)⟩
theorem zCr.app {α : Type} {p : α → Prop} {l m : List α} (h1 : zCr p l) (h2 : zCr p m) : zCr p (l ++ m) :=
 .of fun x hx => (List.mem_append.1 hx).elim (h1.mem x) (h2.mem x)
def zOt {α β : Type} (p : α → β → Prop) : List α → List β → Prop
 | [], [] => True
 | a :: l, b :: m => p a b ∧ zOt p l m
 | _, _ => False
theorem zOt.len {α β : Type} {p : α → β → Prop} : ∀ {l : List α} {m : List β}, zOt p l m → l.length = m.length := by
 intro l
 induction l with
 | nil =>
  intro m h
  cases m with
  | nil => rfl
  | cons b m => exact h.elim
 | cons a l ih =>
  intro m h
  cases m with
  | nil => exact h.elim
  | cons b m => simp [ih h.2]
theorem zOt.get {α β : Type} {p : α → β → Prop} : ∀ {l : List α} {m : List β}, zOt p l m → ∀ i, i < l.length → ∃ a b, l[i]? = some a ∧ m[i]? = some b ∧ p a b := by
 intro l
 induction l with
 | nil => intro m _ i hi; cases hi
 | cons a l ih =>
  intro m h i hi
  cases m with
  | nil => exact h.elim
  | cons b m =>
   cases i with
   | zero => exact ⟨a, b, rfl, rfl, h.1⟩
   | succ i => exact ih h.2 i (by simpa using hi)
theorem zOt.of_get {α β : Type} {p : α → β → Prop} : ∀ {l : List α} {m : List β}, l.length = m.length → (∀ (i : Nat) a b, l[i]? = some a → m[i]? = some b → p a b) → zOt p l m := by
 intro l
 induction l with
 | nil =>
  intro m h _
  cases m with
  | nil => trivial
  | cons b m => simp at h
 | cons a l ih =>
  intro m h hp
  cases m with
  | nil => simp at h
  | cons b m => exact ⟨hp 0 a b rfl rfl, ih (by simpa using h) fun i x y hx hy => hp (i + 1) x y (by simpa using hx) (by simpa using hy)⟩
theorem zOt.app {α β : Type} {p : α → β → Prop} : ∀ {l l' : List α} {m m' : List β}, zOt p l m → zOt p l' m' → zOt p (l ++ l') (m ++ m') := by
 intro l
 induction l with
 | nil =>
  intro l' m m' h h'
  cases m with
  | nil => exact h'
  | cons b m => exact h.elim
 | cons a l ih =>
  intro l' m m' h h'
  cases m with
  | nil => exact h.elim
  | cons b m => exact ⟨h.1, ih h.2 h'⟩
def Ev (env : Nat → Int) (f : List SE) (sc : List Int) : Prop := zOt (fun e x => e.eval env = x) f sc
def Rw (env : Nat → Int) (g : List SE) (tb : List TT) : Prop := zOt (fun e T => zAg (zAw env e) T) g tb
theorem zEy {f g : List SE} {sc : List Int} {tb : List TT} {env : Nat → Int} {kv kt : Nat} (h1 : f.length = kv) (h2 : g.length = kt) (hkv : kv ≤ 128) (hkt : kt ≤ 128) (hf : Ev env f sc) (hg : Rw env g tb) : zCq kv kt (zBb (fvL f) (gvL g) env) (zCb sc tb) := by
 refine zBg hkv hkt (fun i hi => ?_) (fun a a1 a2 => ?_)
 ·obtain ⟨e, x, q1, q2, q3⟩ := hf.get i (by omega)
  rw [zAu q2 (by omega), ← q3]
  unfold fvL
  rw [q1]; rfl
 ·obtain ⟨e, T, q1, q2, q3⟩ := hg.get (a - 128) (by omega)
  refine zAg.trans ?_ (zAq q2 a1 (by omega)).symm
  unfold gvL
  rw [q1]; exact q3
theorem zHh {f g : List SE} {sc scx : List Int} {tb tbx : List TT} {env : Nat → Int} {kv kt : Nat} (h1 : f.length = kv) (h2 : g.length = kt) (hkv : kv ≤ 128) (hkt : kt ≤ 128) (hf : Ev env f sc) (hg : Rw env g tb) : zCq kv kt (zBb (fvL f) (gvL g) env) (zCb (sc ++ scx) (tb ++ tbx)) := by
 have l1 := hf.len
 have l2 := hg.len
 refine zBg hkv hkt (fun i hi => ?_) (fun a a1 a2 => ?_)
 ·obtain ⟨e, x, q1, q2, q3⟩ := hf.get i (by omega)
  have q4 : (sc ++ scx)[i]? = some x := (List.getElem?_append_left (by omega)).trans q2
  rw [zAu q4 (by omega), ← q3]
  unfold fvL
  rw [q1]; rfl
 ·obtain ⟨e, T, q1, q2, q3⟩ := hg.get (a - 128) (by omega)
  have q4 : (tb ++ tbx)[a - 128]? = some T := (List.getElem?_append_left (by omega)).trans q2
  refine zAg.trans ?_ (zAq q4 a1 (by omega)).symm
  unfold gvL
  rw [q1]; exact q3
theorem agree_id (kv kt : Nat) (h1 : kv ≤ 128) (h2 : kt ≤ 128) (env : Nat → Int) : zCq kv kt (zBb (fvL []) (gvL []) env) env := zBg h1 h2 (fun _ _ => rfl) (fun _ _ _ => zAg.refl _)
theorem zEp {sc : List Int} {tb : List TT} (h1 : zCr In64 sc) (h2 : zCr zDc tb) : ∀ j, In64 (zCb sc tb j) := zMv h1.mem h2.mem
def Says (env : Nat → Int) : SB × Bool → Prop
 | (.le a b, true) => a.eval env ≤ b.eval env
 | (.le a b, false) => b.eval env < a.eval env
 | (.eq a b, true) => a.eval env = b.eval env
 | (.eq a b, false) => a.eval env ≠ b.eval env
theorem Says.ok {env : Nat → Int} {p : SB × Bool} (h : Says env p) : p.1.eval env = p.2 := by
 obtain ⟨b, t⟩ := p
 cases b with
 | le a b =>
  cases t with
  | true => exact zKv h
  | false => exact nle_ok h
 | eq a b =>
  cases t with
  | true => exact eq_ok h
  | false => exact ne_ok h
theorem zDt {env : Nat → Int} {l : List (SB × Bool)} (h : zCr (Says env) l) : Fx env l := fun p hp => (h.mem p hp).ok
theorem zIz {env : Nat → Int} {l : List (SB × Bool)} (h : Fx env l) : zCr (Says env) l := .of fun p hp => by
 have h := h p hp
 obtain ⟨b, t⟩ := p
 cases b with
 | le a b =>
  cases t with
  | true =>
   have h : decide (a.eval env ≤ b.eval env) = true := h
   show a.eval env ≤ b.eval env
   exact of_decide_eq_true h
  | false =>
   have h : decide (a.eval env ≤ b.eval env) = false := h
   have := of_decide_eq_false h
   show b.eval env < a.eval env
   omega
 | eq a b =>
  cases t with
  | true =>
   have h : decide (a.eval env = b.eval env) = true := h
   show a.eval env = b.eval env
   exact of_decide_eq_true h
  | false =>
   have h : decide (a.eval env = b.eval env) = false := h
   show a.eval env ≠ b.eval env
   exact of_decide_eq_false h
theorem zAm {env : Nat → Int} {a b : SE} (h : a.eval env ≤ b.eval env) : Says env (le a b) := h
theorem zBz {env : Nat → Int} {a b : SE} (h : b.eval env < a.eval env) : Says env (nle a b) := h
theorem zEq {env : Nat → Int} {a b : SE} (h : a.eval env = b.eval env) : Says env (eq a b) := h
theorem says_ne {env : Nat → Int} {a b : SE} (h : a.eval env ≠ b.eval env) : Says env (ne a b) := h
theorem zDb {sc : List Int} {tb : List TT} {i : Nat} {x : Int} (h : sc[i]? = some x) (hi : i < 128) : (v i).eval (zCb sc tb) = x := zAu h hi
theorem zHj {sc : List Int} {tb : List TT} {a : Nat} {T : TT} (h : tb[a - 128]? = some T) (h1 : 128 ≤ a) (h2 : a < 256) : zAg (zAw (zCb sc tb) (.tab a)) T := zAq h h1 h2
theorem ev_sel {sc : List Int} {tb : List TT} {a : Nat} {T : TT} {e : SE} {x : Int} (h : tb[a - 128]? = some T) (h1 : 128 ≤ a) (h2 : a < 256) (he : e.eval (zCb sc tb) = x) : (sel a e).eval (zCb sc tb) = g0 T x := by
 refine (zBv _ a e).trans ?_
 rw [he, (zAq h h1 h2).g]
end Go.Proofs.Wheels
namespace Go.Proofs.YtaliacnncemneaaGreat.wheels
open Go.Abs Go.Proofs.Wheels
theorem zMa [F : Facts] [V : zAc] (S : zAd) {fx : List Bool} {key : Nat} (hloop : ((Tryz.prog.funcs[S.fn]?).bind (·.body)).map (fun c => zBm S.key (subs c)) = some [zEf S.fn key]) (hfx : zAl S.shapes S.stay fx) {o : zBp} (ho : S.outs = [o]) (hgood : zBk PG (S.shapes o.j) = true)
  {σ : Type} (sc : σ → List Int) (tb : σ → List TT) (kv kt : Nat) (hkv : kv ≤ 128) (hkt : kt ≤ 128) (hups : ∀ i, (S.shapes i).ups kv kt = true) (hf0 : S.f0.length = kv) (hg0 : S.g0.length = kt) (hof : o.f.length = kv) (hog : o.g.length = kt) {I : Nat → Nat → σ → Prop} {Post : σ → Prop}
  (hstep : ∀ B μ i s, I μ i s → ∃ (c : Case) (s' : σ) (Lo : zDa) (call : Tgt → List AV → M AV), Rnd Tryz.prog B c.pc (zCb (sc s) (tb s)) Lo call ∧ ((@code ⟨c.pc⟩ Tryz.prog Lo call none S.fn fuel (zEf S.fn key) ⟨tmps (S.shapes i).t, S.nt, [.rest]⟩ ((S.shapes i).heap PG [])).every NN (@Case.chk ⟨c.pc⟩ PG S.nt S.stay (S.shapes c.to) c)) = true ∧
   Fx (zCb (sc s) (tb s)) c.pc ∧ zCr In64 (sc s') ∧ zCr zDc (tb s') ∧ ((c.f = [] ∧ c.g = [] ∧ s' = s) ∨ (c.f.length = kv ∧ c.g.length = kt ∧ Ev (zCb (sc s) (tb s)) c.f (sc s') ∧ Rw (zCb (sc s) (tb s)) c.g (tb s'))) ∧ ((c.e = .normal ∧ ∃ ν, ν < μ ∧ I ν c.to s') ∨ (c.e ≠ .normal ∧ c.e = o.e ∧ c.to = o.j ∧ Post s')))
  (μ : Nat) (s0 : σ) (hI : I μ 0 s0) (hm1 : zCr In64 (sc s0)) (hm2 : zCr zDc (tb s0)) (ha1 : Ev V.env S.f0 (sc s0)) (ha2 : Rw V.env S.g0 (tb s0))
  (hend : ∀ s, Post s → Ev V.env o.f (sc s) ∧ Rw V.env o.g (tb s)) : zAp Tryz.prog [] S := by
 refine zFo (N := NN) (fuel := fuel) S zFe (fx := fx) (b0 := zEf S.fn key) hloop hfx (zCa ho hgood) (σ := σ) (fun s => zCb (sc s) (tb s)) kv kt hkv hups (by omega) (by omega) (I := I) (Post := fun e j s => e = o.e ∧ j = o.j ∧ Post s) (fun B μ i s h => ?_) μ s0 hI (zEp hm1 hm2) (zEy hf0 hg0 hkv hkt ha1 ha2) (fun e j s h => ?_)
 ·obtain ⟨c, s', Lo, call, p1, p2, p3, p4, p5, p6, p7⟩ := hstep B μ i s h
  refine ⟨c, s', Lo, call, p1, p2, p3, ?_, ?_, zEp p4 p5, ?_, ?_⟩
  ·rcases p6 with ⟨e1, _⟩ | ⟨e1, _⟩
   ·rw [e1]; exact Nat.zero_le _
   ·omega
  ·rcases p6 with ⟨_, e1, _⟩ | ⟨_, e1, _⟩
   ·rw [e1]; exact Nat.zero_le _
   ·omega
  ·rcases p6 with ⟨e1, e2, rfl⟩ | ⟨e1, e2, e3, e4⟩
   ·have : c.next (zCb (sc s') (tb s')) = zBb (fvL c.f) (gvL c.g) (zCb (sc s') (tb s')) := rfl
    rw [this, e1, e2]
    exact agree_id kv kt hkv hkt _
   ·exact zEy e1 e2 hkv hkt e3 e4
  ·rcases p7 with q | ⟨q1, q2, q3, q4⟩
   ·exact .inl q
   ·exact .inr ⟨q1, q2, q3, q4⟩
 ·obtain ⟨rfl, rfl, hp⟩ := h
  obtain ⟨h1, h2⟩ := hend s hp
  exact ⟨0, o, by rw [ho]; rfl, rfl, rfl, by omega, by omega, zEa (zEy hof hog hkv hkt h1 h2)⟩
theorem fun_list [F : Facts] [V : zAc] (S : zAi) {fx : List Bool} {av : List AV} (hfx : zAl S.shapes S.stay fx) {o : zBp} (ho : S.outs = [o]) (hoe : o.e = .ret) (hgood : zBk PG (S.shapes o.j) = true) (hargs : (S.shapes 0).t = zHg 0 av) (hna : S.na = av.length)
  (kv kt : Nat) (hkv : kv ≤ 128) (hkt : kt ≤ 128) (hups : ∀ i, (S.shapes i).ups kv kt = true) (hf0 : S.f0.length = kv) (hg0 : S.g0.length = kt) (hof : o.f.length = kv) (hog : o.g.length = kt) (c : Case) (hto : c.to = o.j) (call : Tgt → List AV → M AV)
  (sc0 sc1 : List Int) (tb0 tb1 : List TT) (hcall : ∀ B, ∀ V' : @zAc ⟨c.pc⟩, V'.env = zCb sc0 tb0 → @zCe ⟨c.pc⟩ V' Tryz.prog B call)
  (hrun : ((call (.f S.g) av ((S.shapes 0).heap PG [])).every NN (@Case.chkF ⟨c.pc⟩ PG S.stay (S.shapes c.to) c)) = true)
  (hpc : Fx (zCb sc0 tb0) c.pc) (hm : zCr In64 sc0 ∧ zCr zDc tb0 ∧ zCr In64 sc1 ∧ zCr zDc tb1) (hcf : c.f.length = kv) (hcg : c.g.length = kt) (hf : Ev (zCb sc0 tb0) c.f sc1) (hg : Rw (zCb sc0 tb0) c.g tb1)
  (ha1 : Ev V.env S.f0 sc0) (ha2 : Rw V.env S.g0 tb0) (he1 : Ev V.env o.f sc1) (he2 : Rw V.env o.g tb1) : zAj Tryz.prog [] S := by
 refine zFi (N := NN) (av := av) S zFe hfx (zCa (S := S.loop) ho hgood) hargs hna (σ := List Int × List TT) (fun s => zCb s.1 s.2) kv kt hkv hups (by omega) (by omega) c call (sc0, tb0) (sc1, tb1) hcall hrun hpc (by omega) (by omega) (zEp hm.1 hm.2.1) (zEp hm.2.2.1 hm.2.2.2) ?_ ?_ (o := o) (k := 0) (by rw [ho]; rfl) ?_
 ·exact zEy hcf hcg hkv hkt hf hg
 ·exact zEy hf0 hg0 hkv hkt ha1 ha2
 ·exact ⟨hoe, hto.symm, by omega, by omega, zEa (zEy hof hog hkv hkt he1 he2)⟩
theorem zId [F : Facts] [V : zAc] (S : zAd) {fx : List Bool} {key : Nat} (hloop : ((Tryz.prog.funcs[S.fn]?).bind (·.body)).map (fun c => zBm S.key (subs c)) = some [zEf S.fn key]) (hfx : zAl S.shapes S.stay fx) {o : zBp} (ho : S.outs = [o]) (hgood : zBk PG (S.shapes o.j) = true)
  {σ : Type} (E : σ → Nat → Int) (sc scx : σ → List Int) (tb tbx : σ → List TT) (hE : ∀ s, E s = zCb (sc s ++ scx s) (tb s ++ tbx s)) (kv kt : Nat) (hkv : kv ≤ 128) (hkt : kt ≤ 128) (hups : ∀ i, (S.shapes i).ups kv kt = true) (hf0 : S.f0.length = kv) (hg0 : S.g0.length = kt) (hof : o.f.length = kv) (hog : o.g.length = kt) {I : Nat → Nat → σ → Prop} {Post : σ → Prop}
  (hmid : ∀ μ i s, I μ i s → zCr In64 (sc s ++ scx s) ∧ zCr zDc (tb s ++ tbx s))
  (hstep : ∀ B μ i s, I μ i s → ∃ (c : Case) (s' : σ) (Lo : zDa) (call : Tgt → List AV → M AV), Rnd Tryz.prog B c.pc (E s) Lo call ∧ ((@code ⟨c.pc⟩ Tryz.prog Lo call none S.fn fuel (zEf S.fn key) ⟨tmps (S.shapes i).t, S.nt, [.rest]⟩ ((S.shapes i).heap PG [])).every NN (@Case.chk ⟨c.pc⟩ PG S.nt S.stay (S.shapes c.to) c)) = true ∧
   Fx (E s) c.pc ∧ ((c.f = [] ∧ c.g = [] ∧ s' = s) ∨ (c.f.length = kv ∧ c.g.length = kt ∧ Ev (E s) c.f (sc s') ∧ Rw (E s) c.g (tb s'))) ∧ ((c.e = .normal ∧ ∃ ν, ν < μ ∧ I ν c.to s') ∨ (c.e ≠ .normal ∧ c.e = o.e ∧ c.to = o.j ∧ Post s' ∧ zCr In64 (sc s' ++ scx s') ∧ zCr zDc (tb s' ++ tbx s'))))
  (μ : Nat) (s0 : σ) (hI : I μ 0 s0) (ha1 : Ev V.env S.f0 (sc s0)) (ha2 : Rw V.env S.g0 (tb s0))
  (hend : ∀ s, Post s → Ev V.env o.f (sc s) ∧ Rw V.env o.g (tb s)) : zAp Tryz.prog [] S := by
 have em : ∀ s, zCr In64 (sc s ++ scx s) ∧ zCr zDc (tb s ++ tbx s) → ∀ j, In64 (E s j) := fun s h j => by rw [hE]; exact zEp h.1 h.2 j
 refine zFo (N := NN) (fuel := fuel) S zFe (fx := fx) (b0 := zEf S.fn key) hloop hfx (zCa ho hgood) (σ := σ) E kv kt hkv hups (by omega) (by omega) (I := I) (Post := fun e j s => e = o.e ∧ j = o.j ∧ Post s) (fun B μ i s h => ?_) μ s0 hI (em s0 (hmid _ _ _ hI)) (by rw [hE]; exact zHh hf0 hg0 hkv hkt ha1 ha2) (fun e j s h => ?_)
 ·obtain ⟨c, s', Lo, call, p1, p2, p3, p6, p7⟩ := hstep B μ i s h
  refine ⟨c, s', Lo, call, p1, p2, p3, ?_, ?_, ?_, ?_, ?_⟩
  ·rcases p6 with ⟨e1, _⟩ | ⟨e1, _⟩
   ·rw [e1]; exact Nat.zero_le _
   ·omega
  ·rcases p6 with ⟨_, e1, _⟩ | ⟨_, e1, _⟩
   ·rw [e1]; exact Nat.zero_le _
   ·omega
  ·rcases p7 with ⟨_, ν, _, q⟩ | ⟨_, _, _, _, q⟩
   ·exact em s' (hmid _ _ _ q)
   ·exact em s' q
  ·rcases p6 with ⟨e1, e2, rfl⟩ | ⟨e1, e2, e3, e4⟩
   ·have : c.next (E s') = zBb (fvL c.f) (gvL c.g) (E s') := rfl
    rw [this, e1, e2]
    exact agree_id kv kt hkv hkt _
   ·rw [hE s']
    exact zHh e1 e2 hkv hkt e3 e4
  ·rcases p7 with q | ⟨q1, q2, q3, q4, _⟩
   ·exact .inl q
   ·exact .inr ⟨q1, q2, q3, q4⟩
 ·obtain ⟨rfl, rfl, hp⟩ := h
  obtain ⟨h1, h2⟩ := hend s hp
  exact ⟨0, o, by rw [ho]; rfl, rfl, rfl, by omega, by omega, zEa (by rw [hE]; exact zHh hof hog hkv hkt h1 h2)⟩
theorem zIl [F : Facts] [V : zAc] (S : zAi) {fx : List Bool} {av : List AV} (hfx : zAl S.shapes S.stay fx) {o : zBp} (ho : S.outs = [o]) (hoe : o.e = .ret) (hgood : zBk PG (S.shapes o.j) = true) (hargs : (S.shapes 0).t = zHg 0 av) (hna : S.na = av.length)
  (kv kt : Nat) (hkv : kv ≤ 128) (hkt : kt ≤ 128) (hups : ∀ i, (S.shapes i).ups kv kt = true) (hf0 : S.f0.length = kv) (hg0 : S.g0.length = kt) (hof : o.f.length = kv) (hog : o.g.length = kt) (c : Case) (hto : c.to = o.j) (call : Tgt → List AV → M AV)
  {E : Nat → Int} {sc0 scx sc1 : List Int} {tb0 tbx tb1 : List TT} (hE : E = zCb (sc0 ++ scx) (tb0 ++ tbx)) (hcall : ∀ B, ∀ V' : @zAc ⟨c.pc⟩, V'.env = E → @zCe ⟨c.pc⟩ V' Tryz.prog B call)
  (hrun : ((call (.f S.g) av ((S.shapes 0).heap PG [])).every NN (@Case.chkF ⟨c.pc⟩ PG S.stay (S.shapes c.to) c)) = true)
  (hpc : Fx E c.pc) (m0 : zCr In64 (sc0 ++ scx)) (q0 : zCr zDc (tb0 ++ tbx)) (m1 : zCr In64 sc1) (q1 : zCr zDc tb1) (hcf : c.f.length = kv) (hcg : c.g.length = kt) (hf : Ev E c.f sc1) (hg : Rw E c.g tb1)
  (ha1 : Ev V.env S.f0 sc0) (ha2 : Rw V.env S.g0 tb0) (he1 : Ev V.env o.f sc1) (he2 : Rw V.env o.g tb1) : zAj Tryz.prog [] S := by
 subst hE
 refine zFi (N := NN) (av := av) S zFe hfx (zCa (S := S.loop) ho hgood) hargs hna (σ := List Int × List TT) (fun s => zCb s.1 s.2) kv kt hkv hups (by omega) (by omega) c call (sc0 ++ scx, tb0 ++ tbx) (sc1, tb1) hcall hrun hpc (by omega) (by omega) (zEp m0 q0) (zEp m1 q1) ?_ ?_ (o := o) (k := 0) (by rw [ho]; rfl) ?_
 ·exact zEy hcf hcg hkv hkt hf hg
 ·exact zHh hf0 hg0 hkv hkt ha1 ha2
 ·exact ⟨hoe, hto.symm, by omega, by omega, zEa (zEy hof hog hkv hkt he1 he2)⟩
set_option maxRecDepth 1000000
theorem isNew1 : ((Tryz.prog.funcs[zKw]?).bind (·.body)).map (fun c => zBm 7 (subs c)) = some [zEf zKw 7] := by kernel_rfl
theorem isNew2 : ((Tryz.prog.funcs[zKw]?).bind (·.body)).map (fun c => zBm 12 (subs c)) = some [zEf zKw 12] := by kernel_rfl
theorem fxN1 : zAl (shN1 PG) 5 [false, false, false, false, false] := fun i => by rcases i with _ | i <;> exact ⟨Nat.le_refl _, rfl, rfl⟩
theorem fxN2 : zAl (shN2 PG) 5 [false, false, false, false, false] := fun i => by rcases i with _ | i <;> exact ⟨Nat.le_refl _, rfl, rfl⟩
theorem fxNew : zAl (shNew PG) 0 [] := fun i => by rcases i with _ | i <;> exact ⟨Nat.zero_le _, rfl, rfl⟩
theorem goodN1 : zBk PG (shN1 PG 1) = true := by kernel_rfl
theorem goodN2 : zBk PG (shN2 PG 1) = true := by kernel_rfl
theorem goodNew : zBk PG (shNew PG 1) = true := by kernel_rfl
theorem upsN1 : ∀ i, (shN1 PG i).ups 2 4 = true := fun i => by rcases i with _ | i <;> kernel_rfl
theorem upsN2 : ∀ i, (shN2 PG i).ups 2 4 = true := fun i => by rcases i with _ | i <;> kernel_rfl
theorem upsNew : ∀ i, (shNew PG i).ups 6 5 = true := fun i => by rcases i with _ | i <;> kernel_rfl
theorem run_n1 : zFp zKw 7 68 (shN1 PG) 5 0 csN1 [] = true := by kernel_rfl
theorem run_n2 : zFp zKw 7 68 (shN1 PG) 5 0 csN1E [] = true := by kernel_rfl
theorem run_n3 : zFp zKw 12 68 (shN2 PG) 5 0 csN2 [] = true := by kernel_rfl
theorem run_n4 : zFp zKw 12 68 (shN2 PG) 5 0 csN2E [] = true := by kernel_rfl
theorem run_new : ((zJk (csNew PG).pc [new1S zKw PG (v 0) (.tab 129), new2S zKw PG (v 0) (.tab 129) (.tab 131)] []) (.f fWNew) [X 0] ((shNew PG 0).heap PG [])).every NN (@Case.chkF ⟨(csNew PG).pc⟩ PG 0 (shNew PG (csNew PG).to) (csNew PG)) = true := by kernel_rfl
theorem zDq (env : Nat → Int) : zAg (zAw env zS) zBj := fun _ _ _ => rfl
theorem zCf {i : Nat} (h : i ≤ 100000) : In64 (i : Int) := by unfold In64; omega
def scN (N i : Nat) : List Int := [(i : Int), (N : Int)]
section
variable [F : Facts] [V : zAc] {N : Nat} {n T U : SE}
theorem new1_proof (hN : 1 ≤ N ∧ N ≤ 4096) (hn : n.eval V.env = N) (hT : zAg (zAw V.env T) (idT (N + 128))) : zAp Tryz.prog [] (new1S zKw PG n T) := by
 refine zMa (key := 7) (new1S zKw PG n T) isNew1 fxN1 (o := ⟨.exit 0, 1, [add n (L 128), n], gN T T zS zS⟩) rfl goodN1 (scN N) (fun i : Nat => [idT i, idT i, zBj, zBj]) 2 4 (by decide) (by decide) upsN1 rfl rfl rfl rfl
  (I := fun μ j i => j = 0 ∧ i ≤ N + 128 ∧ μ = N + 128 - i) (Post := fun i => i = N + 128) (fun B μ j i hI => ?_) (N + 128) 0 ⟨rfl, Nat.zero_le _, rfl⟩ ⟨zCf (by omega), zCf (by omega), trivial⟩ ⟨zDv (by omega), zDv (by omega), zAy, zAy, trivial⟩ ⟨rfl, hn, trivial⟩ ?_ (fun i hp => ?_)
 ·obtain ⟨rfl, hi, rfl⟩ := hI
  have e0 : (v 0).eval (zCb (scN N i) [idT i, idT i, zBj, zBj]) = i := zDb rfl (by decide)
  have e1 : (v 1).eval (zCb (scN N i) [idT i, idT i, zBj, zBj]) = N := zDb rfl (by decide)
  have base : Fx (zCb (scN N i) [idT i, idT i, zBj, zBj]) pcN1 := zDt ⟨zEq rfl, zAm (by rw [e0]; show (0 : Int) ≤ _; omega), zAm (by rw [e1]; show (1 : Int) ≤ _; omega), zAm (by rw [e1]; show _ ≤ (4096 : Int); omega), trivial⟩
  by_cases hlt : i < N + 128
  ·have run := run_n1
   refine ⟨csN1, i + 1, noLoops, zCg csN1.pc [], zDo B _ _ _ (fun V hV S hS => by cases hS), ?_, ?_, ⟨zCf (by omega), zCf (by omega), trivial⟩, ⟨zDv (by omega), zDv (by omega), zAy, zAy, trivial⟩, .inr ⟨rfl, rfl, ⟨?_, e1, trivial⟩, ?_, ?_, zHj rfl (by decide) (by decide), zHj rfl (by decide) (by decide), trivial⟩, .inl ⟨rfl, N + 128 - (i + 1), by omega, rfl, by omega, rfl⟩⟩
   ·exact run
   ·refine .app base (zDt ⟨zBz ?_, zAm ?_, zAm ?_, trivial⟩)
    ·rw [e0]; show _ < (v 1).eval _ + 128; rw [e1]; omega
    ·rw [e0]; show _ ≤ (v 1).eval _ + 127; rw [e1]; omega
    ·rw [e0]; show _ ≤ (4223 : Int); omega
   ·show (v 0).eval _ + 1 = ((i + 1 : Nat) : Int)
    rw [e0]; omega
   ·refine zAg.trans (B := up (idT i) i i) (zEd (zHj rfl (by decide) (by decide)) e0 e0) ?_
    rw [idT_up]; exact .refl _
   ·refine zAg.trans (B := up (idT i) i i) (zEd (zHj rfl (by decide) (by decide)) e0 e0) ?_
    rw [idT_up]; exact .refl _
  ·have run := run_n2
   refine ⟨csN1E, i, noLoops, zCg csN1E.pc [], zDo B _ _ _ (fun V hV S hS => by cases hS), ?_, ?_, ⟨zCf (by omega), zCf (by omega), trivial⟩, ⟨zDv (by omega), zDv (by omega), zAy, zAy, trivial⟩, .inl ⟨rfl, rfl, rfl⟩, .inr ⟨by simp [csN1E], rfl, rfl, by omega⟩⟩
   ·exact run
   ·refine .app base (zDt ⟨zAm ?_, trivial⟩)
    rw [e0]; show (v 1).eval _ + 128 ≤ _; rw [e1]; omega
 ·show Rw V.env (gN zS zS zS zS) [idT 0, idT 0, zBj, zBj]
  rw [idT_0]
  exact ⟨zDq _, zDq _, zDq _, zDq _, trivial⟩
 ·subst hp
  exact ⟨⟨by show n.eval V.env + 128 = ((N + 128 : Nat) : Int); rw [hn]; omega, hn, trivial⟩, hT, hT, zDq _, zDq _, trivial⟩
theorem new2_proof (hN : 1 ≤ N ∧ N ≤ 4096) (hn : n.eval V.env = N) (hT : zAg (zAw V.env T) (idT (N + 128))) (hU : zAg (zAw V.env U) (zMi N)) : zAp Tryz.prog [] (new2S zKw PG n T U) := by
 refine zMa (key := 12) (new2S zKw PG n T U) isNew2 fxN2 (o := ⟨.exit 2, 1, [n, n], gN T T U zS⟩) rfl goodN2 (scN N) (fun i : Nat => [idT (N + 128), idT (N + 128), zMi i, zBj]) 2 4 (by decide) (by decide) upsN2 rfl rfl rfl rfl
  (I := fun μ j i => j = 0 ∧ i ≤ N ∧ μ = N - i) (Post := fun i => i = N) (fun B μ j i hI => ?_) N 0 ⟨rfl, Nat.zero_le _, rfl⟩ ⟨zCf (by omega), zCf (by omega), trivial⟩ ⟨zDv (by omega), zDv (by omega), zKk, zAy, trivial⟩ ⟨rfl, hn, trivial⟩ ?_ (fun i hp => ?_)
 ·obtain ⟨rfl, hi, rfl⟩ := hI
  have e0 : (v 0).eval (zCb (scN N i) [idT (N + 128), idT (N + 128), zMi i, zBj]) = i := zDb rfl (by decide)
  have e1 : (v 1).eval (zCb (scN N i) [idT (N + 128), idT (N + 128), zMi i, zBj]) = N := zDb rfl (by decide)
  have base : Fx (zCb (scN N i) [idT (N + 128), idT (N + 128), zMi i, zBj]) pcN1 := zDt ⟨zEq rfl, zAm (by rw [e0]; show (0 : Int) ≤ _; omega), zAm (by rw [e1]; show (1 : Int) ≤ _; omega), zAm (by rw [e1]; show _ ≤ (4096 : Int); omega), trivial⟩
  by_cases hlt : i < N
  ·have run := run_n3
   refine ⟨csN2, i + 1, noLoops, zCg csN2.pc [], zDo B _ _ _ (fun V hV S hS => by cases hS), ?_, ?_, ⟨zCf (by omega), zCf (by omega), trivial⟩, ⟨zDv (by omega), zDv (by omega), zKk, zAy, trivial⟩, .inr ⟨rfl, rfl, ⟨?_, e1, trivial⟩, zHj rfl (by decide) (by decide), zHj rfl (by decide) (by decide), ?_, zHj rfl (by decide) (by decide), trivial⟩, .inl ⟨rfl, N - (i + 1), by omega, rfl, by omega, rfl⟩⟩
   ·exact run
   ·refine .app base (zDt ⟨zBz ?_, zAm ?_, zAm ?_, trivial⟩)
    ·rw [e0, e1]; omega
    ·rw [e0]; show _ ≤ (v 1).eval _ + (-1); rw [e1]; omega
    ·rw [e0]; show _ ≤ (4095 : Int); omega
   ·show (v 0).eval _ + 1 = ((i + 1 : Nat) : Int)
    rw [e0]; omega
   ·refine zAg.trans (B := up (zMi i) i (-1)) (zEd (zHj rfl (by decide) (by decide)) e0 rfl) ?_
    rw [negT_up]; exact .refl _
  ·have run := run_n4
   refine ⟨csN2E, i, noLoops, zCg csN2E.pc [], zDo B _ _ _ (fun V hV S hS => by cases hS), ?_, ?_, ⟨zCf (by omega), zCf (by omega), trivial⟩, ⟨zDv (by omega), zDv (by omega), zKk, zAy, trivial⟩, .inl ⟨rfl, rfl, rfl⟩, .inr ⟨by simp [csN2E], rfl, rfl, by omega⟩⟩
   ·exact run
   ·refine .app base (zDt ⟨zAm ?_, trivial⟩)
    rw [e0, e1]; omega
 ·show Rw V.env (gN T T zS zS) [idT (N + 128), idT (N + 128), zMi 0, zBj]
  rw [negT_0]
  exact ⟨hT, hT, zDq _, zDq _, trivial⟩
 ·subst hp
  exact ⟨⟨hn, hn, trivial⟩, hT, hT, hU, zDq _, trivial⟩
theorem new_proof (hN : 1 ≤ N ∧ N ≤ 4096) (hn : n.eval V.env = N) (hT : zAg (zAw V.env T) (idT (N + 128))) (hU : zAg (zAw V.env U) (zMi N)) : zAj Tryz.prog [] (newS fWNew PG n T U) := by
 have m1 : zCr In64 [(N : Int), 0, 0, 0, 0, 0] := ⟨zCf (by omega), zCf (i := 0) (by omega), zCf (i := 0) (by omega), zCf (i := 0) (by omega), zCf (i := 0) (by omega), zCf (i := 0) (by omega), trivial⟩
 have m2 : zCr zDc [zBj, idT (N + 128), idT (N + 128), zMi N, zBj] := ⟨zAy, zDv (by omega), zDv (by omega), zKk, zAy, trivial⟩
 have e0 : (v 0).eval (zCb [(N : Int), 0, 0, 0, 0, 0] [zBj, idT (N + 128), idT (N + 128), zMi N, zBj]) = N := zDb rfl (by decide)
 have t1 : zAg (zAw (zCb [(N : Int), 0, 0, 0, 0, 0] [zBj, idT (N + 128), idT (N + 128), zMi N, zBj]) (.tab 129)) (idT (N + 128)) := zHj rfl (by decide) (by decide)
 have t2 : zAg (zAw (zCb [(N : Int), 0, 0, 0, 0, 0] [zBj, idT (N + 128), idT (N + 128), zMi N, zBj]) (.tab 131)) (zMi N) := zHj rfl (by decide) (by decide)
 have run := run_new
 refine fun_list (newS fWNew PG n T U) fxNew (av := [X 0]) (o := ⟨.ret, 1, fNew n, gNew T U⟩) rfl rfl goodNew rfl rfl 6 5 (by decide) (by decide) upsNew rfl rfl rfl rfl (csNew PG) rfl (zJk (csNew PG).pc [new1S zKw PG (v 0) (.tab 129), new2S zKw PG (v 0) (.tab 129) (.tab 131)] []) [(N : Int), 0, 0, 0, 0, 0] [(N : Int), 0, 0, 0, 0, 0] [zBj, idT (N + 128), idT (N + 128), zMi N, zBj] [zBj, idT (N + 128), idT (N + 128), zMi N, zBj]
  (fun B V' hV' => zJc B V' (fun S hS => ?_) (fun S hS => by cases hS)) ?_ (zDt ⟨zEq rfl, zAm ?_, zAm ?_, trivial⟩) ⟨m1, m2, m1, m2⟩ rfl rfl ⟨e0, rfl, rfl, rfl, rfl, rfl, trivial⟩ ⟨zDq _, t1, t1, t2, zDq _, trivial⟩ ⟨hn, rfl, rfl, rfl, rfl, rfl, trivial⟩ ⟨zDq _, hT, hT, hU, zDq _, trivial⟩ ⟨hn, rfl, rfl, rfl, rfl, rfl, trivial⟩ ⟨zDq _, hT, hT, hU, zDq _, trivial⟩
 ·simp only [List.mem_cons, List.not_mem_nil, or_false] at hS
  rcases hS with rfl | rfl
  ·exact @new1_proof ⟨_⟩ V' N (v 0) (.tab 129) hN (by rw [hV']; exact e0) (by rw [hV']; exact t1)
  ·exact @new2_proof ⟨_⟩ V' N (v 0) (.tab 129) (.tab 131) hN (by rw [hV']; exact e0) (by rw [hV']; exact t1) (by rw [hV']; exact t2)
 ·exact run
 ·rw [e0]; show (1 : Int) ≤ _; omega
 ·rw [e0]; show _ ≤ (4096 : Int); omega
end
end Go.Proofs.YtaliacnncemneaaGreat.wheels
namespace Go.Proofs.Wheels
open Go.Abs
def shAdd (G : Nat) : Nat → Shape
 | 0 => ⟨zHg 0 [.ptr G 0, X 6, X 7], zDr G⟩
 | _ => ⟨[(0, ok0)], zDr G⟩
def C8 : C4 := ⟨v 8, v 9, v 10, v 11⟩
def wAdd : SE := .upd (.tab 128) (v 6) 0 (add (v 1) (v 7))
def fAdd (n now : SE) (c : C4) (t a : SE) (c' : C4) : List SE := fW n now c t ++ (a :: c'.list)
def zKx (g : Nat) (f : Fns) (n now : SE) (c c' : C4) (t a : SE) (w w' : SE) (K K' : K4) : zAi := ⟨g, 3, shAdd f.G, fAdd n now c t a c', gW w K ++ K'.list, nmW, [⟨.ret, 1, fAdd n now c' t a c', gW w' K' ++ K'.list⟩], 7⟩
def pcAdd : List (SB × Bool) := pcW ++ (inR (L 0) (v 6) n1 ++ (inR (L 1) (v 7) (L 65535) ++ [eq w6 (L 0)]))
def csAdd : Case := ⟨pcAdd, .ret, 1, [.var 0, .var 1, v 8, v 9, v 10, v 11], [wAdd, .tab 133, .tab 134, .tab 135, .tab 136], []⟩
def WS.at_ (s : WS) (t a : Int) : WS := { s with when_ := up s.when_ t (s.now + a) }
def WS.add (s : WS) (t a : Int) : WS := (s.at_ t a).inn t
theorem at_base {s : WS} {q : Int → List Int} (h : WBase s q) (t a : Int) : WBase (s.at_ t a) q := ⟨h.rep, h.now0, h.c⟩
theorem when_at {s : WS} {t a : Int} (ht : 0 ≤ t) : g0 (s.at_ t a).when_ t = s.now + a := by
 show g0 (up s.when_ t (s.now + a)) t = _
 rw [up_at ht, if_pos rfl]
theorem out_of {s : WS} {q : Int → List Int} (h : zEc s q) {t : Int} (t0 : 0 ≤ t) (t1 : t < s.n) (hw : g0 s.when_ t = 0) : g0 s.k.L t = -1 := by
 have h0 := h.now0
 rcases h.w t t0 t1 with g | ⟨g, _⟩
 ·exact g.2
 ·omega
theorem add_inv {s : WS} {q : Int → List Int} (h : zEc s q) {t a : Int} (t0 : 0 ≤ t) (t1 : t < s.n) (hw : g0 s.when_ t = 0) (a1 : 1 ≤ a) (a2 : a ≤ 65535) :
  ∃ q', zEc (s.add t a) q' := by
 have hL := out_of h t0 t1 hw
 have hat := when_at (s := s) (a := a) t0
 have hb := (at_base h.toWBase t a).inn (t := t) ⟨t0, t1⟩ hL
 refine ⟨_, hb, fun y y0 y1 => ?_⟩
 by_cases e : y = t
 ·subst e
  refine .inr ⟨?_, ?_, ?_⟩
  ·show s.now < g0 (s.at_ y a).when_ y
   rw [hat]; omega
  ·show g0 (s.at_ y a).when_ y ≤ s.now + 65535
   rw [hat]; omega
  ·show g0 (up s.k.L y (zCp s.now (g0 (s.at_ y a).when_ y))) y = zCp s.now (g0 (s.at_ y a).when_ y)
   rw [up_at y0, if_pos rfl]
 ·have hw' : g0 (s.add t a).when_ y = g0 s.when_ y := by
   show g0 (up s.when_ t (s.now + a)) y = _
   rw [up_at y0, if_neg e]
  have hL' : g0 (s.add t a).k.L y = g0 s.k.L y := by
   show g0 (up s.k.L t (zCp s.now (g0 (s.at_ t a).when_ t))) y = _
   rw [up_at y0, if_neg e]
  rw [hw', hL']
  exact h.w y y0 y1
end Go.Proofs.Wheels
namespace Go.Proofs.YtaliacnncemneaaGreat.wheels
open Go.Abs Go.Proofs.Wheels
set_option maxRecDepth 1000000
theorem run_add : ((zCg csAdd.pc [inS fns (v 0) (v 1) C0 C8 (v 6) wAdd K0 K1]) (.f fWAdd) [.ptr PG 0, X 6, X 7] ((shAdd PG 0).heap PG [])).every NN (@Case.chkF ⟨csAdd.pc⟩ PG 7 (shAdd PG csAdd.to) csAdd) = true := by kernel_rfl
theorem fxAdd : zAl (shAdd PG) 7 [false, false, false, false, false, false, false] := fun i => by rcases i with _ | i <;> exact ⟨Nat.le_refl _, rfl, rfl⟩
theorem goodAdd : zBk PG (shAdd PG 1) = true := by kernel_rfl
theorem upsAdd : ∀ i, (shAdd PG i).ups 12 9 = true := fun i => by rcases i with _ | i <;> kernel_rfl
theorem add_mid {s : WS} {q : Int → List Int} (h : zEc s q) (hm : zEh s) {t a : Int} (t0 : 0 ≤ t) (t1 : t < s.n) (a1 : 1 ≤ a) (a2 : a ≤ 65535) : zEh (s.add t a) := by
 have hnow := hm.now
 have h0 := h.now0
 have : zEh (s.at_ t a) := ⟨hm.now, hm.w.up (i64 (by omega) (by omega)), hm.k⟩
 exact this.inn (at_base h.toWBase t a) (t := t) ⟨t0, t1⟩
section
variable [F : Facts] [V : zAc] {n now t a w w' : SE} {c c' : C4} {K K' : K4}
theorem fAdd_mid (hn : In64 (n.eval V.env)) (hnow : In64 (now.eval V.env)) (hc : ∀ r, r < 4 → In64 (cE V.env c r)) (ht : In64 (t.eval V.env)) (ha : In64 (a.eval V.env)) (hc' : ∀ r, r < 4 → In64 (cE V.env c' r)) : ∀ e ∈ fAdd n now c t a c', In64 (e.eval V.env) := fun e he => by
 rcases List.mem_append.1 he with he | he
 ·exact fW_mid hn hnow hc ht e he
 ·rcases List.mem_cons.1 he with rfl | he
  ·exact ha
  ·exact c_mid hc' e he
theorem add_proof {s : WS} {q : Int → List Int} (hs : wsE V.env n now c w K = s) (h : zEc s q) (hm : zEh s) {ti ai : Int} (ht : t.eval V.env = ti) (ha : a.eval V.env = ai) (t0 : 0 ≤ ti) (t1 : ti < s.n) (hwt : g0 s.when_ ti = 0) (a1 : 1 ≤ ai) (a2 : ai ≤ 65535)
  (hw' : zAg (zAw V.env w') (s.add ti ai).when_) (hc' : ∀ r, r < 4 → cE V.env c' r = (s.add ti ai).c r) (hK' : zEi (lkE V.env K') (s.add ti ai).k) : zAj Tryz.prog [] (zKx fWAdd fns n now c c' t a w w' K K') := by
 obtain ⟨q', hi⟩ := add_inv h t0 t1 hwt a1 a2
 have hmi := add_mid h hm t0 t1 a1 a2
 have hn := h.rep.n1
 have h0 := h.now0
 have hnow := hm.now
 have sn : n.eval V.env = s.n := by rw [← hs]; rfl
 have snow : now.eval V.env = s.now := by rw [← hs]; rfl
 have sc : ∀ i, cE V.env c i = s.c i := fun i => by rw [← hs]; rfl
 have sw : zAw V.env w = s.when_ := by rw [← hs]; rfl
 have sk : lkE V.env K = s.k := by rw [← hs]; rfl
 have mc' : ∀ r, r < 4 → In64 (cE V.env c' r) := fun r hr => by
  rw [hc' r hr]
  have := hi.toWBase.c_in hr
  exact i64 (by omega) (by omega)
 have mc : ∀ r, r < 4 → In64 (cE V.env c r) := fun r hr => by
  rw [sc r]
  have := h.toWBase.c_in hr
  exact i64 (by omega) (by omega)
 have mK' : zEg (lkE V.env K') := hmi.k.of hK'
 have hf := fAdd_mid (V := V) (n := n) (now := now) (c := c) (t := t) (a := a) (c' := c') (by rw [sn]; exact i64 (by omega) (by omega)) (by rw [snow]; exact i64 (by omega) (by omega)) mc (by rw [ht]; exact i64 (by omega) (by omega)) (by rw [ha]; exact i64 (by omega) (by omega)) mc'
 have hf' := fAdd_mid (V := V) (n := n) (now := now) (c := c') (t := t) (a := a) (c' := c') (by rw [sn]; exact i64 (by omega) (by omega)) (by rw [snow]; exact i64 (by omega) (by omega)) mc' (by rw [ht]; exact i64 (by omega) (by omega)) (by rw [ha]; exact i64 (by omega) (by omega)) mc'
 have hg := gW_mid (V := V) (w := w) (K := K) (K' := K') (by rw [sw]; exact hm.w) (by rw [sk]; exact hm.k) mK'
 have hg' := gW_mid (V := V) (w := w') (K := K') (K' := K') (hmi.w.of hw') mK' mK'
 obtain ⟨s0, hs0⟩ : ∃ s0, s0 = inE (fAdd n now c t a c') (gW w K ++ K'.list) V.env := ⟨_, rfl⟩
 have m0 := zCh V.mid hf hg
 rw [show zBb (fun i => ((fAdd n now c t a c')[i]?).getD (.var i)) (fun b => ((gW w K ++ K'.list)[b - 128]?).getD (.tab b)) V.env = s0 from hs0.symm] at m0
 obtain ⟨a0, a1', a2', a3, a4⟩ := zLi (n := n) (now := now) (c := c) (w := w) (K := K) (f := fAdd n now c t a c') (g1 := K'.list) (env := V.env) rfl
 have a5 : zEi (lkT (inE (fAdd n now c t a c') (gW w K ++ (K'.list ++ [])) V.env) 133) (lkE V.env K') := zGf (g0 := gW w K) (g1 := []) rfl (by decide)
 rw [List.append_nil] at a5
 have a6 : inE (fAdd n now c t a c') (gW w K ++ K'.list) V.env 6 = t.eval V.env := zAx rfl (by decide)
 have a7 : inE (fAdd n now c t a c') (gW w K ++ K'.list) V.env 7 = a.eval V.env := zAx rfl (by decide)
 have a8 : ∀ r, r < 4 → inE (fAdd n now c t a c') (gW w K ++ K'.list) V.env (8 + r) = cE V.env c' r := fun r hr => by
  rcases (show r = 0 ∨ r = 1 ∨ r = 2 ∨ r = 3 by omega) with rfl | rfl | rfl | rfl <;> exact zAx rfl (by decide)
 rw [← hs0] at a0 a1' a2' a3 a4 a5 a6 a7 a8
 rw [sn] at a0
 rw [snow] at a1'
 rw [ht] at a6
 rw [ha] at a7
 rw [sw] at a3
 rw [sk] at a4
 have e6 : (v 6).eval s0 = ti := a6
 have ew : w6.eval s0 = g0 s.when_ ti := by
  refine (zBv s0 128 (v 6)).trans ?_
  rw [e6]; exact a3.g _
 have run := run_add
 refine zFi (N := NN) (av := [.ptr PG 0, X 6, X 7]) (zKx fWAdd fns n now c c' t a w w' K K') zFe fxAdd (zCa rfl goodAdd) rfl rfl (σ := Nat → Int) id 12 9 (by decide) upsAdd (Nat.le_refl _) (Nat.le_refl _) csAdd (zCg csAdd.pc [inS fns (v 0) (v 1) C0 C8 (v 6) wAdd K0 K1])
  s0 (inE (fAdd n now c' t a c') (gW w' K' ++ K'.list) V.env)
  (fun B V' hV' => zNf B V' fun S hS => ?_) ?_ ?_ (Nat.le_of_ble_eq_true rfl) (Nat.le_of_ble_eq_true rfl) m0 (zCh V.mid hf' hg') ?_ (by rw [hs0]; exact zCc _ _ _) (o := ⟨.ret, 1, fAdd n now c' t a c', gW w' K' ++ K'.list⟩) (k := 0) rfl ⟨rfl, rfl, Nat.le_refl _, Nat.le_refl _, zCc _ _ _⟩
 ·have hS : S = inS fns (v 0) (v 1) C0 C8 (v 6) wAdd K0 K1 := by simpa using hS
  subst hS
  have hV' : V'.env = s0 := hV'
  have hws : zDg (wsE s0 (v 0) (v 1) C0 wAdd K0) (s.at_ ti ai) := by
   refine ⟨a0, a1', ?_, a4, fun r hr => ?_⟩
   ·exact zEd a3 e6 (by show s0 1 + s0 7 = _; rw [a1', a7])
   ·rcases (show r = 0 ∨ r = 1 ∨ r = 2 ∨ r = 3 by omega) with rfl | rfl | rfl | rfl
    ·exact (a2' 0 (by decide)).trans (sc 0)
    ·exact (a2' 1 (by decide)).trans (sc 1)
    ·exact (a2' 2 (by decide)).trans (sc 2)
    ·exact (a2' 3 (by decide)).trans (sc 3)
  have hma : zEh (s.at_ ti ai) := ⟨hm.now, hm.w.up (i64 (by omega) (by omega)), hm.k⟩
  have hwa := when_at (s := s) (a := ai) t0
  have hin := inn_eq hws (t := (v 6).eval s0) (t' := ti) e6
  refine @in_proof ⟨csAdd.pc⟩ V' (v 0) (v 1) (v 6) wAdd C0 C8 K0 K1 q ?_ ?_ ?_ ?_ ?_ ?_ ?_
  all_goals rw [hV']
  ·exact (at_base h.toWBase ti ai).of hws
  ·exact hma.of hws
  ·rw [e6]; exact ⟨t0, by show ti < s0 0; rw [a0]; exact t1⟩
  ·rw [e6]; exact (a4.L.g _).trans (out_of h t0 t1 hwt)
  ·have hg0 : g0 (zAw s0 wAdd) ti = g0 (s.at_ ti ai).when_ ti := hws.w.g ti
   rw [e6, hg0, hwa]
   exact ⟨by omega, by unfold most; omega⟩
  ·intro r hr
   rw [hin.c r hr]
   refine Eq.trans ?_ (hc' r hr)
   rcases (show r = 0 ∨ r = 1 ∨ r = 2 ∨ r = 3 by omega) with rfl | rfl | rfl | rfl
   ·exact a8 0 (by decide)
   ·exact a8 1 (by decide)
   ·exact a8 2 (by decide)
   ·exact a8 3 (by decide)
  ·exact (a5.trans hK').trans hin.k.symm
 ·exact run
 ·show Fx s0 pcAdd
  refine .app (zDw h.toWBase hm a0 a1' fun r hr => by rw [a2' r hr, sc]) (.app (zAv ?_ ?_) (.app (zAv ?_ ?_) (zEb (eq_ok ?_))))
  ·rw [e6]; exact t0
  ·rw [e6]; show _ ≤ s0 0 + (-1); rw [a0]; omega
  ·show (1 : Int) ≤ s0 7; rw [a7]; exact a1
  ·show s0 7 ≤ 65535; rw [a7]; exact a2
  ·rw [ew]; exact hwt
 ·obtain ⟨b0, b1, b2, _, _⟩ := zLi (n := n) (now := now) (c := c') (w := w') (K := K') (f := fAdd n now c' t a c') (g1 := K'.list) (env := V.env) rfl
  have b6 : inE (fAdd n now c' t a c') (gW w' K' ++ K'.list) V.env 6 = t.eval V.env := zAx rfl (by decide)
  have b7 : inE (fAdd n now c' t a c') (gW w' K' ++ K'.list) V.env 7 = a.eval V.env := zAx rfl (by decide)
  have b8 : ∀ r, r < 4 → inE (fAdd n now c' t a c') (gW w' K' ++ K'.list) V.env (8 + r) = cE V.env c' r := fun r hr => by
   rcases (show r = 0 ∨ r = 1 ∨ r = 2 ∨ r = 3 by omega) with rfl | rfl | rfl | rfl <;> exact zAx rfl (by decide)
  refine zBg (by decide) (by decide) (fun i hi => ?_) (ws_agree ?_ a5 a5)
  ·rcases (show i = 0 ∨ i = 1 ∨ i = 2 ∨ i = 3 ∨ i = 4 ∨ i = 5 ∨ i = 6 ∨ i = 7 ∨ i = 8 ∨ i = 9 ∨ i = 10 ∨ i = 11 by omega) with rfl | rfl | rfl | rfl | rfl | rfl | rfl | rfl | rfl | rfl | rfl | rfl
   ·exact a0.trans (sn.symm.trans b0.symm)
   ·exact a1'.trans (snow.symm.trans b1.symm)
   ·exact (a8 0 (by decide)).trans (b2 0 (by decide)).symm
   ·exact (a8 1 (by decide)).trans (b2 1 (by decide)).symm
   ·exact (a8 2 (by decide)).trans (b2 2 (by decide)).symm
   ·exact (a8 3 (by decide)).trans (b2 3 (by decide)).symm
   ·exact a6.trans (ht.symm.trans b6.symm)
   ·exact a7.trans (ha.symm.trans b7.symm)
   ·exact (a8 0 (by decide)).trans (b8 0 (by decide)).symm
   ·exact (a8 1 (by decide)).trans (b8 1 (by decide)).symm
   ·exact (a8 2 (by decide)).trans (b8 2 (by decide)).symm
   ·exact (a8 3 (by decide)).trans (b8 3 (by decide)).symm
  ·refine zAg.trans (B := (s.add ti ai).when_) ?_ hw'.symm
   exact zEd a3 e6 (by show s0 1 + s0 7 = _; rw [a1', a7])
end
end Go.Proofs.YtaliacnncemneaaGreat.wheels
end
