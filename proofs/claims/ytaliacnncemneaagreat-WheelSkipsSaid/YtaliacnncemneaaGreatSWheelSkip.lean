/- Skip. Conditions: those that each theorem names. -/
import Derived.Test.YtaliacnncemneaaGreatSWheelTick
open Go
noncomputable section
namespace Go.Proofs.Wheels
open Go.Abs
def sumC : SE := add (add (add (v 2) (v 3)) (v 4)) (v 5)
def lenV (i : Nat) : SE := v (7 + i)
def lisT (i : Nat) : Nat := 133 + i
def outA (G j : Nat) : AV := if j = 0 then nilS else .sl (G + 7) 0 1 j none
def rowO (G j : Nat) : List Blk := if j = 0 then [] else [.cells (Tr.fill ((List.range j).map fun i => ss (G + 8 + i) (lenV i)) 0 .lf) j (some 1)] ++ (List.range j).map fun i => T1 (lisT i) (lenV i)
def shSk0 (G j : Nat) : Shape := ⟨[(0, .ptr G 0), (1, X 6), (5, outA G j)], zDr G ++ rowO G j⟩
def shSk (G j : Nat) : Shape := shSk0 G (min j 61)
def C60 : C4 := ⟨v 70, v 71, v 72, v 73⟩
def K191 : K4 := ⟨.tab 201, .tab 202, .tab 203, .tab 204⟩
def tkSk (f : Fns) (some_ : Bool) : zAi := tickS f (v 0) (v 1) (add (v 1) (L 1)) C0 C60 (v 74) (.tab 128) (.tab 200) K0 K191 (.tab 205) some_
def fSk (n now : SE) (c : C4) (k : SE) : List SE := [n, now, c.a, c.b, c.c, c.d, k]
def skS (g : Nat) (f : Fns) (j : Nat) (n now now' : SE) (c c' : C4) (k k' : SE) (w w' : SE) (K K' : K4) (ls ts : List SE) : zAd :=
 ⟨g, 6, 37, shSk f.G, fSk n now c k ++ List.replicate 61 (L 0), gW w K ++ List.replicate 61 zS, nm0, [⟨.exit 0, j, fSk n now' c' k' ++ ls, gW w' K' ++ ts⟩], 7⟩
def pcSk : List (SB × Bool) := pcW ++ inR (L 1) (v 6) (L 100000)
def csSkN (j : Nat) : Case := ⟨pcSk ++ [eq sumC (L 0)], .exit 0, j, [.var 0, add (v 1) (v 6)], [], []⟩
def fNx : List SE := [.var 0, add (v 1) (L 1), v 70, v 71, v 72, v 73, add (v 6) (L (-1))]
def gNx : List SE := [.tab 200, .tab 201, .tab 202, .tab 203, .tab 204]
def csSk0 (j : Nat) : Case := ⟨pcSk ++ [ne sumC (L 0)], .normal, j, fNx, gNx, []⟩
def nmJ (G j : Nat) : List Nat :=
 let n := if j = 0 then 7 else 8 + j
 [G, G + 1, G + 2, G + 3, G + 4, G + 5, G + 6, G + (n + 2)] ++ ((List.range j).map fun i => G + (8 + i)) ++ [G + n]
def csSk1 (G j : Nat) : Case := ⟨pcSk ++ ([ne sumC (L 0)] ++ inR (L 1) (v 74) (L 4096)), .normal, j + 1, fNx ++ ((List.range j).map lenV ++ [v 74]), gNx ++ (((List.range j).map fun i => .tab (lisT i)) ++ [.tab 205]), nmJ G j⟩
def csSkE (j : Nat) : Case := ⟨pcW ++ [le (v 6) (L 0)], .exit 0, j, [], [], []⟩
end Go.Proofs.Wheels
namespace Go.Proofs.YtaliacnncemneaaGreat.wheels
open Go.Abs Go.Proofs.Wheels
noncomputable def runK (j : Nat) (c : Case) (fs : List zAi) : Bool :=
 (@code ⟨c.pc⟩ Tryz.prog noLoops (zCg c.pc fs) none fSkip fuel (zEf fSkip 6) ⟨tmps (shSk PG j).t, 37, [.rest]⟩ ((shSk PG j).heap PG [])).every NN (@Case.chk ⟨c.pc⟩ PG 37 7 (shSk PG c.to) c)
set_option maxRecDepth 1000000
noncomputable def runsK (j : Nat) : Bool := runK j (csSkN j) [] && (runK j (csSk0 j) [tkSk fns false] && (runK j (csSkE j) [] && runK j (csSk1 PG j) [tkSk fns true]))
theorem runsAll0 : (List.range 21).all runsK = true := by kernel_rfl
theorem runsAll1 : (List.range 12).all (fun j => runsK (21 + j)) = true := by kernel_rfl
theorem runsAll2 : (List.range 10).all (fun j => runsK (33 + j)) = true := by kernel_rfl
theorem runsAll3 : (List.range 9).all (fun j => runsK (43 + j)) = true := by kernel_rfl
theorem runsAll4 : (List.range 9).all (fun j => runsK (52 + j)) = true := by kernel_rfl
theorem goodSk : (List.range 62).all (fun j => zBk PG (shSk PG j)) = true := by kernel_rfl
theorem upsSk : (List.range 62).all (fun j => (shSk PG j).ups 68 66) = true := by kernel_rfl
theorem isSkip : ((Tryz.prog.funcs[fSkip]?).bind (·.body)).map (fun c => zBm 6 (subs c)) = some [zEf fSkip 6] := by kernel_rfl
end Go.Proofs.YtaliacnncemneaaGreat.wheels
namespace Go.Proofs.Wheels
open Go.Abs
theorem cntP_sum {p0 p1 p2 p3 p : Int → Bool} : ∀ {n : Nat}, (∀ i : Nat, i < n → b2i (p0 i) + b2i (p1 i) + b2i (p2 i) + b2i (p3 i) = b2i (p i)) → zLf p0 n + zLf p1 n + zLf p2 n + zLf p3 n = zLf p n := by
 intro n
 induction n with
 | zero => intro _; rfl
 | succ n ih =>
  intro h
  have h1 := ih fun i hi => h i (by omega)
  have h2 := h n (by omega)
  have u : ∀ p : Int → Bool, zLf p (n + 1) = zLf p n + b2i (p n) := fun _ => rfl
  rw [u, u, u, u, u]
  omega
def WS.wait (s : WS) : Int := zLf (fun t => !decide (g0 s.when_ t = 0)) s.n.toNat
theorem zGl {s : WS} {q : Int → List Int} (h : zEc s q) : s.len = s.wait := by
 have h0 := h.now0
 unfold WS.len WS.wait
 rw [h.c 0 (by omega), h.c 1 (by omega), h.c 2 (by omega), h.c 3 (by omega)]
 refine cntP_sum fun i hi => ?_
 unfold zHe
 rcases h.w i (by omega) (by omega) with ⟨g1, g2⟩ | ⟨g1, g2, g3⟩
 ·rw [g1, g2]; rfl
 ·obtain ⟨l0, l1, _⟩ := zGj (now := s.now) (at_ := g0 s.when_ i)
  have hw : ¬ g0 s.when_ i = 0 := by omega
  rw [g3, decide_eq_true l0, decide_eq_false hw]
  rcases (show zCp s.now (g0 s.when_ i) / 32 = 0 ∨ zCp s.now (g0 s.when_ i) / 32 = 1 ∨ zCp s.now (g0 s.when_ i) / 32 = 2 ∨ zCp s.now (g0 s.when_ i) / 32 = 3 by omega) with e | e | e | e <;> rw [e] <;> rfl
theorem zLw {s : WS} : 0 ≤ s.wait := zKp.1
theorem zLv {s : WS} (h : s.wait = 0) {t : Int} (t0 : 0 ≤ t) (t1 : t < s.n) : g0 s.when_ t = 0 := by
 have := cntP_zero h t.toNat (by omega)
 rw [Int.toNat_of_nonneg t0] at this
 simpa using this
theorem wait_none {s : WS} (h : ∀ t, 0 ≤ t → t < s.n → g0 s.when_ t = 0) : s.wait = 0 := cntP_no fun i hi => by
 have := h i (by omega) (by omega)
 simp [this]
theorem wake_wait {s : WS} {t : Int} (t0 : 0 ≤ t) (t1 : t < s.n) (hw : g0 s.when_ t ≠ 0) : (s.wake t).wait = s.wait - 1 := by
 have hn : ((s.wake t).n).toNat = s.n.toNat := rfl
 unfold WS.wait
 rw [hn, zNd (t := t.toNat) (p := fun t => !decide (g0 s.when_ t = 0)) (by omega) (fun i hi hne => ?_)]
 ·have e1 : g0 (s.wake t).when_ t = 0 := by
   show g0 (up s.when_ t 0) t = 0
   exact zBn t0
  rw [Int.toNat_of_nonneg t0]
  simp [e1, hw, b2i]
 ·have : g0 (s.wake t).when_ i = g0 s.when_ i := by
   show g0 (up s.when_ t 0) i = _
   exact zCx (by omega) (by omega)
  simp [this]
theorem wakes_wait : ∀ {l : List Int} {s : WS} {q : Int → List Int}, WWk s q l → (WS.wakes l s).wait = s.wait - l.length := by
 intro l
 induction l with
 | nil => intro s q _; show s.wait = s.wait - 0; omega
 | cons t l ih =>
  intro s q h
  obtain ⟨_, h1⟩ := h.step
  obtain ⟨t0, t1, t2⟩ := (h.mem t).1 (.head _)
  have := h.now1
  show (WS.wakes l (s.wake t)).wait = _
  rw [ih h1, wake_wait t0 t1 (by omega)]
  simp
  omega
def WS.jump (s : WS) (d : Nat) : WS := { s with now := s.now + d }
theorem jump_inv {s : WS} {q : Int → List Int} (h : zEc s q) (h0 : s.wait = 0) (d : Nat) : zEc (s.jump d) q := by
 have hz := h.now0
 refine ⟨⟨h.rep, by show 0 ≤ s.now + d; omega, h.c⟩, fun t t0 t1 => ?_⟩
 rcases h.w t t0 t1 with g | ⟨g, _⟩
 ·exact .inl g
 ·have := zLv h0 t0 t1
  omega
def total : List (List Int) → Int
 | [] => 0
 | l :: p => l.length + total p
theorem total_app : ∀ {p r : List (List Int)}, total (p ++ r) = total p + total r := by
 intro p
 induction p with
 | nil => intro r; show total r = 0 + total r; omega
 | cons l p ih =>
  intro r
  show (l.length : Int) + total (p ++ r) = l.length + total p + total r
  rw [ih]; omega
end Go.Proofs.Wheels
namespace Go.Proofs.YtaliacnncemneaaGreat.wheels
open Go.Abs Go.Proofs.Wheels
theorem fin_wait {s : WS} {qt qf : Int → List Int} (ha : zNi s qt qf) : s.fin.wait = s.wait - s.raw.length := by
 have h1 : s.fin.wait = s.downs.wait - s.raw.length := wakes_wait ha.wk
 have h2 : s.downs.wait = s.wait := by
  unfold WS.wait
  rw [zBu.1, zBu.2.2]
 rw [h1, h2]
theorem fin_when {s : WS} {qt qf : Int → List Int} (ha : zNi s qt qf) {t : Int} (t0 : 0 ≤ t) : g0 s.fin.when_ t = if t ∈ s.raw then 0 else g0 s.when_ t := by
 obtain ⟨_, _, h⟩ := ha.wk.all
 have := h t t0
 rw [zBu.2.2] at this
 exact this
theorem zNr {s : WS} {qt qf : Int → List Int} (ha : zNi s qt qf) {t : Int} : t ∈ s.raw ↔ 0 ≤ t ∧ t < s.n ∧ g0 s.when_ t = s.now + 1 := by
 have := ha.wk.mem t
 rw [zBu.1, zBu.2.1, zBu.2.2] at this
 exact this
structure SkS where
 s : WS
 k : Nat
 past : List (List Int)
def SkS.next (x : SkS) : SkS := ⟨x.s.fin, x.k - 1, if x.s.raw = [] then x.past else x.past ++ [sorted x.s.raw]⟩
def SkS.jump (x : SkS) : SkS := ⟨x.s.jump x.k, x.k, x.past⟩
def zCt : Nat → SkS → SkS
 | 0, x => x
 | n + 1, x => if x.s.len = 0 then x.jump else zCt n x.next
structure zIb (N : Nat) (x : SkS) : Prop where
 q : ∃ q, zEc x.s q
 mid : zEh x.s
 now : x.s.now + x.k + 1 ≤ 999000000
 k : x.k ≤ 100000
 past : ∀ l ∈ x.past, l.length ≤ 4096 ∧ ∀ t ∈ l, 0 ≤ t ∧ t < x.s.n
 room : (x.past.length : Int) + x.s.wait ≤ N
theorem zIb.next {N : Nat} {x : SkS} (h : zIb N x) (hk : 1 ≤ x.k) : zIb N x.next ∧ total x.next.past + x.next.s.wait = total x.past + x.s.wait ∧
  (∀ t, 0 ≤ t → g0 x.next.s.when_ t = 0 ∨ g0 x.next.s.when_ t = g0 x.s.when_ t) ∧ (∀ l ∈ x.next.past, l ∈ x.past ∨ ∀ t ∈ l, g0 x.s.when_ t ≠ 0) ∧ (x.s.raw ≠ [] → (x.past.length : Int) + 1 ≤ N) := by
 obtain ⟨q, hq⟩ := h.q
 have hnow := h.now
 have h0 := hq.now0
 obtain ⟨qt, qf, ha⟩ := zJo hq h.mid (by omega)
 have hw := fin_wait ha
 have hwp := zLw (s := x.s.fin)
 have hkeep := zFw (s := x.s)
 have hroom := h.room
 have when_ : ∀ t, 0 ≤ t → g0 x.next.s.when_ t = 0 ∨ g0 x.next.s.when_ t = g0 x.s.when_ t := fun t t0 => by
  have : g0 x.next.s.when_ t = _ := fin_when ha t0
  rw [this]
  split
  ·exact .inl rfl
  ·exact .inr rfl
 have now_ : x.s.fin.now + ((x.k - 1 : Nat) : Int) + 1 ≤ 999000000 := by rw [hkeep.2]; omega
 by_cases hr : x.s.raw = []
 ·have e : x.next = ⟨x.s.fin, x.k - 1, x.past⟩ := by unfold SkS.next; rw [if_pos hr]
  rw [hr] at hw
  have hw : x.s.fin.wait = x.s.wait := by rw [hw]; show _ - 0 = _; omega
  refine ⟨?_, ?_, when_, ?_, fun hne => absurd hr hne⟩
  ·rw [e]
   exact ⟨⟨qf, ha.fin⟩, ha.finM, now_, by have := h.k; show x.k - 1 ≤ _; omega, fun l hl => by rw [show (SkS.mk x.s.fin (x.k - 1) x.past).s.n = x.s.n from hkeep.1]; exact h.past l hl, by show (x.past.length : Int) + x.s.fin.wait ≤ N; rw [hw]; exact hroom⟩
  ·rw [e]
   show total x.past + x.s.fin.wait = _
   rw [hw]
  ·rw [e]
   exact fun l hl => .inl hl
 ·have e : x.next = ⟨x.s.fin, x.k - 1, x.past ++ [sorted x.s.raw]⟩ := by unfold SkS.next; rw [if_neg hr]
  have hl : 1 ≤ x.s.raw.length := by
   cases e : x.s.raw with
   | nil => exact absurd e hr
   | cons a l => simp
  refine ⟨?_, ?_, when_, ?_, fun _ => by omega⟩
  ·rw [e]
   refine ⟨⟨qf, ha.fin⟩, ha.finM, now_, by have := h.k; show x.k - 1 ≤ _; omega, fun l hl => ?_, ?_⟩
   ·rw [show (SkS.mk x.s.fin (x.k - 1) (x.past ++ [sorted x.s.raw])).s.n = x.s.n from hkeep.1]
    rcases List.mem_append.1 hl with hl | hl
    ·exact h.past l hl
    ·simp only [List.mem_cons, List.not_mem_nil, or_false] at hl
     subst hl
     rw [zEt]
     exact ⟨ha.len, fun t ht => ha.th t (zDx.1 ht)⟩
   ·show ((x.past ++ [sorted x.s.raw]).length : Int) + x.s.fin.wait ≤ N
    rw [List.length_append, hw]
    simp
    omega
  ·rw [e]
   show total (x.past ++ [sorted x.s.raw]) + x.s.fin.wait = _
   rw [total_app, hw]
   show total x.past + (((sorted x.s.raw).length : Int) + 0) + _ = _
   rw [zEt]
   omega
  ·rw [e]
   intro l hl
   rcases List.mem_append.1 hl with hl | hl
   ·exact .inl hl
   ·simp only [List.mem_cons, List.not_mem_nil, or_false] at hl
    subst hl
    refine .inr fun t ht => ?_
    have := (zNr ha).1 (zDx.1 ht)
    omega
structure SkEnd (N : Nat) (x e : SkS) : Prop where
 q : ∃ q, zEc e.s q
 mid : zEh e.s
 now : e.s.now = x.s.now + x.k
 n : e.s.n = x.s.n
 k : e.k ≤ 100000
 past : ∀ l ∈ e.past, l.length ≤ 4096 ∧ ∀ t ∈ l, 0 ≤ t ∧ t < e.s.n
 room : e.past.length ≤ N
 sum : total e.past + e.s.wait = total x.past + x.s.wait
 when_ : ∀ t, 0 ≤ t → g0 e.s.when_ t = 0 ∨ g0 e.s.when_ t = g0 x.s.when_ t
 new : ∀ l ∈ e.past, l ∈ x.past ∨ ∀ t ∈ l, 0 ≤ t ∧ g0 x.s.when_ t ≠ 0
theorem zGx {N : Nat} : ∀ {n : Nat} {x : SkS}, zIb N x → x.k = n → SkEnd N x (zCt n x) := by
 intro n
 induction n with
 | zero =>
  intro x h hk
  have hw := zLw (s := x.s)
  have := h.room
  exact ⟨h.q, h.mid, by show x.s.now = x.s.now + x.k; omega, rfl, h.k, h.past, by show x.past.length ≤ N; omega, rfl, fun _ _ => .inr rfl, fun l hl => .inl hl⟩
 | succ n ih =>
  intro x h hk
  unfold zCt
  by_cases hl : x.s.len = 0
  ·rw [if_pos hl]
   obtain ⟨q, hq⟩ := h.q
   have hw : x.s.wait = 0 := by rw [← zGl hq]; exact hl
   have hwp := zLw (s := x.s)
   have hr := h.room
   exact ⟨⟨q, jump_inv hq hw x.k⟩, ⟨by have := h.now; show x.s.now + x.k ≤ 999000000; omega, h.mid.w, h.mid.k⟩, rfl, rfl, h.k, h.past, by show x.past.length ≤ N; omega, rfl, fun _ _ => .inr rfl, fun l hl => .inl hl⟩
  ·rw [if_neg hl]
   obtain ⟨h1, h2, h3, h4, _⟩ := h.next (by omega)
   have e := ih h1 (by show x.k - 1 = n; omega)
   have hkeep := zFw (s := x.s)
   refine ⟨e.q, e.mid, ?_, e.n.trans hkeep.1, e.k, e.past, e.room, e.sum.trans h2, fun t t0 => ?_, fun l hl => ?_⟩
   ·rw [e.now]
    show x.s.fin.now + ((x.k - 1 : Nat) : Int) = _
    rw [hkeep.2]; omega
   ·rcases e.when_ t t0 with g | g
    ·exact .inl g
    ·rw [g]; exact h3 t t0
   ·rcases e.new l hl with g | g
    ·rcases h4 l g with g | g
     ·exact .inl g
     ·refine .inr fun t ht => ⟨?_, g t ht⟩
      exact ((e.past l hl).2 t ht).1
    ·refine .inr fun t ht => ?_
     obtain ⟨t0, t1⟩ := g t ht
     refine ⟨t0, fun e0 => t1 ?_⟩
     rcases h3 t t0 with g | g
     ·exact g
     ·rw [g]; exact e0
end Go.Proofs.YtaliacnncemneaaGreat.wheels
namespace Go.Proofs.Wheels
open Go.Abs
theorem down_eq {s s' : WS} (h : zDg s s') (r : Nat) : zDg (s.down r) (s'.down r) := by
 unfold WS.down
 rw [h.now, many_eq h]
 split
 ·exact dnK_eq h
 ·exact h
theorem downs_eq {s s' : WS} (h : zDg s s') : zDg s.downs s'.downs :=
 down_eq (down_eq (down_eq (s := s.tick) (s' := s'.tick) ⟨h.n, by show s.now + 1 = s'.now + 1; rw [h.now], h.w, h.k, h.c⟩ 3) 2) 1
theorem walkN_eq {N N' : TT} (h : ∀ i, g0 N i = g0 N' i) : ∀ (m : Nat) (a : Int), walkN N m a = walkN N' m a := by
 intro m
 induction m with
 | zero => intro a; rfl
 | succ m ih =>
  intro a
  show g0 N a :: walkN N m (g0 N a) = g0 N' a :: walkN N' m (g0 N' a)
  rw [ih, h a]
theorem zJs {s s' : WS} (h : zDg s s') : s.raw = s'.raw := by
 have d := downs_eq h
 unfold WS.raw
 rw [walkN_eq (fun i => d.k.N.g i), many_eq d, d.n, d.now]
theorem zMt {s s' : WS} (h : zDg s s') : zDg s.fin s'.fin := by
 unfold WS.fin
 rw [zJs h]
 exact wakes_eq (downs_eq h)
def encS (sc sc2 : List Int) (tb tb2 : List TT) : Nat → Int :=
 envT (fun i => if i < 70 then (sc[i]?).getD 0 else (sc2[i - 70]?).getD 0) (fun a => if a < 200 then (tb[a - 128]?).getD zBj else (tb2[a - 200]?).getD zBj)
section
variable {sc sc2 : List Int} {tb tb2 : List TT}
theorem encS_get {i : Nat} (hi : i < 70) : encS sc sc2 tb tb2 i = (sc[i]?).getD 0 := by
 unfold encS envT
 rw [if_pos (by omega)]
 show (if i < 70 then (sc[i]?).getD 0 else (sc2[i - 70]?).getD 0) = _
 rw [if_pos hi]
theorem encS_one {i : Nat} {x : Int} (h : sc[i]? = some x) (hi : i < 70) : encS sc sc2 tb tb2 i = x := by rw [encS_get hi, h]; rfl
theorem encS_two {i : Nat} {x : Int} (h : sc2[i]? = some x) (hi : i < 58) : encS sc sc2 tb tb2 (70 + i) = x := by
 unfold encS envT
 rw [if_pos (by omega)]
 show (if 70 + i < 70 then (sc[70 + i]?).getD 0 else (sc2[70 + i - 70]?).getD 0) = _
 rw [if_neg (by omega), show 70 + i - 70 = i by omega, h]
 rfl
theorem encS_tab {a : Nat} (h1 : 128 ≤ a) (h2 : a < 200) : zAg (zFl (encS sc sc2 tb tb2) a) ((tb[a - 128]?).getD zBj) := fun r c hc => by
 unfold zFl encS
 rw [envT_cell h1 (by omega) hc]
 show (if a < 200 then (tb[a - 128]?).getD zBj else (tb2[a - 200]?).getD zBj) r c = _
 rw [if_pos h2]
theorem zMu {a : Nat} {T : TT} (h : tb[a - 128]? = some T) (h1 : 128 ≤ a) (h2 : a < 200) : zAg (zFl (encS sc sc2 tb tb2) a) T := by
 have := encS_tab (sc := sc) (sc2 := sc2) (tb := tb) (tb2 := tb2) h1 h2
 rw [h] at this
 exact this
theorem zIm {i : Nat} {T : TT} (h : tb2[i]? = some T) (hi : i < 50) : zAg (zFl (encS sc sc2 tb tb2) (200 + i)) T := fun r c hc => by
 unfold zFl encS
 rw [envT_cell (by omega) (by omega) hc]
 show (if 200 + i < 200 then (tb[200 + i - 128]?).getD zBj else (tb2[200 + i - 200]?).getD zBj) r c = _
 rw [if_neg (by omega), show 200 + i - 200 = i by omega, h]
 rfl
theorem encS_mid (h1 : ∀ x ∈ sc, In64 x) (h2 : ∀ x ∈ sc2, In64 x) (h3 : ∀ T ∈ tb, zDc T) (h4 : ∀ T ∈ tb2, zDc T) : ∀ j, In64 (encS sc sc2 tb tb2 j) := by
 have z : In64 0 := by unfold In64; omega
 have one : ∀ (l : List Int) (i : Nat), (∀ x ∈ l, In64 x) → In64 ((l[i]?).getD 0) := fun l i h => by
  cases e : l[i]? with
  | none => exact z
  | some x => exact h x (List.mem_of_getElem? e)
 have two : ∀ (l : List TT) (i r c : Nat), c < 64 → (∀ T ∈ l, zDc T) → In64 (((l[i]?).getD zBj) r c) := fun l i r c hc h => by
  cases e : l[i]? with
  | none => exact z
  | some T => exact h T (List.mem_of_getElem? e) r c hc
 intro j
 unfold encS envT
 split
 ·show In64 (if j < 70 then (sc[j]?).getD 0 else (sc2[j - 70]?).getD 0)
  split
  ·exact one _ _ h1
  ·exact one _ _ h2
 ·show In64 ((if j % 256 < 200 then (tb[j % 256 - 128]?).getD zBj else (tb2[j % 256 - 200]?).getD zBj) (j / 16384) (j / 256 % 64))
  split
  ·exact two _ _ _ _ (Nat.mod_lt _ (by decide)) h3
  ·exact two _ _ _ _ (Nat.mod_lt _ (by decide)) h4
end
end Go.Proofs.Wheels
namespace Go.Proofs.YtaliacnncemneaaGreat.wheels
open Go.Abs Go.Proofs.Wheels
def zBq (x : SkS) : Nat → Int :=
 encS ([x.s.n, x.s.now] ++ (x.s.cs ++ ([(x.k : Int)] ++ x.past.map fun l => (l.length : Int)))) (x.s.fin.cs ++ [(x.s.raw.length : Int)])
  ([x.s.when_] ++ (x.s.k.list ++ x.past.map zAs)) ([x.s.fin.when_] ++ (x.s.fin.k.list ++ [zAs (sorted x.s.raw)]))
def lenOf (x : SkS) (i : Nat) : Int := ((x.past[i]?).map fun l => (l.length : Int)).getD 0
def zLk (x : SkS) (i : Nat) : TT := ((x.past[i]?).map zAs).getD zBj
section
variable {x : SkS}
theorem sk_0 : zBq x 0 = x.s.n := encS_one rfl (by decide)
theorem sk_1 : zBq x 1 = x.s.now := encS_one rfl (by decide)
theorem sk_6 : zBq x 6 = x.k := encS_one rfl (by decide)
theorem sk_c {i : Nat} (hi : i < 4) : zBq x (2 + i) = x.s.c i := by
 rcases (show i = 0 ∨ i = 1 ∨ i = 2 ∨ i = 3 by omega) with rfl | rfl | rfl | rfl <;> exact encS_one rfl (by decide)
theorem sk_d {i : Nat} (hi : i < 4) : zBq x (70 + i) = x.s.fin.c i := by
 rcases (show i = 0 ∨ i = 1 ∨ i = 2 ∨ i = 3 by omega) with rfl | rfl | rfl | rfl <;> exact encS_two rfl (by decide)
theorem sk_m : zBq x 74 = x.s.raw.length := encS_two (i := 4) rfl (by decide)
theorem sk_len {i : Nat} (hi : i < 63) : zBq x (7 + i) = lenOf x i := by
 unfold zBq
 rw [encS_get (by omega), Nat.add_comm 7 i]
 show ((x.past.map fun l => (l.length : Int))[i]?).getD 0 = _
 rw [List.getElem?_map]
 rfl
theorem sk_w : zAg (zFl (zBq x) 128) x.s.when_ := zMu rfl (by decide) (by decide)
theorem sk_k : zEi (lkT (zBq x) 129) x.s.k := ⟨zMu rfl (by decide) (by decide), zMu rfl (by decide) (by decide), zMu rfl (by decide) (by decide), zMu rfl (by decide) (by decide)⟩
theorem sk_w' : zAg (zFl (zBq x) 200) x.s.fin.when_ := zIm (i := 0) rfl (by decide)
theorem sk_k' : zEi (lkT (zBq x) 201) x.s.fin.k := ⟨zIm (i := 1) rfl (by decide), zIm (i := 2) rfl (by decide), zIm (i := 3) rfl (by decide), zIm (i := 4) rfl (by decide)⟩
theorem sk_T : zAg (zFl (zBq x) 205) (zAs (sorted x.s.raw)) := zIm (i := 5) rfl (by decide)
theorem sk_t {i : Nat} (hi : i < 67) : zAg (zFl (zBq x) (133 + i)) (zLk x i) := by
 have h := encS_tab (sc := [x.s.n, x.s.now] ++ (x.s.cs ++ ([(x.k : Int)] ++ x.past.map fun l => (l.length : Int)))) (sc2 := x.s.fin.cs ++ [(x.s.raw.length : Int)]) (tb := [x.s.when_] ++ (x.s.k.list ++ x.past.map zAs)) (tb2 := [x.s.fin.when_] ++ (x.s.fin.k.list ++ [zAs (sorted x.s.raw)])) (a := 133 + i) (by omega) (by omega)
 have e : ([x.s.when_] ++ (x.s.k.list ++ x.past.map zAs))[133 + i - 128]? = (x.past.map zAs)[i]? := by
  rw [show 133 + i - 128 = i + 5 by omega]; rfl
 rw [e, List.getElem?_map] at h
 exact h
theorem sk_ws : zDg (wsE (zBq x) (v 0) (v 1) C0 (.tab 128) K0) x.s := by
 refine ⟨sk_0, sk_1, sk_w, sk_k, fun r hr => ?_⟩
 rcases (show r = 0 ∨ r = 1 ∨ r = 2 ∨ r = 3 by omega) with rfl | rfl | rfl | rfl
 ·exact sk_c (x := x) (i := 0) (by decide)
 ·exact sk_c (x := x) (i := 1) (by decide)
 ·exact sk_c (x := x) (i := 2) (by decide)
 ·exact sk_c (x := x) (i := 3) (by decide)
theorem encSk_mid {q : Int → List Int} (h : zEc x.s q) (hm : zEh x.s) (hnow : x.s.now + 1 ≤ 999000000) (hk : x.k ≤ 100000) (hp : ∀ l ∈ x.past, l.length ≤ 4096 ∧ ∀ t ∈ l, 0 ≤ t ∧ t < x.s.n) : ∀ j, In64 (zBq x j) := by
 obtain ⟨qt, qf, ha⟩ := zJo h hm hnow
 have hn := h.rep.n1
 have h0 := h.now0
 have hlen := ha.len
 have app : ∀ {α : Type} {p : α → Prop} {l m : List α}, (∀ x ∈ l, p x) → (∀ x ∈ m, p x) → ∀ x ∈ l ++ m, p x := fun h1 h2 x hx => (List.mem_append.1 hx).elim (h1 x) (h2 x)
 have one : ∀ {α : Type} {p : α → Prop} {a : α}, p a → ∀ x ∈ [a], p x := fun h1 x hx => by
  simp only [List.mem_cons, List.not_mem_nil, or_false] at hx
  subst hx; exact h1
 have two : ∀ {α : Type} {p : α → Prop} {a b : α}, p a → p b → ∀ x ∈ [a, b], p x := fun h1 h2 x hx => by
  simp only [List.mem_cons, List.not_mem_nil, or_false] at hx
  rcases hx with rfl | rfl
  ·exact h1
  ·exact h2
 refine encS_mid (app (two (i64 (by omega) (by omega)) (i64 (by omega) (by omega))) (app h.toWBase.cs_mid (app (one (i64 (by omega) (by omega))) fun y hy => ?_))) (app ha.fin.toWBase.cs_mid (one (i64 (by omega) (by omega)))) (app (one hm.w) (app (LK.list_mid hm.k) fun T hT => ?_)) (app (one ha.finM.w) (app (LK.list_mid ha.finM.k) (one (zBf fun t ht => raw_mid h ha t (zDx.1 ht)))))
 ·obtain ⟨l, hl, rfl⟩ := List.mem_map.1 hy
  have := (hp l hl).1
  exact i64 (by omega) (by omega)
 ·obtain ⟨l, hl, rfl⟩ := List.mem_map.1 hT
  refine zBf fun t ht => ?_
  have := (hp l hl).2 t ht
  exact i64 (by omega) (by omega)
end
theorem runs_at {j : Nat} (h : j ≤ 60) : runK j (csSkN j) [] = true ∧ runK j (csSk0 j) [tkSk fns false] = true ∧ runK j (csSkE j) [] = true ∧ runK j (csSk1 PG j) [tkSk fns true] = true := by
 have part : ∀ {a n : Nat}, (List.range n).all (fun j => runsK (a + j)) = true → a ≤ j → j < a + n → runsK j = true := fun {a n} hr h1 h2 => by
  have := List.all_eq_true.1 hr (j - a) (List.mem_range.2 (by omega))
  rw [show a + (j - a) = j by omega] at this
  exact this
 have : runsK j = true := by
  by_cases h0 : j < 21
  ·exact List.all_eq_true.1 runsAll0 j (List.mem_range.2 (by omega))
  by_cases h1 : j < 33
  ·exact part runsAll1 (by omega) (by omega)
  by_cases h2 : j < 43
  ·exact part runsAll2 (by omega) (by omega)
  by_cases h3 : j < 52
  ·exact part runsAll3 (by omega) (by omega)
  exact part runsAll4 (by omega) (by omega)
 unfold runsK at this
 simp only [Bool.and_eq_true] at this
 exact this
theorem good_sk {j : Nat} : zBk PG (shSk PG j) = true := by
 have := List.all_eq_true.1 goodSk (min j 61) (List.mem_range.2 (by omega))
 have e : shSk PG j = shSk PG (min j 61) := by unfold shSk; rw [show min (min j 61) 61 = min j 61 by omega]
 rw [e]; exact this
theorem ups_sk (j : Nat) : (shSk PG j).ups 68 66 = true := by
 have := List.all_eq_true.1 upsSk (min j 61) (List.mem_range.2 (by omega))
 have e : shSk PG j = shSk PG (min j 61) := by unfold shSk; rw [show min (min j 61) 61 = min j 61 by omega]
 rw [e]; exact this
theorem fxSk : zAl (shSk PG) 7 [false, false, false, false, false, false, false] := fun i => by
 refine ⟨?_, rfl, ?_⟩
 ·show 7 ≤ (zDr PG ++ rowO PG (min i 61)).length
  rw [List.length_append]
  exact Nat.le_add_right 7 _
 ·show ((rowO PG (min i 61)).all fun x => !x.fixed) = true
  unfold rowO
  split
  ·rfl
  ·rw [List.all_eq_true]
   intro x hx
   rcases List.mem_append.1 hx with hx | hx
   ·simp only [List.mem_cons, List.not_mem_nil, or_false] at hx
    subst hx; rfl
   ·obtain ⟨k, _, rfl⟩ := List.mem_map.1 hx
    rfl
theorem f1_get {j i : Nat} (hj : j ≤ 60) : ((fNx ++ ((List.range j).map lenV ++ [v 74]))[7 + i]?).getD (.var (7 + i)) = if i = j then v 74 else .var (7 + i) := by
 rw [Nat.add_comm 7 i]
 show ((((List.range j).map lenV ++ [v 74])[i]?).getD (.var (i + 7))) = _
 by_cases h : i < j
 ·rw [List.getElem?_append_left (by simpa using h), List.getElem?_map, List.getElem?_range h, if_neg (by omega)]
  show lenV i = _
  unfold lenV v
  rw [Nat.add_comm]
 ·rw [List.getElem?_append_right (by simpa using h)]
  simp only [List.length_map, List.length_range]
  by_cases e : i = j
  ·subst e
   rw [if_pos rfl, Nat.sub_self]; rfl
  ·rw [if_neg e]
   obtain ⟨d, hd⟩ : ∃ d, i - j = d + 1 := ⟨i - j - 1, by omega⟩
   rw [hd]
   show (SE.var (i + 7)) = _
   rw [Nat.add_comm]
theorem g1_get {j i : Nat} : ((gNx ++ (((List.range j).map fun i => SE.tab (lisT i)) ++ [.tab 205]))[133 + i - 128]?).getD (.tab (133 + i)) = if i = j then .tab 205 else .tab (133 + i) := by
 rw [show 133 + i - 128 = i + 5 by omega]
 show ((((List.range j).map fun i => SE.tab (lisT i)) ++ [SE.tab 205])[i]?).getD (.tab (133 + i)) = _
 by_cases h : i < j
 ·rw [List.getElem?_append_left (by simpa using h), List.getElem?_map, List.getElem?_range h, if_neg (by omega)]
  rfl
 ·rw [List.getElem?_append_right (by simpa using h)]
  simp only [List.length_map, List.length_range]
  by_cases e : i = j
  ·subst e
   rw [if_pos rfl, Nat.sub_self]; rfl
  ·rw [if_neg e]
   obtain ⟨d, hd⟩ : ∃ d, i - j = d + 1 := ⟨i - j - 1, by omega⟩
   rw [hd]
   rfl
theorem tk_sk (hC : zOd Tryz.prog zLp) {x : SkS} {q : Int → List Int} (h : zEc x.s q) (hm : zEh x.s) (hnow : x.s.now + 1 ≤ 999000000) {b : Bool} (hb : b = true ↔ x.s.raw ≠ []) [F : Facts] [V : zAc] (hV : V.env = zBq x) : zAj Tryz.prog [] (tkSk fns b) := by
 have w := sk_ws (x := x)
 obtain ⟨s', hs'⟩ : ∃ s', s' = wsE (zBq x) (v 0) (v 1) C0 (.tab 128) K0 := ⟨_, rfl⟩
 rw [← hs'] at w
 have hr := zJs w
 have hf := zMt w
 refine zNl (s := s') (q := q) hC (by rw [hV]; exact hs'.symm) (h.of w) (hm.of w) (by rw [w.now]; exact hnow) ?_ ?_ ?_ (fun r hr4 => ?_) ?_ ?_ (by rw [hr]; exact hb)
 all_goals rw [hV]
 ·rw [hr]; exact sk_m
 ·show zBq x 1 + 1 = s'.now + 1
  rw [sk_1, w.now]
 ·exact sk_w'.trans hf.w.symm
 ·rw [hf.c r hr4]
  rcases (show r = 0 ∨ r = 1 ∨ r = 2 ∨ r = 3 by omega) with rfl | rfl | rfl | rfl
  ·exact sk_d (x := x) (i := 0) (by decide)
  ·exact sk_d (x := x) (i := 1) (by decide)
  ·exact sk_d (x := x) (i := 2) (by decide)
  ·exact sk_d (x := x) (i := 3) (by decide)
 ·exact sk_k'.trans hf.k.symm
 ·rw [hr]; exact sk_T
theorem len_ev {x : SkS} : sumC.eval (zBq x) = x.s.len := by
 show zBq x 2 + zBq x 3 + zBq x 4 + zBq x 5 = x.s.c 0 + x.s.c 1 + x.s.c 2 + x.s.c 3
 rw [show zBq x 2 = x.s.c 0 from sk_c (i := 0) (by decide), show zBq x 3 = x.s.c 1 from sk_c (i := 1) (by decide), show zBq x 4 = x.s.c 2 from sk_c (i := 2) (by decide), show zBq x 5 = x.s.c 3 from sk_c (i := 3) (by decide)]
theorem pcSk_ok {x : SkS} {q : Int → List Int} (h : zEc x.s q) (hm : zEh x.s) (k1 : 1 ≤ x.k) (k2 : x.k ≤ 100000) : Fx (zBq x) pcSk := by
 refine .app (zDw h.toWBase hm sk_0 sk_1 fun r hr => sk_c hr) (zAv ?_ ?_)
 ·show (1 : Int) ≤ zBq x 6; rw [sk_6]; omega
 ·show zBq x 6 ≤ 100000; rw [sk_6]; omega
theorem sk_agree {x y : SkS} {f g : List SE} (h0 : (fvL f 0).eval (zBq x) = y.s.n) (h1 : (fvL f 1).eval (zBq x) = y.s.now) (hc : ∀ r, r < 4 → (fvL f (2 + r)).eval (zBq x) = y.s.c r) (h6 : (fvL f 6).eval (zBq x) = y.k)
  (hw : zAg (zAw (zBq x) (gvL g 128)) y.s.when_) (hk : zEi ⟨zAw (zBq x) (gvL g 129), zAw (zBq x) (gvL g 130), zAw (zBq x) (gvL g 131), zAw (zBq x) (gvL g 132)⟩ y.s.k)
  (hl : ∀ i, i < 61 → (fvL f (7 + i)).eval (zBq x) = lenOf y i) (ht : ∀ i, i < 61 → zAg (zAw (zBq x) (gvL g (133 + i))) (zLk y i)) : zCq 68 66 (zBb (fvL f) (gvL g) (zBq x)) (zBq y) := by
 refine zBg (by decide) (by decide) (fun i hi => ?_) (fun a a1 a2 => ?_)
 ·by_cases hi7 : i < 7
  ·rcases (show i = 0 ∨ i = 1 ∨ i = 2 ∨ i = 3 ∨ i = 4 ∨ i = 5 ∨ i = 6 by omega) with rfl | rfl | rfl | rfl | rfl | rfl | rfl
   ·exact h0.trans sk_0.symm
   ·exact h1.trans sk_1.symm
   ·exact (hc 0 (by decide)).trans (sk_c (x := y) (i := 0) (by decide)).symm
   ·exact (hc 1 (by decide)).trans (sk_c (x := y) (i := 1) (by decide)).symm
   ·exact (hc 2 (by decide)).trans (sk_c (x := y) (i := 2) (by decide)).symm
   ·exact (hc 3 (by decide)).trans (sk_c (x := y) (i := 3) (by decide)).symm
   ·exact h6.trans sk_6.symm
  ·obtain ⟨d, rfl⟩ : ∃ d, i = 7 + d := ⟨i - 7, by omega⟩
   exact (hl d (by omega)).trans (sk_len (by omega)).symm
 ·by_cases ha : a < 133
  ·have k := sk_k (x := y)
   rcases (show a = 128 ∨ a = 129 ∨ a = 130 ∨ a = 131 ∨ a = 132 by omega) with rfl | rfl | rfl | rfl | rfl
   ·exact hw.trans sk_w.symm
   ·exact hk.N.trans k.N.symm
   ·exact hk.B.trans k.B.symm
   ·exact hk.L.trans k.L.symm
   ·exact hk.C.trans k.C.symm
  ·obtain ⟨d, rfl⟩ : ∃ d, a = 133 + d := ⟨a - 133, by omega⟩
   exact (ht d (by omega)).trans (sk_t (by omega)).symm
theorem fvL_out {f : List SE} {i : Nat} (h : f.length ≤ i) : fvL f i = .var i := by
 unfold fvL
 rw [List.getElem?_eq_none h]
 rfl
theorem gvL_out {g : List SE} {a : Nat} (h : g.length ≤ a - 128) : gvL g a = .tab a := by
 unfold gvL
 rw [List.getElem?_eq_none h]
 rfl
theorem lenOf_more {s : WS} {k k' : Nat} {s' : WS} {p : List (List Int)} {l : List Int} {i : Nat} : lenOf ⟨s', k', p ++ [l]⟩ i = if i = p.length then (l.length : Int) else lenOf ⟨s, k, p⟩ i := by
 unfold lenOf
 show (((p ++ [l])[i]?).map fun l => (l.length : Int)).getD 0 = if i = p.length then (l.length : Int) else ((p[i]?).map fun l => (l.length : Int)).getD 0
 by_cases h : i < p.length
 ·rw [List.getElem?_append_left h, if_neg (by omega)]
 ·rw [List.getElem?_append_right (by omega)]
  by_cases e : i = p.length
  ·subst e
   rw [if_pos rfl, Nat.sub_self]; rfl
  ·rw [if_neg e, List.getElem?_eq_none (l := p) (by omega)]
   obtain ⟨d, hd⟩ : ∃ d, i - p.length = d + 1 := ⟨i - p.length - 1, by omega⟩
   rw [hd]; rfl
theorem tabOf_more {s : WS} {k k' : Nat} {s' : WS} {p : List (List Int)} {l : List Int} {i : Nat} : zLk ⟨s', k', p ++ [l]⟩ i = if i = p.length then zAs l else zLk ⟨s, k, p⟩ i := by
 unfold zLk
 show (((p ++ [l])[i]?).map zAs).getD zBj = if i = p.length then zAs l else ((p[i]?).map zAs).getD zBj
 by_cases h : i < p.length
 ·rw [List.getElem?_append_left h, if_neg (by omega)]
 ·rw [List.getElem?_append_right (by omega)]
  by_cases e : i = p.length
  ·subst e
   rw [if_pos rfl, Nat.sub_self]; rfl
  ·rw [if_neg e, List.getElem?_eq_none (l := p) (by omega)]
   obtain ⟨d, hd⟩ : ∃ d, i - p.length = d + 1 := ⟨i - p.length - 1, by omega⟩
   rw [hd]; rfl
theorem zIb.emid {N : Nat} {x : SkS} (h : zIb N x) : ∀ j, In64 (zBq x j) := by
 obtain ⟨q, hq⟩ := h.q
 have := h.now
 exact encSk_mid hq h.mid (by omega) h.k h.past
theorem sk_proof [F : Facts] [V : zAc] (hC : zOd Tryz.prog zLp) {n now now' k k' w w' : SE} {c c' : C4} {K K' : K4} {ls ts : List SE} {j ki : Nat} {s : WS} {e : SkS} (hs : wsE V.env n now c w K = s) (hk : k.eval V.env = ki) (h : zIb 60 ⟨s, ki, []⟩) (he : zCt ki ⟨s, ki, []⟩ = e) (hj : e.past.length = j)
  (hnow' : now'.eval V.env = e.s.now) (hk' : k'.eval V.env = e.k) (hc' : ∀ r, r < 4 → cE V.env c' r = e.s.c r) (hw' : zAg (zAw V.env w') e.s.when_) (hK' : zEi (lkE V.env K') e.s.k) (hll : ls.length ≤ 61) (htl : ts.length ≤ 61)
  (hls : ∀ i, i < 61 → ((ls[i]?).getD (.var (7 + i))).eval V.env = lenOf e i) (hts : ∀ i, i < 61 → zAg (zAw V.env ((ts[i]?).getD (.tab (133 + i)))) (zLk e i)) : zAp Tryz.prog [] (skS fSkip fns j n now now' c c' k k' w w' K K' ls ts) := by
 have hend := zGx h rfl
 rw [show zCt (SkS.mk s ki []).k ⟨s, ki, []⟩ = e from he] at hend
 have sn : n.eval V.env = s.n := by rw [← hs]; rfl
 have snow : now.eval V.env = s.now := by rw [← hs]; rfl
 have sc : ∀ i, cE V.env c i = s.c i := fun i => by rw [← hs]; rfl
 have sw : zAw V.env w = s.when_ := by rw [← hs]; rfl
 have sk : lkE V.env K = s.k := by rw [← hs]; rfl
 refine zFo (N := NN) (fuel := fuel) (skS fSkip fns j n now now' c c' k k' w w' K K' ls ts) zFe (fx := [false, false, false, false, false, false, false]) (b0 := zEf fSkip 6) isSkip fxSk (zCa rfl good_sk) (σ := SkS) zBq 68 66 (by decide) ups_sk (Nat.le_of_ble_eq_true rfl) (Nat.le_of_ble_eq_true rfl)
  (I := fun μ i x => i = x.past.length ∧ zIb 60 x ∧ zCt x.k x = e ∧ x.k = μ) (Post := fun ex i x => ex = .exit 0 ∧ i = x.past.length ∧ x = e) (fun B μ i x hI => ?_) ki ⟨s, ki, []⟩ ⟨rfl, h, he, rfl⟩ h.emid ?_ (fun ex i x hp => ?_)
 ·obtain ⟨rfl, hinv, hx, rfl⟩ := hI
  obtain ⟨q, hq⟩ := hinv.q
  have hwp := zLw (s := x.s)
  have hroom := hinv.room
  have hxk := hinv.k
  have hxnow := hinv.now
  have hj40 : x.past.length ≤ 60 := by omega
  obtain ⟨r1, r2, r3, r4⟩ := runs_at hj40
  by_cases hk0 : x.k = 0
  ·have hxe : x = e := by
    rw [hk0] at hx
    exact hx
   refine ⟨csSkE x.past.length, x, noLoops, zCg (csSkE x.past.length).pc [], zDo B _ _ _ (fun V hV S hS => by cases hS), ?_, ?_, Nat.zero_le _, Nat.zero_le _, hinv.emid, ?_, .inr ⟨by simp [csSkE], rfl, rfl, hxe⟩⟩
   ·have := r3
    exact this
   ·show Fx (zBq x) (pcW ++ [le (v 6) (L 0)])
    refine .app (zDw hq.toWBase hinv.mid sk_0 sk_1 fun r hr => sk_c hr) (zEb (zKv ?_))
    show zBq x 6 ≤ 0
    rw [sk_6]; omega
   ·exact zBg (by decide) (by decide) (fun i hi => rfl) (fun a h1 h2 => zAg.refl _)
  ·obtain ⟨m, hm⟩ : ∃ m, x.k = m + 1 := ⟨x.k - 1, by omega⟩
   have hx' := hx
   rw [hm] at hx'
   unfold zCt at hx'
   by_cases hl : x.s.len = 0
   ·rw [if_pos hl] at hx'
    have hw0 : x.s.wait = 0 := by rw [← zGl hq]; exact hl
    have jm : ∀ j, In64 (zBq x.jump j) := encSk_mid (x := x.jump) (jump_inv hq hw0 x.k) ⟨by show x.s.now + x.k ≤ 999000000; omega, hinv.mid.w, hinv.mid.k⟩ (by show x.s.now + x.k + 1 ≤ 999000000; omega) hinv.k hinv.past
    refine ⟨csSkN x.past.length, x.jump, noLoops, zCg (csSkN x.past.length).pc [], zDo B _ _ _ (fun V hV S hS => by cases hS), ?_, ?_, Nat.le_of_ble_eq_true rfl, Nat.zero_le _, jm, ?_, .inr ⟨by simp [csSkN], rfl, rfl, hx'⟩⟩
    ·have := r1
     exact this
    ·show Fx (zBq x) (pcSk ++ [eq sumC (L 0)])
     refine .app (pcSk_ok hq hinv.mid (by omega) hxk) (zEb (eq_ok ?_))
     rw [len_ev]; exact hl
    ·refine sk_agree (x := x) (y := x.jump) (f := [.var 0, add (v 1) (v 6)]) (g := []) sk_0 ?_ (fun r hr => ?_) sk_6 sk_w sk_k (fun i hi => ?_) (fun i hi => ?_)
     ·show zBq x 1 + zBq x 6 = x.s.now + x.k
      rw [sk_1, sk_6]
     ·rw [fvL_out (by show 2 ≤ 2 + r; omega)]
      exact sk_c hr
     ·rw [fvL_out (by show 2 ≤ 7 + i; omega)]
      exact sk_len (by omega)
     ·rw [gvL_out (Nat.zero_le _)]
      exact sk_t (by omega)
   ·rw [if_neg hl] at hx'
    obtain ⟨n1, n2, n3, n4, n5⟩ := hinv.next (by omega)
    have hkeep := zFw (s := x.s)
    have hxn : zCt x.next.k x.next = e := by
     rw [show x.next.k = m from by show x.k - 1 = m; omega]
     exact hx'
    have pcn : Fx (zBq x) (pcSk ++ [ne sumC (L 0)]) := by
     refine .app (pcSk_ok hq hinv.mid (by omega) hxk) (zEb (ne_ok ?_))
     rw [len_ev]; exact hl
    have fd : ∀ r, r < 4 → (fvL fNx (2 + r)).eval (zBq x) = x.s.fin.c r := fun r hr => by
     rcases (show r = 0 ∨ r = 1 ∨ r = 2 ∨ r = 3 by omega) with rfl | rfl | rfl | rfl
     ·exact sk_d (x := x) (i := 0) (by decide)
     ·exact sk_d (x := x) (i := 1) (by decide)
     ·exact sk_d (x := x) (i := 2) (by decide)
     ·exact sk_d (x := x) (i := 3) (by decide)
    have f0 : zBq x 0 = x.s.fin.n := by rw [sk_0, hkeep.1]
    have f1 : zBq x 1 + 1 = x.s.fin.now := by rw [sk_1, hkeep.2]
    have f6 : zBq x 6 + (-1) = ((x.k - 1 : Nat) : Int) := by rw [sk_6]; omega
    by_cases hr : x.s.raw = []
    ·have en : x.next = ⟨x.s.fin, x.k - 1, x.past⟩ := by unfold SkS.next; rw [if_pos hr]
     refine ⟨csSk0 x.past.length, x.next, noLoops, zCg (csSk0 x.past.length).pc [tkSk fns false], zDo B _ _ _ (fun V hV S hS => ?_), ?_, pcn, Nat.le_of_ble_eq_true rfl, Nat.le_of_ble_eq_true rfl, n1.emid, ?_, .inl ⟨rfl, x.k - 1, by omega, by rw [en]; rfl, n1, hxn, rfl⟩⟩
     ·simp only [List.mem_cons, List.not_mem_nil, or_false] at hS
      subst hS
      exact @tk_sk hC x q hq hinv.mid (by omega) false (by simp [hr]) ⟨_⟩ V hV
     ·have := r2
      exact this
     ·rw [en]
      refine sk_agree (x := x) (y := ⟨x.s.fin, x.k - 1, x.past⟩) (f := fNx) (g := gNx) f0 f1 fd f6 sk_w' sk_k' (fun i hi => ?_) (fun i hi => ?_)
      ·rw [fvL_out (by show 7 ≤ 7 + i; omega)]
       exact sk_len (by omega)
      ·rw [gvL_out (by show 5 ≤ 133 + i - 128; omega)]
       exact sk_t (by omega)
    ·have en : x.next = ⟨x.s.fin, x.k - 1, x.past ++ [sorted x.s.raw]⟩ := by unfold SkS.next; rw [if_neg hr]
     have hj39 : x.past.length + 1 ≤ 60 := by
      have := n5 hr
      omega
     obtain ⟨qt, qf, ha⟩ := zJo hq hinv.mid (by omega)
     have hlen := ha.len
     have hl1 : 1 ≤ x.s.raw.length := by
      cases e : x.s.raw with
      | nil => exact absurd e hr
      | cons a l => simp
     refine ⟨csSk1 PG x.past.length, x.next, noLoops, zCg (csSk1 PG x.past.length).pc [tkSk fns true], zDo B _ _ _ (fun V hV S hS => ?_), ?_, ?_, ?_, ?_, n1.emid, ?_, .inl ⟨rfl, x.k - 1, by omega, by rw [en]; simp [csSk1], n1, hxn, rfl⟩⟩
     ·simp only [List.mem_cons, List.not_mem_nil, or_false] at hS
      subst hS
      exact @tk_sk hC x q hq hinv.mid (by omega) true (by simp [hr]) ⟨_⟩ V hV
     ·have := r4
      exact this
     ·show Fx (zBq x) (pcSk ++ ([ne sumC (L 0)] ++ inR (L 1) (v 74) (L 4096)))
      rw [← List.append_assoc]
      refine .app pcn (zAv ?_ ?_)
      ·show (1 : Int) ≤ zBq x 74; rw [sk_m]; omega
      ·show zBq x 74 ≤ 4096; rw [sk_m]; omega
     ·show (fNx ++ ((List.range x.past.length).map lenV ++ [v 74])).length ≤ 68
      simp [fNx]; omega
     ·show (gNx ++ (((List.range x.past.length).map fun i => SE.tab (lisT i)) ++ [SE.tab 205])).length ≤ 66
      simp [gNx]; omega
     ·rw [en]
      refine sk_agree (x := x) (y := ⟨x.s.fin, x.k - 1, x.past ++ [sorted x.s.raw]⟩) (f := fNx ++ ((List.range x.past.length).map lenV ++ [v 74])) (g := gNx ++ (((List.range x.past.length).map fun i => SE.tab (lisT i)) ++ [SE.tab 205])) f0 f1 (fun r hr => ?_) f6 sk_w' sk_k' (fun i hi => ?_) (fun i hi => ?_)
      ·refine Eq.trans ?_ (fd r hr)
       rcases (show r = 0 ∨ r = 1 ∨ r = 2 ∨ r = 3 by omega) with rfl | rfl | rfl | rfl <;> rfl
      ·rw [lenOf_more (s := x.s) (k := x.k), zEt]
       unfold fvL
       rw [f1_get (by omega)]
       by_cases e : i = x.past.length
       ·rw [if_pos e, if_pos e]; exact sk_m
       ·rw [if_neg e, if_neg e]; exact sk_len (by omega)
      ·rw [tabOf_more (s := x.s) (k := x.k)]
       unfold gvL
       rw [g1_get]
       by_cases e : i = x.past.length
       ·rw [if_pos e, if_pos e]; exact sk_T
       ·rw [if_neg e, if_neg e]; exact sk_t (by omega)
 ·have hr : ∀ {α : Type} (a : α) (i : Nat), i < 61 → (List.replicate 61 a)[i]? = some a := fun a i hi => by rw [List.getElem?_replicate, if_pos hi]
  refine zBg (by decide) (by decide) (fun i hi => ?_) (fun a a1 a2 => ?_)
  ·by_cases hi7 : i < 7
   ·rcases (show i = 0 ∨ i = 1 ∨ i = 2 ∨ i = 3 ∨ i = 4 ∨ i = 5 ∨ i = 6 by omega) with rfl | rfl | rfl | rfl | rfl | rfl | rfl
    ·exact sn.trans (sk_0 (x := ⟨s, ki, []⟩)).symm
    ·exact snow.trans (sk_1 (x := ⟨s, ki, []⟩)).symm
    ·exact (sc 0).trans (sk_c (x := ⟨s, ki, []⟩) (i := 0) (by decide)).symm
    ·exact (sc 1).trans (sk_c (x := ⟨s, ki, []⟩) (i := 1) (by decide)).symm
    ·exact (sc 2).trans (sk_c (x := ⟨s, ki, []⟩) (i := 2) (by decide)).symm
    ·exact (sc 3).trans (sk_c (x := ⟨s, ki, []⟩) (i := 3) (by decide)).symm
    ·exact hk.trans (sk_6 (x := ⟨s, ki, []⟩)).symm
   ·obtain ⟨d, rfl⟩ : ∃ d, i = 7 + d := ⟨i - 7, by omega⟩
    refine Eq.trans ?_ (sk_len (x := ⟨s, ki, []⟩) (by omega)).symm
    rw [Nat.add_comm 7 d]
    show (((List.replicate 61 (L 0))[d]?).getD (.var (d + 7))).eval V.env = _
    rw [hr _ d (by omega)]
    rfl
  ·by_cases ha : a < 133
   ·have kk := sk_k (x := ⟨s, ki, []⟩)
    rcases (show a = 128 ∨ a = 129 ∨ a = 130 ∨ a = 131 ∨ a = 132 by omega) with rfl | rfl | rfl | rfl | rfl
    ·exact (show zAg (zAw V.env w) s.when_ by rw [sw]; exact .refl _).trans (sk_w (x := ⟨s, ki, []⟩)).symm
    ·exact (show zAg (lkE V.env K).N s.k.N by rw [sk]; exact .refl _).trans kk.N.symm
    ·exact (show zAg (lkE V.env K).B s.k.B by rw [sk]; exact .refl _).trans kk.B.symm
    ·exact (show zAg (lkE V.env K).L s.k.L by rw [sk]; exact .refl _).trans kk.L.symm
    ·exact (show zAg (lkE V.env K).C s.k.C by rw [sk]; exact .refl _).trans kk.C.symm
   ·obtain ⟨d, rfl⟩ : ∃ d, a = 133 + d := ⟨a - 133, by omega⟩
    refine zAg.trans ?_ (sk_t (x := ⟨s, ki, []⟩) (by omega)).symm
    have e1 : (skS fSkip fns j n now now' c c' k k' w w' K K' ls ts).g0v (133 + d) = zS := by
     show (((gW w K ++ List.replicate 61 zS)[133 + d - 128]?).getD (.tab (133 + d))) = zS
     rw [show 133 + d - 128 = d + 5 by omega]
     show (((List.replicate 61 zS)[d]?).getD (.tab (133 + d))) = zS
     rw [hr _ d (by omega)]; rfl
    rw [e1]
    exact zDq _
 ·obtain ⟨rfl, rfl, rfl⟩ := hp
  have hgl : ∀ T : List SE, (gW w' K' ++ T).length = 5 + T.length := fun T => by simp [gW, K4.list]; omega
  have hfl : ∀ T : List SE, (fSk n now' c' k' ++ T).length = 7 + T.length := fun T => by simp [fSk]; omega
  refine ⟨0, ⟨.exit 0, j, fSk n now' c' k' ++ ls, gW w' K' ++ ts⟩, rfl, rfl, hj.symm, by show (fSk n now' c' k' ++ ls).length ≤ 68; rw [hfl]; omega, by show (gW w' K' ++ ts).length ≤ 66; rw [hgl]; omega, zEa ?_⟩
  refine zBg (by decide) (by decide) (fun i hi => ?_) (fun a a1 a2 => ?_)
  ·by_cases hi7 : i < 7
   ·rcases (show i = 0 ∨ i = 1 ∨ i = 2 ∨ i = 3 ∨ i = 4 ∨ i = 5 ∨ i = 6 by omega) with rfl | rfl | rfl | rfl | rfl | rfl | rfl
    ·exact (sn.trans hend.n.symm).trans sk_0.symm
    ·exact hnow'.trans sk_1.symm
    ·exact (hc' 0 (by decide)).trans (sk_c (i := 0) (by decide)).symm
    ·exact (hc' 1 (by decide)).trans (sk_c (i := 1) (by decide)).symm
    ·exact (hc' 2 (by decide)).trans (sk_c (i := 2) (by decide)).symm
    ·exact (hc' 3 (by decide)).trans (sk_c (i := 3) (by decide)).symm
    ·exact hk'.trans sk_6.symm
   ·obtain ⟨d, rfl⟩ : ∃ d, i = 7 + d := ⟨i - 7, by omega⟩
    refine Eq.trans ?_ (sk_len (by omega)).symm
    refine Eq.trans ?_ (hls d (by omega))
    rw [Nat.add_comm 7 d]
    rfl
  ·by_cases ha : a < 133
   ·have kk := sk_k (x := x)
    rcases (show a = 128 ∨ a = 129 ∨ a = 130 ∨ a = 131 ∨ a = 132 by omega) with rfl | rfl | rfl | rfl | rfl
    ·exact hw'.trans sk_w.symm
    ·exact hK'.N.trans kk.N.symm
    ·exact hK'.B.trans kk.B.symm
    ·exact hK'.L.trans kk.L.symm
    ·exact hK'.C.trans kk.C.symm
   ·obtain ⟨d, rfl⟩ : ∃ d, a = 133 + d := ⟨a - 133, by omega⟩
    refine zAg.trans ?_ (sk_t (by omega)).symm
    refine zAg.trans ?_ (hts d (by omega))
    have e1 : ((⟨.exit 0, j, fSk n now' c' k' ++ ls, gW w' K' ++ ts⟩ : zBp).gv (133 + d)) = (ts[d]?).getD (.tab (133 + d)) := by
     show (((gW w' K' ++ ts)[133 + d - 128]?).getD (.tab (133 + d))) = _
     rw [show 133 + d - 128 = d + 5 by omega]
     rfl
    rw [e1]
    exact zAg.refl _
end Go.Proofs.YtaliacnncemneaaGreat.wheels
end
