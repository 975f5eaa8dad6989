/- Loops that add; a law's walk. Conditions: those that each theorem names. -/
import Derived.Test.YtaliacnncemneaaWheelSkip
import Derived.Test.YtaliacnncemneaaWheelShelf
open Go
noncomputable section

namespace Go.Proofs.Wheels
open Go.Abs

def T1u (a : Nat) (n : SE) : Blk := .arr [.i .u16] (.tab a) n true
def shA1 (G : Nat) : Nat → Shape
  | 0 => ⟨[(0, .sx .u16 (v 9)), (1, ss (G + 7) (v 7)), (5, .ptr G 0), (6, X 8), (30, ss (G + 7) (v 7)), (31, X 7), (32, X 6)], wheelB G ++ [T1u 133 (v 7)]⟩
  | _ => ⟨[(0, .sx .u16 (v 9)), (1, ss (G + 7) (v 7)), (5, .ptr G 0), (6, X 8)], wheelB G ++ [T1u 133 (v 7)]⟩
def shA2 (G : Nat) : Nat → Shape
  | 0 => ⟨[(1, ss (G + 7) (v 7)), (13, .ptr G 0), (83, ss (G + 7) (v 7)), (84, X 7), (85, X 6)], wheelB G ++ [T1u 133 (v 7)]⟩
  | _ => ⟨[(1, ss (G + 7) (v 7)), (13, .ptr G 0)], wheelB G ++ [T1u 133 (v 7)]⟩
def remE (m : Int) : SE := .rem (sel 133 (v 6)) (L m)
def aE (m : Int) : SE := add (L 1) (remE m)
def C10 : C4 := ⟨v 10, v 11, v 12, v 13⟩
def K134 : K4 := ⟨.tab 134, .tab 135, .tab 136, .tab 137⟩
def wAd (m : Int) : SE := .upd (.tab 128) (v 6) 0 (add (v 1) (aE m))
def adS (f : Fns) (m : Int) : FunSpec := addS 9 f (v 0) (v 1) C0 C10 (v 6) (aE m) (.tab 128) (wAd m) K0 K134
def pcA1 (m : Int) : List (SB × Bool) := pcW ++ ([nle (v 7) (v 6), le (L 0) (v 6), le (v 6) (L 39), le (v 7) (L 40), le (v 6) (add (v 7) (L (-1)))] ++ (inR (L 0) (sel 133 (v 6)) (L 65535) ++ inR (L 0) (remE m) (L (m - 1))))
def moreS (m : Int) (more : Bool) : SB × Bool := if more then nle (aE m) (v 8) else le (aE m) (v 8)
def csAd (m : Int) (mx more : Bool) : Case := ⟨pcA1 m ++ (if mx then [moreS m more] else []), .normal, 0, [.var 0, .var 1, v 10, v 11, v 12, v 13, add (v 6) (L 1), v 7, if mx && more then aE m else v 8, v 9], [wAd m, .tab 134, .tab 135, .tab 136, .tab 137, .tab 133], []⟩
def csAdE (e : Ex) : Case := ⟨pcW ++ [le (v 7) (v 6)], e, 1, [], [], []⟩
def nmA1 (st : St) (s : HS) : List Nat := wheelOf s (st.t.get 5) ++ ssOf (st.t.get 1)
def nmA2 (st : St) (s : HS) : List Nat := wheelOf s (st.t.get 13) ++ ssOf (st.t.get 1)
def fA1 (n now : SE) (c : C4) (i len most start : SE) : List SE := [n, now, c.a, c.b, c.c, c.d, i, len, most, start]
def gA1 (w : SE) (K : K4) (A : SE) : List SE := [w, K.a, K.b, K.c, K.d, A]
/-- The loop that adds. -/
def adL (fn key nt : Nat) (sh : Nat → Shape) (nm : St → HS → List Nat) (e : Ex) (n now : SE) (c c' : C4) (len most' start : SE) (w w' : SE) (K K' : K4) (A : SE) : LoopSpec :=
  ⟨fn, key, nt, sh, fA1 n now c (L 0) len (L 0) start, gA1 w K A, nm, [⟨e, 1, fA1 n now c' len len most' start, gA1 w' K' A⟩], 8⟩

/-! ### What is added -/

def addA (A : TT) (m : Int) (t : Nat) : Int := 1 + A t 0 % m
def adds (A : TT) (m : Int) (s : WS) : Nat → WS
  | 0 => s
  | i + 1 => (adds A m s i).add i (addA A m i)
def mostA (A : TT) (m : Int) (mx : Bool) : Nat → Int
  | 0 => 0
  | i + 1 => if mx then (if mostA A m mx i < addA A m i then addA A m i else mostA A m mx i) else 0

structure AdI (A : TT) (m : Int) (s : WS) (i : Nat) : Prop where
  q : ∃ q, WInv (adds A m s i) q
  n : (adds A m s i).n = s.n
  now : (adds A m s i).now = s.now
  w : ∀ t : Int, 0 ≤ t → t < s.n → g0 (adds A m s i).when_ t = if t < i then s.now + addA A m t.toNat else 0

theorem addA_in {A : TT} {m : Int} {t : Nat} (m1 : 1 ≤ m) (m2 : m ≤ 65535) : 1 ≤ addA A m t ∧ addA A m t ≤ 65535 := by
  have h1 := Int.emod_nonneg (A t 0) (show m ≠ 0 by omega)
  have h2 := Int.emod_lt_of_pos (A t 0) (show 0 < m by omega)
  unfold addA
  omega
theorem adds_inv {A : TT} {m : Int} {s : WS} {q : Int → List Int} (h : WInv s q) (hz : ∀ t, 0 ≤ t → t < s.n → g0 s.when_ t = 0) (m1 : 1 ≤ m) (m2 : m ≤ 65535) : ∀ {i : Nat}, (i : Int) ≤ s.n → AdI A m s i := by
  intro i
  induction i with
  | zero => intro _; exact ⟨⟨q, h⟩, rfl, rfl, fun t t0 t1 => by rw [if_neg (by omega)]; exact hz t t0 t1⟩
  | succ i ih =>
    intro hi
    have d := ih (by omega)
    obtain ⟨q', hq⟩ := d.q
    obtain ⟨a1, a2⟩ := addA_in (A := A) (t := i) m1 m2
    have hw : g0 (adds A m s i).when_ i = 0 := by
      rw [d.w i (by omega) (by omega), if_neg (by omega)]
    obtain ⟨q2, h2⟩ := add_inv hq (t := i) (a := addA A m i) (by omega) (by rw [d.n]; omega) hw a1 a2
    refine ⟨⟨q2, h2⟩, d.n, d.now, fun t t0 t1 => ?_⟩
    show g0 (up (adds A m s i).when_ i ((adds A m s i).now + addA A m i)) t = _
    rw [up_at t0, d.now]
    by_cases e : t = i
    · subst e
      rw [if_pos rfl, if_pos (by omega)]
      rfl
    · rw [if_neg e, d.w t t0 t1]
      by_cases e2 : t < i
      · rw [if_pos e2, if_pos (by omega)]
      · rw [if_neg e2, if_neg (by omega)]
theorem most_in {A : TT} {m : Int} {mx : Bool} (m1 : 1 ≤ m) (m2 : m ≤ 65535) : ∀ {i : Nat}, 0 ≤ mostA A m mx i ∧ mostA A m mx i ≤ 65535 := by
  intro i
  induction i with
  | zero => exact ⟨Int.le_refl _, by show (0 : Int) ≤ 65535; omega⟩
  | succ i ih =>
    have := addA_in (A := A) (t := i) m1 m2
    unfold mostA
    split
    · split <;> omega
    · omega
theorem most_ge {A : TT} {m : Int} : ∀ {i t : Nat}, t < i → addA A m t ≤ mostA A m true i := by
  intro i
  induction i with
  | zero => intro t h; omega
  | succ i ih =>
    intro t h
    unfold mostA
    rw [if_pos rfl]
    by_cases e : t = i
    · subst e
      split <;> omega
    · have := ih (t := t) (by omega)
      split <;> omega
end Go.Proofs.Wheels
namespace Go.Proofs.Ytaliacnncemneaa.wheels
open Go.Abs Go.Proofs.Wheels

theorem adds_mid {A : TT} {m : Int} {s : WS} {q : Int → List Int} (h : WInv s q) (hm : WMid s) (hz : ∀ t, 0 ≤ t → t < s.n → g0 s.when_ t = 0) (m1 : 1 ≤ m) (m2 : m ≤ 65535) : ∀ {i : Nat}, (i : Int) ≤ s.n → WMid (adds A m s i) := by
  intro i
  induction i with
  | zero => intro _; exact hm
  | succ i ih =>
    intro hi
    have d := adds_inv h hz m1 m2 (A := A) (i := i) (by omega)
    obtain ⟨q', hq⟩ := d.q
    obtain ⟨a1, a2⟩ := addA_in (A := A) (t := i) m1 m2
    exact add_mid hq (ih (by omega)) (by omega) (by rw [d.n]; omega) a1 a2

set_option maxRecDepth 1000000
theorem run_ad1 : runR 3 10 125 (shA1 PG) 8 0 (csAd 65535 true true) [adS fns 65535] = true := by kernel_rfl
theorem run_ad2 : runR 3 10 125 (shA1 PG) 8 0 (csAd 65535 true false) [adS fns 65535] = true := by kernel_rfl
theorem run_ad3 : runR 3 10 125 (shA1 PG) 8 0 (csAdE (.exit 0)) [] = true := by kernel_rfl
theorem run_ad4 : runR 3 28 125 (shA2 PG) 8 0 (csAd 200 false false) [adS fns 200] = true := by kernel_rfl
theorem run_ad5 : runR 3 28 125 (shA2 PG) 8 0 (csAdE (.exit 4)) [] = true := by kernel_rfl
theorem isAd1 : ((Try.prog.funcs[3]?).bind (·.body)).map (fun c => loopsKey 10 (subs c)) = some [bodyK 3 10] := by kernel_rfl
theorem isAd2 : ((Try.prog.funcs[3]?).bind (·.body)).map (fun c => loopsKey 28 (subs c)) = some [bodyK 3 28] := by kernel_rfl
theorem fxA1 : ShapesOK (shA1 PG) 8 [false, false, false, false, false, false, false, true] := fun i => by rcases i with _ | i <;> exact ⟨Nat.le_refl _, rfl, rfl⟩
theorem fxA2 : ShapesOK (shA2 PG) 8 [false, false, false, false, false, false, false, true] := fun i => by rcases i with _ | i <;> exact ⟨Nat.le_refl _, rfl, rfl⟩
theorem goodAd1 : goodAt PG (shA1 PG 1) = true := by kernel_rfl
theorem goodAd2 : goodAt PG (shA2 PG 1) = true := by kernel_rfl
theorem upsA1 : ∀ i, (shA1 PG i).ups 10 6 = true := fun i => by rcases i with _ | i <;> kernel_rfl
theorem upsA2 : ∀ i, (shA2 PG i).ups 10 6 = true := fun i => by rcases i with _ | i <;> kernel_rfl
end Go.Proofs.Ytaliacnncemneaa.wheels

namespace Go.Proofs.Wheels
open Go.Abs
theorem add_congr {s s' : WS} (h : WSEq s s') {t a : Int} : WSEq (s.add t a) (s'.add t a) :=
  inn_eq (s := s.at_ t a) (s' := s'.at_ t a) ⟨h.n, h.now, up_eq h.w rfl (by rw [h.now]), h.k, h.c⟩ rfl
end Go.Proofs.Wheels
namespace Go.Proofs.Ytaliacnncemneaa.wheels
open Go.Abs Go.Proofs.Wheels

/-- What the kernel runs. -/
structure AdRuns (fn key nt : Nat) (sh : Nat → Shape) (ex : Ex) (m : Int) (mx : Bool) : Prop where
  is : ((Try.prog.funcs[fn]?).bind (·.body)).map (fun c => loopsKey key (subs c)) = some [bodyK fn key]
  fx : ShapesOK sh 8 [false, false, false, false, false, false, false, true]
  good : goodAt PG (sh 1) = true
  ups : ∀ i, (sh i).ups 10 6 = true
  go : ∀ more, runR fn key nt sh 8 0 (csAd m mx more) [adS fns m] = true
  last : runR fn key nt sh 8 0 (csAdE ex) [] = true
  m : 1 ≤ m ∧ m ≤ 65535
  ex : ex ≠ .normal
theorem adRuns1 : AdRuns 3 10 125 (shA1 PG) (.exit 0) 65535 true := ⟨isAd1, fxA1, goodAd1, upsA1, fun more => match more with | true => run_ad1 | false => run_ad2, run_ad3, by decide, by simp⟩
theorem adRuns2 : AdRuns 3 28 125 (shA2 PG) (.exit 4) 200 false := ⟨isAd2, fxA2, goodAd2, upsA2, fun more => match more with | true => run_ad4 | false => run_ad4, run_ad5, by decide, by simp⟩

section
variable (A : TT) (m : Int) (mx : Bool) (s : WS) (len : Nat) (st : Int)
def nxA (i : Nat) : WS := if i < len then adds A m s (i + 1) else adds A m s i
def encAd (i : Nat) : Nat → Int :=
  encL ([s.n, s.now] ++ ((adds A m s i).cs ++ ([(i : Int), len, mostA A m mx i, st] ++ (nxA A m s len i).cs))) ([(adds A m s i).when_] ++ ((adds A m s i).k.list ++ ([A] ++ (nxA A m s len i).k.list)))
end
section
variable {A : TT} {m : Int} {mx : Bool} {s : WS} {len : Nat} {st : Int} {i : Nat}
theorem ad_0 : encAd A m mx s len st i 0 = s.n := encL_one rfl (by decide)
theorem ad_1 : encAd A m mx s len st i 1 = s.now := encL_one rfl (by decide)
theorem ad_6 : encAd A m mx s len st i 6 = i := encL_one rfl (by decide)
theorem ad_7 : encAd A m mx s len st i 7 = len := encL_one rfl (by decide)
theorem ad_8 : encAd A m mx s len st i 8 = mostA A m mx i := encL_one rfl (by decide)
theorem ad_9 : encAd A m mx s len st i 9 = st := encL_one rfl (by decide)
theorem ad_c {r : Nat} (hr : r < 4) : encAd A m mx s len st i (2 + r) = (adds A m s i).c r := by
  rcases (show r = 0 ∨ r = 1 ∨ r = 2 ∨ r = 3 by omega) with rfl | rfl | rfl | rfl <;> exact encL_one rfl (by decide)
theorem ad_d {r : Nat} (hr : r < 4) : encAd A m mx s len st i (10 + r) = (nxA A m s len i).c r := by
  rcases (show r = 0 ∨ r = 1 ∨ r = 2 ∨ r = 3 by omega) with rfl | rfl | rfl | rfl <;> exact encL_one rfl (by decide)
theorem ad_w : RowEq (tabE (encAd A m mx s len st i) 128) (adds A m s i).when_ := encL_tab rfl (by decide) (by decide)
theorem ad_A : RowEq (tabE (encAd A m mx s len st i) 133) A := encL_tab rfl (by decide) (by decide)
theorem ad_k : LKEq (lkT (encAd A m mx s len st i) 129) (adds A m s i).k := ⟨encL_tab rfl (by decide) (by decide), encL_tab rfl (by decide) (by decide), encL_tab rfl (by decide) (by decide), encL_tab rfl (by decide) (by decide)⟩
theorem ad_k' : LKEq (lkT (encAd A m mx s len st i) 134) (nxA A m s len i).k := ⟨encL_tab rfl (by decide) (by decide), encL_tab rfl (by decide) (by decide), encL_tab rfl (by decide) (by decide), encL_tab rfl (by decide) (by decide)⟩

theorem encAd_mid {q : Int → List Int} (h : WInv s q) (hm : WMid s) (hz : ∀ t, 0 ≤ t → t < s.n → g0 s.when_ t = 0) (m1 : 1 ≤ m ∧ m ≤ 65535) (hA : MidT A) (hst : In64 st) (hi : i ≤ len) (hl : (len : Int) ≤ s.n) : ∀ j, In64 (encAd A m mx s len st i j) := by
  have hn := h.rep.n1
  have h0 := h.now0
  have hnow := hm.now
  have d := adds_inv h hz m1.1 m1.2 (A := A) (i := i) (by omega)
  have dm := adds_mid h hm hz m1.1 m1.2 (A := A) (i := i) (by omega)
  obtain ⟨q1, d1⟩ := d.q
  have mo := most_in (A := A) (mx := mx) (i := i) m1.1 m1.2
  obtain ⟨x1, x2⟩ : (∀ y ∈ (nxA A m s len i).cs, In64 y) ∧ LKMid (nxA A m s len i).k := by
    unfold nxA
    split
    · rename_i hlt
      have e := adds_inv h hz m1.1 m1.2 (A := A) (i := i + 1) (by omega)
      have em := adds_mid h hm hz m1.1 m1.2 (A := A) (i := i + 1) (by omega)
      obtain ⟨q2, e1⟩ := e.q
      exact ⟨e1.toWBase.cs_mid, em.k⟩
    · exact ⟨d1.toWBase.cs_mid, dm.k⟩
  have app : ∀ {α : Type} {p : α → Prop} {l m : List α}, (∀ x ∈ l, p x) → (∀ x ∈ m, p x) → ∀ x ∈ l ++ m, p x := fun h1 h2 x hx => (List.mem_append.1 hx).elim (h1 x) (h2 x)
  have one : ∀ {α : Type} {p : α → Prop} {a : α}, p a → ∀ x ∈ [a], p x := fun h1 x hx => by
    simp only [List.mem_cons, List.not_mem_nil, or_false] at hx
    subst hx; exact h1
  have two : ∀ {α : Type} {p : α → Prop} {a b : α}, p a → p b → ∀ x ∈ [a, b], p x := fun h1 h2 x hx => by
    simp only [List.mem_cons, List.not_mem_nil, or_false] at hx
    rcases hx with rfl | rfl
    · exact h1
    · exact h2
  refine encL_mid (app (two (i64 (by omega) (by omega)) (i64 (by omega) (by omega))) (app d1.toWBase.cs_mid (app (l := [(i : Int), len]) (m := [mostA A m mx i, st] ++ _) (two (i64 (by omega) (by omega)) (i64 (by omega) (by omega))) (app (two (i64 (by omega) (by omega)) hst) x1)))) (app (one dm.w) (app (LK.list_mid dm.k) (app (one hA) (LK.list_mid x2))))

theorem ad_ws (d : AdI A m s i) : WSEq (wsE (encAd A m mx s len st i) (v 0) (v 1) C0 (.tab 128) K0) (adds A m s i) := by
  refine ⟨(show encAd A m mx s len st i 0 = s.n from ad_0).trans d.n.symm, (show encAd A m mx s len st i 1 = s.now from ad_1).trans d.now.symm, ad_w, ad_k, fun r hr => ?_⟩
  rcases (show r = 0 ∨ r = 1 ∨ r = 2 ∨ r = 3 by omega) with rfl | rfl | rfl | rfl
  · exact (show encAd A m mx s len st i 2 = _ from ad_c (r := 0) (by decide))
  · exact (show encAd A m mx s len st i 3 = _ from ad_c (r := 1) (by decide))
  · exact (show encAd A m mx s len st i 4 = _ from ad_c (r := 2) (by decide))
  · exact (show encAd A m mx s len st i 5 = _ from ad_c (r := 3) (by decide))

theorem ad_rem (hA : 0 ≤ A i 0) : (remE m).eval (encAd A m mx s len st i) = A i 0 % m := by
  have e : (sel 133 (v 6)).eval (encAd A m mx s len st i) = A i 0 := by
    refine (sel_eval _ 133 (v 6)).trans ?_
    rw [show (v 6).eval (encAd A m mx s len st i) = i from ad_6, ad_A.g]
    rfl
  show ((sel 133 (v 6)).eval (encAd A m mx s len st i)).tmod m = _
  rw [e, tmod_pos hA]
theorem ad_a (hA : 0 ≤ A i 0) : (aE m).eval (encAd A m mx s len st i) = addA A m i := by
  show 1 + (remE m).eval (encAd A m mx s len st i) = _
  rw [ad_rem hA]; rfl

theorem ad_fun {q : Int → List Int} (h : WInv s q) (hm : WMid s) (hz : ∀ t, 0 ≤ t → t < s.n → g0 s.when_ t = 0) (m1 : 1 ≤ m ∧ m ≤ 65535) (hA : 0 ≤ A i 0) (hi : i < len) (hl : (len : Int) ≤ s.n) [F : Facts] [V : Vals] (hV : V.env = encAd A m mx s len st i) : FunProof Try.prog [] (adS fns m) := by
  have d := adds_inv h hz m1.1 m1.2 (A := A) (i := i) (by omega)
  have dm := adds_mid h hm hz m1.1 m1.2 (A := A) (i := i) (by omega)
  obtain ⟨q1, d1⟩ := d.q
  obtain ⟨a1, a2⟩ := addA_in (A := A) (t := i) m1.1 m1.2
  have w := ad_ws (mx := mx) (len := len) (st := st) d
  have hw0 : g0 (adds A m s i).when_ i = 0 := by
    rw [d.w i (by omega) (by omega), if_neg (by omega)]
  obtain ⟨s', hs'⟩ : ∃ s', s' = wsE (encAd A m mx s len st i) (v 0) (v 1) C0 (.tab 128) K0 := ⟨_, rfl⟩
  rw [← hs'] at w
  have hx : nxA A m s len i = (adds A m s i).add i (addA A m i) := if_pos hi
  have c := add_congr w (t := i) (a := addA A m i)
  rw [← hx] at c
  refine add_proof (s := s') (q := q1) (ti := i) (ai := addA A m i) (by rw [hV]; exact hs'.symm) (d1.of w) (dm.of w) (by rw [hV]; exact (show encAd A m mx s len st i 6 = (i : Int) from ad_6)) (by rw [hV]; exact ad_a hA) (by omega) (by rw [w.n, d.n]; omega) (by rw [w.w.g]; exact hw0) a1 a2 ?_ (fun r hr => ?_) ?_
  all_goals rw [hV]
  · refine up_eq ?_ (show encAd A m mx s len st i 6 = (i : Int) from ad_6) ?_
    · exact ad_w.trans w.w.symm
    · show encAd A m mx s len st i 1 + (aE m).eval (encAd A m mx s len st i) = s'.now + addA A m i
      rw [ad_1, ad_a hA, w.now, d.now]
  · rw [c.c r hr]
    rcases (show r = 0 ∨ r = 1 ∨ r = 2 ∨ r = 3 by omega) with rfl | rfl | rfl | rfl
    · exact (show encAd A m mx s len st i 10 = _ from ad_d (r := 0) (by decide))
    · exact (show encAd A m mx s len st i 11 = _ from ad_d (r := 1) (by decide))
    · exact (show encAd A m mx s len st i 12 = _ from ad_d (r := 2) (by decide))
    · exact (show encAd A m mx s len st i 13 = _ from ad_d (r := 3) (by decide))
  · exact ad_k'.trans c.k.symm
end
end Go.Proofs.Ytaliacnncemneaa.wheels

namespace Go.Proofs.Ytaliacnncemneaa.wheels
open Go.Abs Go.Proofs.Wheels

theorem ads_proof [F : Facts] [V : Vals] {fn key nt : Nat} {sh : Nat → Shape} {nm : St → HS → List Nat} {ex : Ex} {m : Int} {mx : Bool} (R : AdRuns fn key nt sh ex m mx) {n now len most' start w w' Ae : SE} {c c' : C4} {K K' : K4} {s : WS} {q : Int → List Int} {A : TT} {ln : Nat}
    (hs : wsE V.env n now c w K = s) (h : WInv s q) (hm : WMid s) (hz : ∀ t, 0 ≤ t → t < s.n → g0 s.when_ t = 0) (hln : (ln : Int) ≤ s.n) (hl40 : ln ≤ 40) (hlen : len.eval V.env = ln) (hA : RowEq (rowE V.env Ae) A) (hAm : MidT A) (hAr : ∀ t, t < ln → 0 ≤ A t 0 ∧ A t 0 ≤ 65535)
    (hst : In64 (start.eval V.env)) (hmost : most'.eval V.env = mostA A m mx ln) (hc' : ∀ r, r < 4 → cE V.env c' r = (adds A m s ln).c r) (hw' : RowEq (rowE V.env w') (adds A m s ln).when_) (hK' : LKEq (lkE V.env K') (adds A m s ln).k) :
    LoopProof Try.prog [] (adL fn key nt sh nm ex n now c c' len most' start w w' K K' Ae) := by
  have m1 := R.m
  have sn : n.eval V.env = s.n := by rw [← hs]; rfl
  have snow : now.eval V.env = s.now := by rw [← hs]; rfl
  have sc : ∀ i, cE V.env c i = s.c i := fun i => by rw [← hs]; rfl
  have sw : rowE V.env w = s.when_ := by rw [← hs]; rfl
  have sk : lkE V.env K = s.k := by rw [← hs]; rfl
  obtain ⟨st, hste⟩ : ∃ st, st = start.eval V.env := ⟨_, rfl⟩
  rw [← hste] at hst
  obtain ⟨E, hE⟩ : ∃ E, E = encAd A m mx s ln st := ⟨_, rfl⟩
  have emid : ∀ i, i ≤ ln → ∀ j, In64 (E i j) := fun i hi => by rw [hE]; exact encAd_mid h hm hz m1 hAm hst hi hln
  have E0 : ∀ i, E i 0 = s.n := fun i => by rw [hE]; exact ad_0
  have E1 : ∀ i, E i 1 = s.now := fun i => by rw [hE]; exact ad_1
  have E6 : ∀ i, E i 6 = i := fun i => by rw [hE]; exact ad_6
  have E7 : ∀ i, E i 7 = ln := fun i => by rw [hE]; exact ad_7
  have E8 : ∀ i, E i 8 = mostA A m mx i := fun i => by rw [hE]; exact ad_8
  have E9 : ∀ i, E i 9 = st := fun i => by rw [hE]; exact ad_9
  have Ec : ∀ i r, r < 4 → E i (2 + r) = (adds A m s i).c r := fun i r hr => by rw [hE]; exact ad_c hr
  have Ed : ∀ i r, r < 4 → E i (10 + r) = (nxA A m s ln i).c r := fun i r hr => by rw [hE]; exact ad_d hr
  have Ew : ∀ i, RowEq (tabE (E i) 128) (adds A m s i).when_ := fun i => by rw [hE]; exact ad_w
  have EA : ∀ i, RowEq (tabE (E i) 133) A := fun i => by rw [hE]; exact ad_A
  have Ek : ∀ i, LKEq (lkT (E i) 129) (adds A m s i).k := fun i => by rw [hE]; exact ad_k
  have Ek' : ∀ i, LKEq (lkT (E i) 134) (nxA A m s ln i).k := fun i => by rw [hE]; exact ad_k'
  refine spec_proof2 (N := NN) (fuel := fuel) (adL fn key nt sh nm ex n now c c' len most' start w w' K K' Ae) noTabs (fx := [false, false, false, false, false, false, false, true]) (b0 := bodyK fn key) R.is R.fx (good_one rfl R.good) (σ := Nat) E 10 6 (by decide) R.ups (Nat.le_refl _) (Nat.le_refl _)
    (I := fun μ j i => j = 0 ∧ i ≤ ln ∧ μ = ln - i) (Post := fun e j i => e = ex ∧ j = 1 ∧ i = ln) (fun B μ j i hI => ?_) ln 0 ⟨rfl, Nat.zero_le _, rfl⟩ (emid 0 (Nat.zero_le _)) ?_ (fun e j i hp => ?_)
  · obtain ⟨rfl, hi, rfl⟩ := hI
    have d := adds_inv h hz m1.1 m1.2 (A := A) (i := i) (by omega)
    have dm := adds_mid h hm hz m1.1 m1.2 (A := A) (i := i) (by omega)
    obtain ⟨q1, d1⟩ := d.q
    have pw : Fx (E i) pcW := ws_facts d1.toWBase dm ((E0 i).trans d.n.symm) ((E1 i).trans d.now.symm) fun r hr => Ec i r hr
    have v6 : (v 6).eval (E i) = i := E6 i
    have v7 : (v 7).eval (E i) = ln := E7 i
    have v8 : (v 8).eval (E i) = mostA A m mx i := E8 i
    by_cases hlt : i < ln
    · obtain ⟨A0, A1⟩ := hAr i hlt
      have er : (remE m).eval (E i) = A i 0 % m := by rw [hE]; exact ad_rem A0
      have ea : (aE m).eval (E i) = addA A m i := by rw [hE]; exact ad_a A0
      have es : (sel 133 (Wheels.v 6)).eval (E i) = A i 0 := by
        refine (sel_eval _ 133 (Wheels.v 6)).trans ?_
        rw [v6, (EA i).g]
        rfl
      have hx : nxA A m s ln i = adds A m s (i + 1) := if_pos hlt
      have hk' := Ek' i
      have hd := Ed i
      rw [hx] at hk' hd
      obtain ⟨more, hmore⟩ : ∃ more : Bool, more = decide (mostA A m mx i < addA A m i) := ⟨_, rfl⟩
      have run := R.go more
      have rl1 := Int.emod_nonneg (A i 0) (show m ≠ 0 by omega)
      have rl2 := Int.emod_lt_of_pos (A i 0) (show 0 < m by omega)
      refine ⟨csAd m mx more, i + 1, noLoops, callF (csAd m mx more).pc [adS fns m], noRnd B _ _ _ (fun V hV S hS => ?_), ?_, ?_, Nat.le_refl _, Nat.le_refl _, emid (i + 1) hlt, ?_, .inl ⟨rfl, ln - (i + 1), by omega, rfl, hlt, rfl⟩⟩
      · simp only [List.mem_cons, List.not_mem_nil, or_false] at hS
        subst hS
        exact @ad_fun A m mx s ln st i q h hm hz m1 A0 hlt hln ⟨_⟩ V (by rw [hV, hE])
      · exact run
      · show Fx (E i) (pcA1 m ++ (if mx then [moreS m more] else []))
        refine .app (.app pw (.app (.cons (nle_ok ?_) (.cons (le_ok ?_) (.cons (le_ok ?_) (.cons (le_ok ?_) (.cons (le_ok ?_) .nil))))) (.app (inR_ok ?_ ?_) (inR_ok ?_ ?_)))) ?_
        · rw [v6, v7]; omega
        · rw [v6]; show (0 : Int) ≤ _; omega
        · rw [v6]; show _ ≤ (39 : Int); omega
        · rw [v7]; show _ ≤ (40 : Int); omega
        · rw [v6]; show _ ≤ (Wheels.v 7).eval (E i) + (-1); rw [v7]; omega
        · rw [es]; exact A0
        · rw [es]; exact A1
        · rw [er]; exact rl1
        · rw [er]; show _ ≤ m - 1; omega
        · cases hmx : mx with
          | false => exact .nil
          | true =>
            rw [if_pos rfl]
            refine one_ok ?_
            rw [hmx] at v8 hmore
            unfold moreS
            by_cases hb : mostA A m true i < addA A m i
            · rw [hmore, decide_eq_true hb, if_pos rfl]
              exact nle_ok (by rw [ea, v8]; exact hb)
            · rw [hmore, decide_eq_false hb, if_neg (by simp)]
              exact le_ok (by rw [ea, v8]; omega)
      · refine agree_of (by decide) (by decide) (fun a ha => ?_) (fun a h1 h2 => ?_)
        · rcases (show a = 0 ∨ a = 1 ∨ a = 2 ∨ a = 3 ∨ a = 4 ∨ a = 5 ∨ a = 6 ∨ a = 7 ∨ a = 8 ∨ a = 9 by omega) with rfl | rfl | rfl | rfl | rfl | rfl | rfl | rfl | rfl | rfl
          · exact (E0 i).trans (E0 (i + 1)).symm
          · exact (E1 i).trans (E1 (i + 1)).symm
          · exact (hd 0 (by decide)).trans (Ec (i + 1) 0 (by decide)).symm
          · exact (hd 1 (by decide)).trans (Ec (i + 1) 1 (by decide)).symm
          · exact (hd 2 (by decide)).trans (Ec (i + 1) 2 (by decide)).symm
          · exact (hd 3 (by decide)).trans (Ec (i + 1) 3 (by decide)).symm
          · refine Eq.trans ?_ (E6 (i + 1)).symm
            show (Wheels.v 6).eval (E i) + 1 = ((i + 1 : Nat) : Int)
            rw [v6]; omega
          · exact (E7 i).trans (E7 (i + 1)).symm
          · refine Eq.trans ?_ (E8 (i + 1)).symm
            show (if mx && more then aE m else Wheels.v 8).eval (E i) = _
            unfold mostA
            cases hmx : mx with
            | false =>
              rw [hmx] at v8
              simp only [Bool.false_and, Bool.false_eq_true, if_false]
              rw [v8]
              cases i with
              | zero => rfl
              | succ i => unfold mostA; rw [if_neg (by simp)]
            | true =>
              rw [hmx] at v8 hmore
              by_cases hb : mostA A m true i < addA A m i
              · simp [hmore, hb, ea]
              · simp [hmore, hb, v8]
          · exact (E9 i).trans (E9 (i + 1)).symm
        · have ek := Ek (i + 1)
          rcases (show a = 128 ∨ a = 129 ∨ a = 130 ∨ a = 131 ∨ a = 132 ∨ a = 133 by omega) with rfl | rfl | rfl | rfl | rfl | rfl
          · refine RowEq.trans ?_ (Ew (i + 1)).symm
            refine up_eq (Ew i) v6 ?_
            show E i 1 + (aE m).eval (E i) = (adds A m s i).now + addA A m i
            rw [E1, ea, d.now]
          · exact hk'.N.trans ek.N.symm
          · exact hk'.B.trans ek.B.symm
          · exact hk'.L.trans ek.L.symm
          · exact hk'.C.trans ek.C.symm
          · exact (EA i).trans (EA (i + 1)).symm
    · have run := R.last
      refine ⟨csAdE ex, i, noLoops, callF (csAdE ex).pc [], noRnd B _ _ _ (fun V hV S hS => by cases hS), ?_, ?_, Nat.zero_le _, Nat.zero_le _, emid i hi, ?_, .inr ⟨R.ex, rfl, rfl, by omega⟩⟩
      · exact run
      · show Fx (E i) (pcW ++ [le (Wheels.v 7) (Wheels.v 6)])
        refine .app pw (one_ok (le_ok ?_))
        rw [v6, v7]; omega
      · exact agree_of (by decide) (by decide) (fun i hi => rfl) (fun a h1 h2 => RowEq.refl _)
  · refine agree_of (by decide) (by decide) (fun a ha => ?_) (fun a h1 h2 => ?_)
    · rcases (show a = 0 ∨ a = 1 ∨ a = 2 ∨ a = 3 ∨ a = 4 ∨ a = 5 ∨ a = 6 ∨ a = 7 ∨ a = 8 ∨ a = 9 by omega) with rfl | rfl | rfl | rfl | rfl | rfl | rfl | rfl | rfl | rfl
      · exact sn.trans (E0 0).symm
      · exact snow.trans (E1 0).symm
      · exact (sc 0).trans (Ec 0 0 (by decide)).symm
      · exact (sc 1).trans (Ec 0 1 (by decide)).symm
      · exact (sc 2).trans (Ec 0 2 (by decide)).symm
      · exact (sc 3).trans (Ec 0 3 (by decide)).symm
      · exact (E6 0).symm
      · exact hlen.trans (E7 0).symm
      · exact (E8 0).symm
      · exact hste.symm.trans (E9 0).symm
    · have ek := Ek 0
      rcases (show a = 128 ∨ a = 129 ∨ a = 130 ∨ a = 131 ∨ a = 132 ∨ a = 133 by omega) with rfl | rfl | rfl | rfl | rfl | rfl
      · exact (show RowEq (rowE V.env w) s.when_ by rw [sw]; exact .refl _).trans (Ew 0).symm
      · exact (show RowEq (lkE V.env K).N s.k.N by rw [sk]; exact .refl _).trans ek.N.symm
      · exact (show RowEq (lkE V.env K).B s.k.B by rw [sk]; exact .refl _).trans ek.B.symm
      · exact (show RowEq (lkE V.env K).L s.k.L by rw [sk]; exact .refl _).trans ek.L.symm
      · exact (show RowEq (lkE V.env K).C s.k.C by rw [sk]; exact .refl _).trans ek.C.symm
      · exact hA.trans (EA 0).symm
  · obtain ⟨rfl, rfl, hin⟩ := hp
    subst hin
    refine ⟨0, ⟨e, 1, fA1 n now c' len len most' start, gA1 w' K' Ae⟩, rfl, rfl, rfl, Nat.le_refl _, Nat.le_refl _, agree_symm ?_⟩
    have d := adds_inv h hz m1.1 m1.2 (A := A) (i := i) (by omega)
    refine agree_of (by decide) (by decide) (fun a ha => ?_) (fun a h1 h2 => ?_)
    · rcases (show a = 0 ∨ a = 1 ∨ a = 2 ∨ a = 3 ∨ a = 4 ∨ a = 5 ∨ a = 6 ∨ a = 7 ∨ a = 8 ∨ a = 9 by omega) with rfl | rfl | rfl | rfl | rfl | rfl | rfl | rfl | rfl | rfl
      · exact sn.trans (E0 i).symm
      · exact snow.trans (E1 i).symm
      · exact (hc' 0 (by decide)).trans (Ec i 0 (by decide)).symm
      · exact (hc' 1 (by decide)).trans (Ec i 1 (by decide)).symm
      · exact (hc' 2 (by decide)).trans (Ec i 2 (by decide)).symm
      · exact (hc' 3 (by decide)).trans (Ec i 3 (by decide)).symm
      · exact hlen.trans (E6 i).symm
      · exact hlen.trans (E7 i).symm
      · exact hmost.trans (E8 i).symm
      · exact hste.symm.trans (E9 i).symm
    · have ek := Ek i
      rcases (show a = 128 ∨ a = 129 ∨ a = 130 ∨ a = 131 ∨ a = 132 ∨ a = 133 by omega) with rfl | rfl | rfl | rfl | rfl | rfl
      · exact hw'.trans (Ew i).symm
      · exact hK'.N.trans ek.N.symm
      · exact hK'.B.trans ek.B.symm
      · exact hK'.L.trans ek.L.symm
      · exact hK'.C.trans ek.C.symm
      · exact hA.trans (EA i).symm
end Go.Proofs.Ytaliacnncemneaa.wheels

namespace Go.Proofs.Ytaliacnncemneaa.wheels
open Go.Abs Go.Proofs.Wheels
theorem sortC : SortC Try.prog 27 := fun blk off cap zs w hH hb hs => Try.sort_Ints blk off cap zs w hH hb hs
end Go.Proofs.Ytaliacnncemneaa.wheels

namespace Go.Proofs.Ytaliacnncemneaa.wheels
open Go.Abs Go.Proofs.Wheels

structure SkEq (x y : SkS) : Prop where
  s : WSEq x.s y.s
  k : x.k = y.k
  past : x.past = y.past
theorem len_congr {s s' : WS} (h : WSEq s s') : s.len = s'.len := by
  unfold WS.len
  rw [h.c 0 (by omega), h.c 1 (by omega), h.c 2 (by omega), h.c 3 (by omega)]
theorem wait_congr {s s' : WS} (h : WSEq s s') : s.wait = s'.wait := by
  unfold WS.wait
  rw [h.n]
  exact cntP_congr fun i _ => by rw [h.w.g]
theorem skips_congr : ∀ {n : Nat} {x y : SkS}, SkEq x y → SkEq (skips n x) (skips n y) := by
  intro n
  induction n with
  | zero => intro x y h; exact h
  | succ n ih =>
    intro x y h
    unfold skips
    rw [len_congr h.s]
    split
    · exact ⟨⟨h.s.n, by show x.s.now + (x.k : Int) = y.s.now + (y.k : Int); rw [h.s.now, h.k], h.s.w, h.s.k, h.s.c⟩, h.k, h.past⟩
    · refine ih ⟨fin_congr h.s, by show x.k - 1 = y.k - 1; rw [h.k], ?_⟩
      show (if x.s.raw = [] then x.past else x.past ++ [sorted x.s.raw]) = (if y.s.raw = [] then y.past else y.past ++ [sorted y.s.raw])
      rw [raw_congr h.s, h.past]
theorem SkInv.of {N : Nat} {x y : SkS} (h : SkInv N y) (e : SkEq x y) : SkInv N x := by
  obtain ⟨q, hq⟩ := h.q
  exact ⟨⟨q, hq.of e.s⟩, h.mid.of e.s, by rw [e.s.now, e.k]; exact h.now, by rw [e.k]; exact h.k, by rw [e.past, e.s.n]; exact h.past, by rw [e.past, wait_congr e.s]; exact h.room⟩
theorem adds_congr {A : TT} {m : Int} {s s' : WS} (h : WSEq s s') : ∀ i : Nat, WSEq (adds A m s i) (adds A m s' i) := by
  intro i
  induction i with
  | zero => exact h
  | succ i ih => exact add_congr ih
theorem lenOf_congr {x y : SkS} (h : SkEq x y) (i : Nat) : lenOf x i = lenOf y i := by unfold lenOf; rw [h.past]
theorem tabOf_congr {x y : SkS} (h : SkEq x y) (i : Nat) : tabOf x i = tabOf y i := by unfold tabOf; rw [h.past]

theorem repl_get {α : Type} (a : α) {i : Nat} (hi : i < 41) : (List.replicate 41 a)[i]? = some a := by rw [List.getElem?_replicate, if_pos hi]
theorem rangeMap {α : Type} (f : Nat → α) {i : Nat} (hi : i < 41) : ((List.range 41).map f)[i]? = some (f i) := by rw [List.getElem?_map, List.getElem?_range hi]; rfl

/-- The loop that skips, of a state that is like another one. -/
theorem sk_at [F : Facts] [V : Vals] {n now now' k k' w w' : SE} {c c' : C4} {K K' : K4} {ls ts : List SE} {j ki : Nat} {s : WS} {e : SkS} (hs : WSEq (wsE V.env n now c w K) s) (hk : k.eval V.env = ki) (h : SkInv 40 ⟨s, ki, []⟩) (he : skips ki ⟨s, ki, []⟩ = e) (hj : e.past.length = j)
    (hnow' : now'.eval V.env = e.s.now) (hk' : k'.eval V.env = e.k) (hc' : ∀ r, r < 4 → cE V.env c' r = e.s.c r) (hw' : RowEq (rowE V.env w') e.s.when_) (hK' : LKEq (lkE V.env K') e.s.k) (hll : ls.length ≤ 41) (htl : ts.length ≤ 41)
    (hls : ∀ i, i < 41 → ((ls[i]?).getD (.var (7 + i))).eval V.env = lenOf e i) (hts : ∀ i, i < 41 → RowEq (rowE V.env ((ts[i]?).getD (.tab (133 + i)))) (tabOf e i)) : LoopProof Try.prog [] (skS 8 fns j n now now' c c' k k' w w' K K' ls ts) := by
  have q := skips_congr (n := ki) (x := ⟨wsE V.env n now c w K, ki, []⟩) (y := ⟨s, ki, []⟩) ⟨hs, rfl, rfl⟩
  rw [he] at q
  exact sk_proof sortC rfl hk (h.of ⟨hs, rfl, rfl⟩) rfl (by rw [q.past]; exact hj) (hnow'.trans q.s.now.symm) (by rw [hk', q.k]) (fun r hr => (hc' r hr).trans (q.s.c r hr).symm) (hw'.trans q.s.w.symm) (hK'.trans q.s.k.symm) hll htl (fun i hi => (hls i hi).trans (lenOf_congr q i).symm) (fun i hi => by rw [tabOf_congr q i]; exact hts i hi)
theorem ads_at [F : Facts] [V : Vals] {fn key nt : Nat} {sh : Nat → Shape} {nm : St → HS → List Nat} {ex : Ex} {m : Int} {mx : Bool} (R : AdRuns fn key nt sh ex m mx) {n now len most' start w w' Ae : SE} {c c' : C4} {K K' : K4} {s : WS} {q : Int → List Int} {A : TT} {ln : Nat}
    (hs : WSEq (wsE V.env n now c w K) s) (h : WInv s q) (hm : WMid s) (hz : ∀ t, 0 ≤ t → t < s.n → g0 s.when_ t = 0) (hln : (ln : Int) ≤ s.n) (hl40 : ln ≤ 40) (hlen : len.eval V.env = ln) (hA : RowEq (rowE V.env Ae) A) (hAm : MidT A) (hAr : ∀ t, t < ln → 0 ≤ A t 0 ∧ A t 0 ≤ 65535)
    (hst : In64 (start.eval V.env)) (hmost : most'.eval V.env = mostA A m mx ln) (hc' : ∀ r, r < 4 → cE V.env c' r = (adds A m s ln).c r) (hw' : RowEq (rowE V.env w') (adds A m s ln).when_) (hK' : LKEq (lkE V.env K') (adds A m s ln).k) :
    LoopProof Try.prog [] (adL fn key nt sh nm ex n now c c' len most' start w w' K K' Ae) := by
  have q' := adds_congr (A := A) (m := m) hs ln
  exact ads_proof R rfl (h.of hs) (hm.of hs) (fun t t0 t1 => by rw [hs.w.g]; exact hz t t0 (by rw [← hs.n]; exact t1)) (by rw [hs.n]; exact hln) hl40 hlen hA hAm hAr hst hmost (fun r hr => (hc' r hr).trans (q'.c r hr).symm) (hw'.trans q'.w.symm) (hK'.trans q'.k.symm)
end Go.Proofs.Ytaliacnncemneaa.wheels

namespace Go.Proofs.Wheels
open Go.Abs

def z4 : C4 := ⟨L 0, L 0, L 0, L 0⟩
def KN : K4 := ⟨.tab 129, .tab 129, .tab 130, zS⟩
def lsV : List SE := (List.range 41).map fun i => v (20 + i)
def tsV : List SE := (List.range 41).map fun i => .tab (141 + i)
def zsV : List SE := List.replicate 41 (L 0)
def ztV : List SE := List.replicate 41 zS
def sumV : Nat → SE
  | 0 => L 0
  | 1 => v 20
  | j + 2 => add (sumV (j + 1)) (v (20 + (j + 1)))
def zeroC (c : C4) : List (SB × Bool) := inR (L 0) c.a (L 4096) ++ (inR (L 0) c.b (L 4096) ++ (inR (L 0) c.c (L 4096) ++ (inR (L 0) c.d (L 4096) ++ [eq (add (add (add c.a c.b) c.c) c.d) (L 0)])))
def lensF (j : Nat) : List (SB × Bool) := ((List.range j).map fun i => inR (L 0) (v (20 + i)) (L 4096)).flatten
end Go.Proofs.Wheels
namespace Go.Proofs.Ytaliacnncemneaa.wheels
open Go.Abs Go.Proofs.Wheels

noncomputable def cfgW [Facts] (fs : List FunSpec) : Cfg := cfgF (knowTrue 6 []) PG [] fs 100000
noncomputable def runAt (fn : Nat) (pc : List (SB × Bool)) (ls : List LoopSpec) (fs : List FunSpec) (us : List AV) (s : HS) : Bool :=
  (letI : Facts := ⟨pc⟩; letI := manyLoops PG [] ls; callN Try.prog (cfgW fs) 60 (.f fn) us s).every 1000000000 isTrue
theorem total_take : ∀ {p : List (List Int)} {k : Nat}, total (p.take (k + 1)) = total (p.take k) + ((p[k]?).map fun l => (l.length : Int)).getD 0 := by
  intro p
  induction p with
  | nil =>
    intro k
    cases k with
    | zero => rfl
    | succ k => rfl
  | cons l p ih =>
    intro k
    cases k with
    | zero => show (l.length : Int) + 0 = 0 + (l.length : Int); omega
    | succ k =>
      show (l.length : Int) + total (p.take (k + 1)) = (l.length : Int) + total (p.take k) + ((p[k]?).map fun l => (l.length : Int)).getD 0
      rw [ih]; omega

theorem zeroC_ok {env : Nat → Int} {c : C4} {s : WS} {q : Int → List Int} (h : WInv s q) (h0 : s.wait = 0) (hc : ∀ r, r < 4 → cE env c r = s.c r) : Fx env (zeroC c) := by
  have h1 := hc 0 (by decide)
  have h2 := hc 1 (by decide)
  have h3 := hc 2 (by decide)
  have h4 := hc 3 (by decide)
  have h1 : c.a.eval env = s.c 0 := h1
  have h2 : c.b.eval env = s.c 1 := h2
  have h3 : c.c.eval env = s.c 2 := h3
  have h4 : c.d.eval env = s.c 3 := h4
  have l : ∀ r, r < 4 → 0 ≤ s.c r ∧ s.c r ≤ 4096 := fun r hr => h.toWBase.c_in hr
  have l1 := l 0 (by decide)
  have l2 := l 1 (by decide)
  have l3 := l 2 (by decide)
  have l4 := l 3 (by decide)
  have hl : s.len = 0 := by rw [len_wait h]; exact h0
  have hl : s.c 0 + s.c 1 + s.c 2 + s.c 3 = 0 := hl
  refine .app (inR_ok ?_ ?_) (.app (inR_ok ?_ ?_) (.app (inR_ok ?_ ?_) (.app (inR_ok ?_ ?_) (one_ok (eq_ok ?_)))))
  · rw [h1]; exact l1.1
  · rw [h1]; exact l1.2
  · rw [h2]; exact l2.1
  · rw [h2]; exact l2.2
  · rw [h3]; exact l3.1
  · rw [h3]; exact l3.2
  · rw [h4]; exact l4.1
  · rw [h4]; exact l4.2
  · show c.a.eval env + c.b.eval env + c.c.eval env + c.d.eval env = 0
    rw [h1, h2, h3, h4]; exact hl

/-- The ids' times that came in. -/
def AftersIs (w : World) (v : Value) (e : Bool) (len : Nat) (row : Nat → Nat → Int) : Prop :=
  bif e then ∃ (b o l cap : Nat) (arr : Array Value) (el : TypeId) (fz : Nat × Nat), v = .slice (some ⟨b, o, none⟩) l cap ∧ len = l ∧ l ≤ cap ∧ w.heap[b]? = some (.cells arr el fz) ∧ o + l * 1 ≤ arr.size ∧ ∀ (r c : Nat) (k' : CK), r < l → [CK.i .u16][c]? = some k' → ∃ x, arr[o + (r * 1 + c)]? = some x ∧ CKv k' (row r c) x
  else len = 0 ∧ ∃ p c, v = .slice p 0 c

theorem start0 (q : Other) (w : World) : @RW q.F q.V (phi0 PG) w.heap.size (startL PG []) w := @start_rw' q.F q.V PG _ [] w (fun p hp => by cases hp)
theorem phi0_none {b : Nat} (h : PG ≤ b) : phi0 PG b = none := by
  unfold phi0
  rw [if_neg (by omega)]
theorem put_other {φ : Phi} {b c : Nat} {a : Lc} (h : c ≠ b) : (φ.put b a) c = φ c := by
  unfold Phi.put
  rw [if_neg h]
theorem add_tab {q : Other} {φ : Phi} {s : HS} {w : World} {a : Lc} {x : Blk} (h : @RW q.F q.V φ w.heap.size s w) (hf : φ s.n = none) (hb : @RB q.F q.V φ w a x) (hx : x.fixed = true) (hy : ∀ c t y, s.h.get c = some (t, y) → y.fixed = true) : @RW q.F q.V (φ.put s.n a) w.heap.size (Abs.addB s x) w :=
  @RW.add q.F q.V φ w.heap.size s w h a x hf hb (fun h => by rw [hx] at h; cases h) (fun c t y a' e hy' => by rw [hy c t y e] at hy'; cases hy')

theorem gl_ok (φ : Phi) (h : ∀ b, b < PG → φ b = phi0 PG b) : GOk Try.prog φ := fun g hg => by
  have hg : g < PG := hg
  rw [h g hg]
  unfold phi0
  rw [if_pos hg]

set_option maxRecDepth 1000000
theorem run_lives : ((letI : Facts := ⟨[]⟩; letI := noLoops; callN Try.prog (cfg0 100000) 200 (.f 6) [] (startL Try.prog.globals.size [])).every 1000000000 isTrue) = true := by kernel_rfl
/-- A walk, whatever is known. -/
theorem walkG {fn : Nat} {us : List AV} {hp : HS} {pc : List (SB × Bool)} {env : Nat → Int} {ls : List LoopSpec} {fs : List FunSpec} (hpc : Fx env pc) (hmid : ∀ j, In64 (env j)) (hl : ∀ V : @Vals ⟨pc⟩, V.env = env → ∀ S ∈ ls, @LoopProof ⟨pc⟩ V Try.prog [] S) (hfs : ∀ V : @Vals ⟨pc⟩, V.env = env → ∀ S ∈ fs, @FunProof ⟨pc⟩ V Try.prog [] S) (hrun : runAt fn pc ls fs us hp = true)
    {w : World} {φ : Phi} {xs : Array Value} (hrw : ∀ q : Other, q.V.env = env → @RW q.F q.V φ w.heap.size hp w) (hf : Free φ hp.n 1000000000) (hg : GOk Try.prog φ) (hx : ∀ q : Other, q.V.env = env → @RL q.F q.V φ us xs.toList) :
    Calls Try.prog fn xs w fun e w' => e = .returned (.bool true) ∧ RowKit.Below w.heap.size w w' := by
  letI Fa : Facts := ⟨pc⟩
  letI Va : Vals := ⟨env, hpc, hmid, []⟩
  letI := manyLoops PG [] ls
  have sp := hl Va rfl
  letI := manyLoops_tame sp
  have hk0 : KnownOK Try.prog w.heap.size { mg := fun _ => false, known := knowTrue 6 [], fuel := 100000 } :=
    know_ok (g := 6) (n := 200) (N := 1000000000) (fuel := 100000) (tabs := []) (fun B => manyLoops_ok sp B) (fun _ _ h => region_any h) (fun p hp => by cases hp) run_lives { mg := fun _ => false, known := knowTrue 6 [], fuel := 100000 } rfl _
  have hk : KnownOK Try.prog w.heap.size (cfgW fs) := funs_known (tabs := []) hk0 (hfs Va rfl)
  have hrw := hrw ⟨Fa, Va⟩ rfl
  have hx := hx ⟨Fa, Va⟩ rfl
  exact calls_from (cfg := cfgW fs) hk (fun _ h => region_any h) hrw hf hg hx hrun
end Go.Proofs.Ytaliacnncemneaa.wheels
end
