/- Tick after tick. Conditions: those that each theorem names. -/
import Derived.Test.YtaliacnncemneaaGreatSWheelLaw
open Go
noncomputable section
namespace Go.Proofs.Wheels
open Go.Abs
def U8 : AV := .sx .u16 (v 8)
def shY (G : Nat) : Nat → Shape
 | 0 => ⟨[(1, U8), (5, .ptr G 0), (6, .ptr (G + 7) 0), (23, s3 (G + 9) (v 7)), (24, X 7), (25, X 6)], lawB G⟩
 | _ => ⟨[(1, U8), (5, .ptr G 0), (6, .ptr (G + 7) 0)], lawB G⟩
def nmY (st : St) (s : HS) : List Nat := zIo s (st.t.get 5) ++ refOf s (st.t.get 6) ++ ssOf (st.t.get 23)
def fY (n now : SE) (c : C4) (i len m : SE) : List SE := [n, now, c.a, c.b, c.c, c.d, i, len, m]
def yL (G : Nat) (n now now' : SE) (c c' : C4) (len m w w' A : SE) (K K' : K4) : zAd := ⟨4, 8, 76, shY G, fY n now c (L 0) len m, gX w K A, nmY, [⟨.exit 0, 1, fY n now' c' len len m, gX w' K' A⟩], 10⟩
def C10 : C4 := ⟨v 10, v 11, v 12, v 13⟩
def yF (f : Fns) : List zAi := [actS 8 f.G (v 0) (v 1) (v 9) C0 C10 kiS idS nnS (.tab 128) (.tab 134) K0 K135]
def pcY : List (SB × Bool) := pcW ++ [nle (v 7) (v 6), le (L 0) (v 6), le (v 6) (L 59), le (v 7) (L 60), le (v 6) (add (v 7) (L (-1)))]
def csY : Case := ⟨pcY, .normal, 0, [v 0, v 9, v 10, v 11, v 12, v 13, add (v 6) (L 1), v 7, v 8], [.tab 134, .tab 135, .tab 136, .tab 137, .tab 138, .tab 133], []⟩
def csYE : Case := ⟨pcW ++ [le (v 7) (v 6)], .exit 0, 1, [], [], []⟩
def lenW (i : Nat) : SE := v (8 + i)
def lT (J G : Nat) : AV := if J = 0 then nilS else .sl (G + 1) 0 1 J none
def oT (J : Nat) : Nat := if J = 0 then 1 else 2
def outV (G j : Nat) : AV := if j = 0 then nilS else .sl G 0 1 j none
def rowV (G j : Nat) : List Blk := if j = 0 then [] else [.cells (Tr.fill ((List.range j).map fun i => ss (G + 1 + i) (lenW i)) 0 .lf) j (some 1)] ++ (List.range j).map fun i => T1 (133 + i) (lenW i)
def roE : Blk := .ro (Tr.fill [] 0 .lf) 0
def roR (J : Nat) : List Blk := if J = 0 then [roE] else [roE, roE]
def shV (J G j : Nat) : Shape := ⟨[(5, .ptr G 0), (9, .ptr (G + oT J) 0), (10, X 6), (11, lT J G), (12, outV (G + oT J + 7) (min j 11)), (13, X 7)], roR J ++ (zDr (G + oT J) ++ rowV (G + oT J + 7) (min j 11))⟩
def nmV (st : St) (s : HS) : List Nat := (match st.t.get 5 with | some (.ptr b 0) => [b] | _ => []) ++ ssOf (st.t.get 11) ++ zIo s (st.t.get 9)
def fV (n now : SE) (c : C4) (k i : SE) : List SE := [n, now, c.a, c.b, c.c, c.d, k, i]
def vL (J G : Nat) (n now now' : SE) (c c' : C4) (k w w' : SE) (K K' : K4) (ls ts : List SE) : zAd :=
 ⟨4, 17, 76, shV J G, fV n now c k (L 0) ++ List.replicate 11 (L 0), gW w K ++ List.replicate 11 zS, nmV, [⟨.exit 2, J, fV n now' c' k k ++ ls, gW w' K' ++ ts⟩], oT J + 7⟩
def C20 : C4 := ⟨v 20, v 21, v 22, v 23⟩
def K161 : K4 := ⟨.tab 161, .tab 162, .tab 163, .tab 164⟩
def tkV (f : Fns) (some_ : Bool) : zAi := tickS f (v 0) (v 1) (add (v 1) (L 1)) C0 C20 (v 24) (.tab 128) (.tab 160) K0 K161 (.tab 165) some_
def pcV : List (SB × Bool) := pcW ++ ([nle (v 6) (v 7)] ++ (inR (L 0) (v 7) (L 1999) ++ inR (L 0) (v 6) (L 1999)))
def fVn : List SE := [v 0, add (v 1) (L 1), v 20, v 21, v 22, v 23, v 6, add (v 7) (L 1)]
def gVn : List SE := [.tab 160, .tab 161, .tab 162, .tab 163, .tab 164]
def csV0 (j : Nat) : Case := ⟨pcV, .normal, j, fVn ++ (List.range 11).map lenW, gVn ++ (List.range 11).map fun i => .tab (133 + i), []⟩
def nmVj (J G j : Nat) : List Nat :=
 let o := oT J + 7
 let n := if j = 0 then o else o + 1 + j
 (List.range o).map (G + ·) ++ [G + (n + 2)] ++ ((List.range j).map fun i => G + (o + 1 + i)) ++ [G + n]
def lens11 (j : Nat) (e : SE) : List SE := (List.range 11).map fun i => if i = j then e else lenW i
def tabs11 (j : Nat) (e : SE) : List SE := (List.range 11).map fun i => if i = j then e else .tab (133 + i)
def csV1 (J G j : Nat) : Case := ⟨pcV ++ inR (L 1) (v 24) (L 4096), .normal, j + 1, fVn ++ lens11 j (v 24), gVn ++ tabs11 j (.tab 165), nmVj J G j⟩
def csVE (j : Nat) : Case := ⟨pcW ++ [le (v 6) (v 7)], .exit 2, j, [], [], []⟩
end Go.Proofs.Wheels
namespace Go.Proofs.Wheels
open Go.Abs
def kS : SE := .rem (v 1) (L 2000)
def nowS : SE := add (v 2) kS
def cS1 : C4 := ⟨v 3, v 4, v 5, v 6⟩
def cS2 : C4 := ⟨v 8, v 9, v 10, v 11⟩
def kS1 : K4 := ⟨.tab 132, .tab 133, .tab 134, .tab 135⟩
def kS2 : K4 := ⟨.tab 137, .tab 138, .tab 139, .tab 140⟩
def lsS : List SE := (List.range 11).map fun i => v (20 + i)
def tsS : List SE := (List.range 11).map fun i => .tab (145 + i)
def lsS6 : List SE := lsS ++ List.replicate 50 (L 0)
def tsS6 : List SE := tsS ++ List.replicate 50 zS
def catZ (e : SE) : SE := .cat (.const (L 0)) (L 0) e
def catK (K : K4) : K4 := ⟨catZ K.a, catZ K.b, catZ K.c, catZ K.d⟩
def lawSL (f : Fns) (J : Nat) : List zAd := [yL f.G (L 10) (L 0) (v 2) z4 cS1 (v 0) (v 1) zS (.tab 131) (.tab 128) KN kS1, skS 18 f J (L 10) (v 2) nowS cS1 cS2 kS (v 12) (.tab 131) (.tab 136) kS1 kS2 lsS6 tsS6, vL J f.G (L 10) (v 2) nowS cS1 cS2 kS (catZ (.tab 131)) (.tab 136) (catK kS1) kS2 lsS tsS]
def lawSF (f : Fns) (b : Bool) : List zAi := [newS 6 f.G (L 10) (.tab 129) (.tab 130), wallS 16 f.G (L 10) nowS cS2 (v 13) (.tab 136) kS2 (.tab 141) b]
def pcS1 (J : Nat) (b : Bool) : List (SB × Bool) := [tt] ++ (inR (L 0) (v 0) (L 40) ++ (inR (L 0) (v 1) (L 65535) ++ (inR (L 0) kS (L 1999) ++ (inR (L 0) (v 2) (L 200000) ++ ((if b then inR (L 1) (v 13) (L 4096) else []) ++ ((List.range J).map fun i => inR (L 1) (v (20 + i)) (L 4096)).flatten)))))
def pcSBig : List (SB × Bool) := [tt] ++ [nle (v 0) (L 40)]
def heapS (has : Bool) (G : Nat) : HS := bif has then Abs.addB (zGh G []) (.arr [.i .i64, .i .i64, .i .i64] (.tab 128) (v 0) true) else zGh G []
def argS (has : Bool) (G : Nat) : List AV := [bif has then s3 G (v 0) else .so (.lit 0), .sx .u16 (v 1)]
def lawSL0 (f : Fns) : List zAd := [skS 18 f 0 (L 10) (L 0) kS z4 z4 kS (v 12) zS zS KN KN (List.replicate 61 (L 0)) (List.replicate 61 zS), vL 0 f.G (L 10) (L 0) kS z4 z4 kS (catZ zS) zS (catK KN) KN (List.replicate 11 (L 0)) (List.replicate 11 zS)]
def lawSF0 (f : Fns) : List zAi := [newS 6 f.G (L 10) (.tab 129) (.tab 130), wallS 16 f.G (L 10) kS z4 (L 0) zS KN zS false]
def pcS00 : List (SB × Bool) := [tt] ++ (inR (L 0) (v 1) (L 65535) ++ inR (L 0) kS (L 1999))
end Go.Proofs.Wheels
namespace Go.Proofs.Wheels
open Go.Abs Go.Proofs.YtaliacnncemneaaGreat.wheels
theorem none_q {s : WS} {q : Int → List Int} (h : zEc s q) (h0 : s.wait = 0) {l : Int} (l0 : 0 ≤ l) (l1 : l < 128) : q l = [] := by
 cases e : q l with
 | nil => rfl
 | cons t r =>
  have ht := h.rep.thing l l0 l1 t (by rw [e]; exact .head _)
  have hw := zLv h0 ht.1 ht.2.1
  have hn := h.now0
  rcases h.w t ht.1 ht.2.1 with g | g
  ·omega
  ·omega
theorem none_down {s : WS} {q : Int → List Int} (h : WBase s q) (hq : ∀ l, 0 ≤ l → l < 128 → q l = []) {r : Nat} (hr : r < 4) : s.down r = s := by
 obtain ⟨p0, p1, _⟩ := zBa (at_ := s.now) hr
 have hm := h.many hr
 rw [hq _ p0 p1] at hm
 unfold WS.down
 split
 ·rw [hm]; rfl
 ·rfl
theorem none_fin {s : WS} {q : Int → List Int} (h : zEc s q) (hm : zEh s) (h0 : s.wait = 0) (hnow : s.now + 1 ≤ 999000000) : s.raw = [] ∧ s.fin = s.jump 1 := by
 have hq := fun l l0 l1 => none_q h h0 (l := l) l0 l1
 have ht : WBase s.tick q := ⟨h.rep, by have := h.now0; show 0 ≤ s.now + 1; omega, h.c⟩
 have e3 := none_down ht hq (r := 3) (by omega)
 have e2 := none_down ht hq (r := 2) (by omega)
 have e1 := none_down ht hq (r := 1) (by omega)
 have ed : s.downs = s.tick := by
  unfold WS.downs
  rw [e3, e2, e1]
 obtain ⟨qt, qf, ha⟩ := zJo h hm hnow
 have er : s.raw = [] := by
  cases e : s.raw with
  | nil => rfl
  | cons t r =>
   have := (zNr ha (t := t)).1 (by rw [e]; exact .head _)
   have hw := zLv h0 this.1 this.2.1
   have hn := h.now0
   omega
 refine ⟨er, ?_⟩
 unfold WS.fin
 rw [er, ed]
 rfl
def tks : Nat → SkS → SkS
 | 0, x => x
 | n + 1, x => tks n x.next
theorem tks_none : ∀ {n : Nat} {x : SkS} {N : Nat}, zIb N x → x.s.wait = 0 → n ≤ x.k → (tks n x).s = x.s.jump n ∧ (tks n x).past = x.past := by
 intro n
 induction n with
 | zero => intro x N _ _ _; exact ⟨by show x.s = { x.s with now := x.s.now + ((0 : Nat) : Int) }; simp, rfl⟩
 | succ n ih =>
  intro x N h h0 hk
  obtain ⟨q, hq⟩ := h.q
  have hnow := h.now
  obtain ⟨e1, e2⟩ := none_fin hq h.mid h0 (by omega)
  have en : x.next = ⟨x.s.jump 1, x.k - 1, x.past⟩ := by
   unfold SkS.next
   rw [if_pos e1, e2]
  have hi := (h.next (by omega)).1
  rw [en] at hi
  have et : tks (n + 1) x = tks n ⟨x.s.jump 1, x.k - 1, x.past⟩ := by
   rw [← en]; rfl
  rw [et]
  obtain ⟨i1, i2⟩ := ih hi h0 (by show n ≤ x.k - 1; omega)
  refine ⟨i1.trans ?_, i2⟩
  show { x.s with now := x.s.now + ((1 : Nat) : Int) + (n : Int) } = { x.s with now := x.s.now + ((n + 1 : Nat) : Int) }
  rw [show x.s.now + ((1 : Nat) : Int) + (n : Int) = x.s.now + ((n + 1 : Nat) : Int) by omega]
theorem tks_skips : ∀ {n : Nat} {x : SkS} {N : Nat}, zIb N x → x.k = n → (tks n x).s = (zCt n x).s ∧ (tks n x).past = (zCt n x).past := by
 intro n
 induction n with
 | zero => intro x N _ _; exact ⟨rfl, rfl⟩
 | succ n ih =>
  intro x N h hk
  unfold zCt
  by_cases hl : x.s.len = 0
  ·rw [if_pos hl]
   obtain ⟨q, hq⟩ := h.q
   have h0 : x.s.wait = 0 := by rw [← zGl hq]; exact hl
   obtain ⟨i1, i2⟩ := tks_none h h0 (n := n + 1) (by omega)
   exact ⟨by rw [i1, ← hk]; rfl, i2⟩
  ·rw [if_neg hl]
   exact ih (h.next (by omega)).1 (by show x.k - 1 = n; omega)
theorem tks_inv : ∀ {n : Nat} {x : SkS} {N : Nat}, zIb N x → n ≤ x.k → zIb N (tks n x) ∧ (tks n x).k = x.k - n ∧ (tks n x).s.n = x.s.n := by
 intro n
 induction n with
 | zero => intro x N h _; exact ⟨h, rfl, rfl⟩
 | succ n ih =>
  intro x N h hk
  obtain ⟨i1, i2, i3⟩ := ih (h.next (by omega)).1 (show n ≤ x.k - 1 by omega)
  exact ⟨i1, i2.trans (by show x.k - 1 - n = x.k - (n + 1); omega), i3.trans zFw.1⟩
theorem tks_succ : ∀ {n : Nat} {x : SkS}, tks (n + 1) x = (tks n x).next := by
 intro n
 induction n with
 | zero => intro x; rfl
 | succ n ih => intro x; exact ih (x := x.next)
end Go.Proofs.Wheels
namespace Go.Proofs.YtaliacnncemneaaGreat.wheels
open Go.Abs Go.Proofs.Wheels
set_option maxRecDepth 1000000
theorem isY : ((Tryz.prog.funcs[4]?).bind (·.body)).map (fun c => zBm 8 (subs c)) = some [zEf 4 8] := by kernel_rfl
theorem fxY : zAl (shY PG) 10 [false, false, false, false, false, false, false, false, false, true] := fun i => by rcases i with _ | i <;> exact ⟨Nat.le_refl 10, rfl, rfl⟩
theorem goodY : zBk PG (shY PG 1) = true := by kernel_rfl
theorem upsY : ∀ i, (shY PG i).ups 9 6 = true := fun i => by rcases i with _ | i <;> kernel_rfl
theorem run_y : runKL 4 8 76 (shY PG) 10 0 csY [] (yF fns) = true := by kernel_rfl
theorem run_yE : runKL 4 8 76 (shY PG) 10 0 csYE [] [] = true := by kernel_rfl
section
variable (A : TT) (s : WS) (len : Nat) (m : Int) (i : Nat)
def scY : List Int := [(stA A s i).n, (stA A s i).now, (stA A s i).c 0, (stA A s i).c 1, (stA A s i).c 2, (stA A s i).c 3, (i : Int), (len : Int), m]
def scxY : List Int := [(stA A s (i + 1)).now, (stA A s (i + 1)).c 0, (stA A s (i + 1)).c 1, (stA A s (i + 1)).c 2, (stA A s (i + 1)).c 3]
def tbxY : List TT := [(stA A s (i + 1)).when_, (stA A s (i + 1)).k.N, (stA A s (i + 1)).k.B, (stA A s (i + 1)).k.L, (stA A s (i + 1)).k.C]
def encY : Nat → Int := zCb (scY A s len m i ++ scxY A s i) (tbX A s i ++ tbxY A s i)
end
section
variable {A : TT} {s : WS} {N len i : Nat} {m : Int}
theorem oneY {k : Nat} {x : Int} (h : (scY A s len m i ++ scxY A s i)[k]? = some x) (hk : k < 128) : encY A s len m i k = x := zAu h hk
theorem tabY {a : Nat} {X : TT} (h : (tbX A s i ++ tbxY A s i)[a - 128]? = some X) (h1 : 128 ≤ a) (h2 : a < 256) : zAg (zAw (encY A s len m i) (.tab a)) X := zAq h h1 h2
theorem wsY0 : zDg (wsE (encY A s len m i) (v 0) (v 1) C0 (.tab 128) K0) (stA A s i) := by
 refine ⟨show encY A s len m i 0 = _ from oneY rfl (by decide), show encY A s len m i 1 = _ from oneY rfl (by decide), tabY rfl (by decide) (by decide), ⟨tabY rfl (by decide) (by decide), tabY rfl (by decide) (by decide), tabY rfl (by decide) (by decide), tabY rfl (by decide) (by decide)⟩, fun r hr => ?_⟩
 rcases (show r = 0 ∨ r = 1 ∨ r = 2 ∨ r = 3 by omega) with rfl | rfl | rfl | rfl
 ·exact show encY A s len m i 2 = _ from oneY rfl (by decide)
 ·exact show encY A s len m i 3 = _ from oneY rfl (by decide)
 ·exact show encY A s len m i 4 = _ from oneY rfl (by decide)
 ·exact show encY A s len m i 5 = _ from oneY rfl (by decide)
theorem wsY1 (hn : (stA A s i).n = (stA A s (i + 1)).n) : zDg (wsE (encY A s len m i) (v 0) (v 9) C10 (.tab 134) K135) (stA A s (i + 1)) := by
 refine ⟨hn ▸ (show encY A s len m i 0 = _ from oneY rfl (by decide)), show encY A s len m i 9 = _ from oneY rfl (by decide), tabY rfl (by decide) (by decide), ⟨tabY rfl (by decide) (by decide), tabY rfl (by decide) (by decide), tabY rfl (by decide) (by decide), tabY rfl (by decide) (by decide)⟩, fun r hr => ?_⟩
 rcases (show r = 0 ∨ r = 1 ∨ r = 2 ∨ r = 3 by omega) with rfl | rfl | rfl | rfl
 ·exact show encY A s len m i 10 = _ from oneY rfl (by decide)
 ·exact show encY A s len m i 11 = _ from oneY rfl (by decide)
 ·exact show encY A s len m i 12 = _ from oneY rfl (by decide)
 ·exact show encY A s len m i 13 = _ from oneY rfl (by decide)
theorem v6Y : (v 6).eval (encY A s len m i) = i := oneY rfl (by decide)
theorem v7Y : (v 7).eval (encY A s len m i) = len := oneY rfl (by decide)
theorem v8Y : (v 8).eval (encY A s len m i) = m := oneY rfl (by decide)
theorem t133Y : zAg (zAw (encY A s len m i) (.tab 133)) A := tabY rfl (by decide) (by decide)
theorem colY {c : Nat} (hc : c < 64) : (SE.sel (.tab 133) (v 6) c).eval (encY A s len m i) = A i c := by
 rw [sel_col, v6Y]
 exact (t133Y (A := A) (s := s) (m := m) (len := len) (i := i)) _ c hc
theorem midY (h : ActsIn A s N len) (hm : In64 m) (hi : i ≤ len) : zCr In64 (scY A s len m i ++ scxY A s i) ∧ zCr zDc (tbX A s i ++ tbxY A s i) := by
 have hl := h.len
 have a := stA_i (A := A) h.h i (by omega)
 have b := stA_i (A := A) h.h (i + 1) (by omega)
 obtain ⟨a1, a2, a3, a4⟩ := act_mid a (by omega)
 obtain ⟨b1, b2, b3, b4⟩ := act_mid b (by omega)
 exact ⟨⟨a1, a2, a3 0 (by omega), a3 1 (by omega), a3 2 (by omega), a3 3 (by omega), zCf (by omega), zCf (by omega), hm, b2, b3 0 (by omega), b3 1 (by omega), b3 2 (by omega), b3 3 (by omega), trivial⟩,
  ⟨a.w, a.k.N, a.k.B, a.k.L, a.k.C, fun r c _ => h.mid r c, b.w, b.k.N, b.k.B, b.k.L, b.k.C, trivial⟩⟩
theorem funY [F : Facts] [V : zAc] (hC : zOd Tryz.prog zLp) (h : ActsIn A s N len) (hi : i < len) (hV : V.env = encY A s len m i) : ∀ S ∈ yF fns, zAj Tryz.prog [] S := fun S hS => by
 have hl := h.len
 have a := stA_i (A := A) h.h i (by omega)
 have w0 := wsY0 (A := A) (s := s) (m := m) (len := len) (i := i)
 have w1 := wsY1 (A := A) (s := s) (m := m) (len := len) (i := i) (nX h.h (by omega))
 simp only [yF, List.mem_cons, List.not_mem_nil, or_false] at hS
 subst hS
 refine act_proof (N := N) (s := stA A s i) (ki := A i 0) (id := A i 1) (nn := A i 2) hC ⟨a.more (by omega) (by omega), h.nm i hi, h.mid _ _, h.mid _ _, h.mid _ _⟩ ?_ ?_ ?_ ?_ ?_
 all_goals rw [hV]
 ·exact w0
 ·exact w1
 ·exact colY (by decide)
 ·exact colY (by decide)
 ·exact colY (by decide)
theorem pcWY (h : ActsIn A s N len) (hi : i ≤ len) : Fx (encY A s len m i) pcW := by
 have hl := h.len
 have a := stA_i (A := A) h.h i (by omega)
 obtain ⟨q, hq⟩ := a.q
 have w := wsY0 (A := A) (s := s) (m := m) (len := len) (i := i)
 refine zDw hq.toWBase (a.mid (by omega)) w.n w.now fun r hr => ?_
 rcases (show r = 0 ∨ r = 1 ∨ r = 2 ∨ r = 3 by omega) with rfl | rfl | rfl | rfl
 ·exact w.c 0 (by omega)
 ·exact w.c 1 (by omega)
 ·exact w.c 2 (by omega)
 ·exact w.c 3 (by omega)
theorem y_proof [F : Facts] [V : zAc] (hC : zOd Tryz.prog zLp) (h : ActsIn A s N len) {n now now' ln me w w' Ae : SE} {c c' : C4} {K K' : K4} (hs : zDg (wsE V.env n now c w K) s) (hs' : zDg (wsE V.env n now' c' w' K') (stA A s len)) (hln : ln.eval V.env = len) (hme : In64 (me.eval V.env)) (hA : zAg (zAw V.env Ae) A) :
  zAp Tryz.prog [] (yL PG n now now' c c' ln me w w' Ae K K') := by
 obtain ⟨m, hm⟩ : ∃ m, me.eval V.env = m := ⟨_, rfl⟩
 rw [hm] at hme
 obtain ⟨E, hE⟩ : ∃ E, E = encY A s len m := ⟨_, rfl⟩
 refine zId (key := 8) (yL PG n now now' c c' ln me w w' Ae K K') isY fxY (o := ⟨.exit 0, 1, fY n now' c' ln ln me, gX w' K' Ae⟩) rfl goodY E (scY A s len m) (scxY A s) (tbX A s) (tbxY A s) (fun i => by rw [hE]; rfl) 9 6 (by decide) (by decide) upsY rfl rfl rfl rfl
  (I := fun μ j i => j = 0 ∧ i ≤ len ∧ μ = len - i) (Post := fun i => i = len) (fun μ j i hI => midY h hme hI.2.1) (fun B μ j i hI => ?_) len 0 ⟨rfl, Nat.zero_le _, rfl⟩ ⟨hs.n, hs.now, hs.c 0 (by omega), hs.c 1 (by omega), hs.c 2 (by omega), hs.c 3 (by omega), rfl, hln, hm, trivial⟩ ⟨hs.w, hs.k.N, hs.k.B, hs.k.L, hs.k.C, hA, trivial⟩ (fun i hp => ?_)
 ·obtain ⟨rfl, hi, rfl⟩ := hI
  have hl := h.len
  have e6 := v6Y (A := A) (s := s) (m := m) (len := len) (i := i)
  have e7 := v7Y (A := A) (s := s) (m := m) (len := len) (i := i)
  by_cases hlt : i < len
  ·have w1 := wsY1 (A := A) (s := s) (m := m) (len := len) (i := i) (nX h.h (by omega))
   have run := run_y
   have hfun : ∀ V : @zAc ⟨csY.pc⟩, V.env = E i → ∀ S ∈ yF fns, @zAj ⟨csY.pc⟩ V Tryz.prog [] S := fun V hV => @funY A s N len i m ⟨csY.pc⟩ V hC h hlt (by rw [hV, hE])
   have hfx : Fx (E i) csY.pc := by
    rw [hE]
    refine .app (pcWY h hi) (zDt ⟨zBz ?_, zAm ?_, zAm ?_, zAm ?_, zAm ?_, trivial⟩)
    ·rw [e6, e7]; omega
    ·rw [e6]; show (0 : Int) ≤ _; omega
    ·rw [e6]; show _ ≤ (59 : Int); omega
    ·rw [e7]; show _ ≤ (60 : Int); omega
    ·rw [e6]; show _ ≤ (v 7).eval _ + (-1); rw [e7]; omega
   refine ⟨csY, i + 1, @manyLoops ⟨csY.pc⟩ PG [] [], callK csY.pc [] (yF fns), kRnd B _ _ _ _ (fun V hV S hS => by cases hS) hfun, ?_, hfx, .inr ⟨rfl, rfl, ?_, ?_⟩, .inl ⟨rfl, len - (i + 1), by omega, rfl, by omega, rfl⟩⟩
   ·exact run
   ·rw [hE]
    refine ⟨w1.n, w1.now, w1.c 0 (by omega), w1.c 1 (by omega), w1.c 2 (by omega), w1.c 3 (by omega), ?_, v7Y, v8Y, trivial⟩
    show (v 6).eval _ + 1 = ((i + 1 : Nat) : Int)
    rw [e6]; omega
   ·rw [hE]
    exact ⟨w1.w, w1.k.N, w1.k.B, w1.k.L, w1.k.C, t133Y, trivial⟩
  ·have run := run_yE
   have hfx : Fx (E i) csYE.pc := by
    rw [hE]
    exact .app (pcWY h hi) (zDt ⟨zAm (by rw [e6, e7]; omega), trivial⟩)
   refine ⟨csYE, i, @manyLoops ⟨csYE.pc⟩ PG [] [], callK csYE.pc [] [], kRnd B _ _ _ _ (fun V hV S hS => by cases hS) (fun V hV S hS => by cases hS), ?_, hfx, .inl ⟨rfl, rfl, rfl⟩, .inr ⟨by simp [csYE], rfl, rfl, by omega, midY h hme hi⟩⟩
   exact run
 ·subst hp
  exact ⟨⟨hs'.n, hs'.now, hs'.c 0 (by omega), hs'.c 1 (by omega), hs'.c 2 (by omega), hs'.c 3 (by omega), hln, hln, hm, trivial⟩, hs'.w, hs'.k.N, hs'.k.B, hs'.k.L, hs'.k.C, hA, trivial⟩
end
set_option maxRecDepth 1000000
noncomputable def runsV (J j : Nat) : Bool := zFp 4 17 76 (shV J PG) (oT J + 7) j (csV0 j) [tkV fns false] && (zFp 4 17 76 (shV J PG) (oT J + 7) j (csV1 J PG j) [tkV fns true] && zFp 4 17 76 (shV J PG) (oT J + 7) j (csVE j) [])
theorem runsV0 : (List.range 4).all (fun J => (List.range 11).all (runsV J)) = true := by kernel_rfl
theorem runsV1 : (List.range 4).all (fun J => (List.range 11).all (runsV (4 + J))) = true := by kernel_rfl
theorem runsV2 : (List.range 3).all (fun J => (List.range 11).all (runsV (8 + J))) = true := by kernel_rfl
theorem goodV0 : (List.range 11).all (fun J => (List.range 12).all fun j => zBk PG (shV J PG j)) = true := by kernel_rfl
theorem upsV0 : (List.range 11).all (fun J => (List.range 12).all fun j => (shV J PG j).ups 19 16) = true := by kernel_rfl
theorem isV : ((Tryz.prog.funcs[4]?).bind (·.body)).map (fun c => zBm 17 (subs c)) = some [zEf 4 17] := by kernel_rfl
theorem runsV_at {J j : Nat} (hJ : J ≤ 10) (hj : j ≤ 10) : zFp 4 17 76 (shV J PG) (oT J + 7) j (csV0 j) [tkV fns false] = true ∧ zFp 4 17 76 (shV J PG) (oT J + 7) j (csV1 J PG j) [tkV fns true] = true ∧ zFp 4 17 76 (shV J PG) (oT J + 7) j (csVE j) [] = true := by
 have two : ∀ {a n : Nat}, (List.range n).all (fun J => (List.range 11).all (runsV (a + J))) = true → a ≤ J → J < a + n → runsV J j = true := fun {a n} hr h1 h2 => by
  have := List.all_eq_true.1 (List.all_eq_true.1 hr (J - a) (List.mem_range.2 (by omega))) j (List.mem_range.2 (by omega))
  rw [show a + (J - a) = J by omega] at this
  exact this
 have : runsV J j = true := by
  by_cases h0 : J < 4
  ·exact List.all_eq_true.1 (List.all_eq_true.1 runsV0 J (List.mem_range.2 h0)) j (List.mem_range.2 (by omega))
  by_cases h1 : J < 8
  ·exact two runsV1 (by omega) (by omega)
  exact two runsV2 (by omega) (by omega)
 unfold runsV at this
 simp only [Bool.and_eq_true] at this
 exact this
theorem shV_min (J j : Nat) : shV J PG j = shV J PG (min j 11) := by unfold shV; rw [show min (min j 11) 11 = min j 11 by omega]
theorem goodV {J j : Nat} (hJ : J ≤ 10) : zBk PG (shV J PG j) = true := by
 rw [shV_min]
 exact List.all_eq_true.1 (List.all_eq_true.1 goodV0 J (List.mem_range.2 (by omega))) (min j 11) (List.mem_range.2 (by omega))
theorem upsV {J : Nat} (hJ : J ≤ 10) (j : Nat) : (shV J PG j).ups 19 16 = true := by
 rw [shV_min]
 exact List.all_eq_true.1 (List.all_eq_true.1 upsV0 J (List.mem_range.2 (by omega))) (min j 11) (List.mem_range.2 (by omega))
theorem fxV {J : Nat} : zAl (shV J PG) (oT J + 7) (((roR J).map Blk.fixed) ++ [false, false, false, false, false, false, false]) := fun i => by
 have hlen : (roR J ++ zDr (PG + oT J)).length = oT J + 7 := by
  unfold roR oT
  split <;> rfl
 have hb : (shV J PG i).bl = (roR J ++ zDr (PG + oT J)) ++ rowV (PG + oT J + 7) (min i 11) := (List.append_assoc _ _ _).symm
 refine ⟨?_, ?_, ?_⟩
 ·rw [hb, List.length_append, hlen]
  exact Nat.le_add_right _ _
 ·rw [hb, ← hlen, List.take_left, List.map_append]
  rfl
 ·rw [hb, ← hlen, List.drop_left]
  unfold rowV
  split
  ·rfl
  ·rw [List.all_eq_true]
   intro x hx
   rcases List.mem_append.1 hx with hx | hx
   ·simp only [List.mem_cons, List.not_mem_nil, or_false] at hx
    subst hx; rfl
   ·obtain ⟨k, _, rfl⟩ := List.mem_map.1 hx
    rfl
def scV (k : Nat) (x : SkS) (i : Nat) : List Int := [x.s.n, x.s.now, x.s.c 0, x.s.c 1, x.s.c 2, x.s.c 3, (k : Int), (i : Int)] ++ (List.range 11).map (zNk x.past)
def scxV (x : SkS) : List Int := [0, x.s.fin.c 0, x.s.fin.c 1, x.s.fin.c 2, x.s.fin.c 3, (x.s.raw.length : Int)]
def tbV (x : SkS) : List TT := [x.s.when_, x.s.k.N, x.s.k.B, x.s.k.L, x.s.k.C] ++ (List.range 11).map (zOy x.past)
def tbxV (x : SkS) : List TT := List.replicate 16 zBj ++ [x.s.fin.when_, x.s.fin.k.N, x.s.fin.k.B, x.s.fin.k.L, x.s.fin.k.C, zAs (sorted x.s.raw)]
def zJi (k : Nat) (x : SkS) (i : Nat) : Nat → Int := zCb (scV k x i ++ scxV x) (tbV x ++ tbxV x)
section
variable {k i : Nat} {x : SkS}
theorem oneV {a : Nat} {y : Int} (h : (scV k x i ++ scxV x)[a]? = some y) (ha : a < 128) : zJi k x i a = y := zAu h ha
theorem tabV {a : Nat} {X : TT} (h : (tbV x ++ tbxV x)[a - 128]? = some X) (h1 : 128 ≤ a) (h2 : a < 256) : zAg (zAw (zJi k x i) (.tab a)) X := zAq h h1 h2
theorem wsV0 : zDg (wsE (zJi k x i) (v 0) (v 1) C0 (.tab 128) K0) x.s := by
 refine ⟨show zJi k x i 0 = _ from oneV rfl (by decide), show zJi k x i 1 = _ from oneV rfl (by decide), tabV rfl (by decide) (by decide), ⟨tabV rfl (by decide) (by decide), tabV rfl (by decide) (by decide), tabV rfl (by decide) (by decide), tabV rfl (by decide) (by decide)⟩, fun r hr => ?_⟩
 rcases (show r = 0 ∨ r = 1 ∨ r = 2 ∨ r = 3 by omega) with rfl | rfl | rfl | rfl
 ·exact show zJi k x i 2 = _ from oneV rfl (by decide)
 ·exact show zJi k x i 3 = _ from oneV rfl (by decide)
 ·exact show zJi k x i 4 = _ from oneV rfl (by decide)
 ·exact show zJi k x i 5 = _ from oneV rfl (by decide)
theorem cV {r : Nat} (hr : r < 4) : cE (zJi k x i) C20 r = x.s.fin.c r := by
 rcases (show r = 0 ∨ r = 1 ∨ r = 2 ∨ r = 3 by omega) with rfl | rfl | rfl | rfl
 ·exact show zJi k x i 20 = _ from oneV rfl (by decide)
 ·exact show zJi k x i 21 = _ from oneV rfl (by decide)
 ·exact show zJi k x i 22 = _ from oneV rfl (by decide)
 ·exact show zJi k x i 23 = _ from oneV rfl (by decide)
theorem wV : zAg (zAw (zJi k x i) (.tab 160)) x.s.fin.when_ := tabV rfl (by decide) (by decide)
theorem kV : zEi (lkE (zJi k x i) K161) x.s.fin.k := ⟨tabV rfl (by decide) (by decide), tabV rfl (by decide) (by decide), tabV rfl (by decide) (by decide), tabV rfl (by decide) (by decide)⟩
theorem rV : (v 24).eval (zJi k x i) = x.s.raw.length := oneV rfl (by decide)
theorem tV : zAg (zAw (zJi k x i) (.tab 165)) (zAs (sorted x.s.raw)) := tabV rfl (by decide) (by decide)
theorem v6V : (v 6).eval (zJi k x i) = k := oneV rfl (by decide)
theorem v7V : (v 7).eval (zJi k x i) = i := oneV rfl (by decide)
theorem lV {a : Nat} (ha : a < 11) : (lenW a).eval (zJi k x i) = zNk x.past a := by
 refine oneV (a := 8 + a) ?_ (by omega)
 rw [List.getElem?_append_left (by simp [scV]; omega), Nat.add_comm 8 a]
 show ((List.range 11).map (zNk x.past))[a]? = _
 rw [List.getElem?_map, List.getElem?_range ha]; rfl
theorem uV {a : Nat} (ha : a < 11) : zAg (zAw (zJi k x i) (.tab (133 + a))) (zOy x.past a) := by
 refine tabV ?_ (by omega) (by omega)
 rw [show 133 + a - 128 = a + 5 by omega, List.getElem?_append_left (by simp [tbV]; omega)]
 show ((List.range 11).map (zOy x.past))[a]? = _
 rw [List.getElem?_map, List.getElem?_range ha]; rfl
theorem midV {N : Nat} (h : zIb N x) (hk : k ≤ 2000) (hi : i ≤ 2000) : zCr In64 (scV k x i ++ scxV x) ∧ zCr zDc (tbV x ++ tbxV x) := by
 obtain ⟨q, hq⟩ := h.q
 have hn := hq.rep.n1; have h0 := hq.now0; have h1 := h.now; have hm := h.mid
 obtain ⟨qt, qf, ha⟩ := zJo hq hm (by omega)
 have big : ∀ y : Int, 0 ≤ y → y ≤ 999000000 → In64 y := fun y a b => by unfold In64; omega
 have cc : ∀ {s : WS} {q : Int → List Int}, zEc s q → ∀ r, r < 4 → In64 (s.c r) := fun {s q} hq r hr => by
  have := hq.c_in hr
  exact big _ this.1 (by omega)
 have hl := ha.len
 have hN : ((x.s.n.toNat : Nat) : Int) = x.s.n := by omega
 have hp : ∀ l ∈ x.past, l.length ≤ 4096 ∧ ∀ t ∈ l, 0 ≤ t ∧ t < ((x.s.n.toNat : Nat) : Int) := fun l hl => by rw [hN]; exact h.past l hl
 refine ⟨.app (.app ⟨big _ (by omega) (by omega), big _ (by omega) (by omega), cc hq 0 (by omega), cc hq 1 (by omega), cc hq 2 (by omega), cc hq 3 (by omega), big _ (by omega) (by omega), big _ (by omega) (by omega), trivial⟩ (range1 fun a ha => ?_)) ⟨big 0 (by omega) (by omega), cc ha.fin 0 (by omega), cc ha.fin 1 (by omega), cc ha.fin 2 (by omega), cc ha.fin 3 (by omega), big _ (by omega) (by omega), trivial⟩,
  .app (.app ⟨hm.w, hm.k.N, hm.k.B, hm.k.L, hm.k.C, trivial⟩ (range1 fun a _ => tabP_mid (N := x.s.n.toNat) (by omega) hp a)) (.app (.of fun X hX => by rw [List.eq_of_mem_replicate hX]; exact zAy) ⟨ha.finM.w, ha.finM.k.N, ha.finM.k.B, ha.finM.k.L, ha.finM.k.C, zBf fun y hy => ?_, trivial⟩)⟩
 ·have := lenP_le hp a
  exact big _ this.1 (by omega)
 ·have := ha.th y (zDx.1 hy)
  exact big _ this.1 (by omega)
theorem tk_v (hC : zOd Tryz.prog zLp) {q : Int → List Int} (h : zEc x.s q) (hm : zEh x.s) (hnow : x.s.now + 1 ≤ 999000000) {b : Bool} (hb : b = true ↔ x.s.raw ≠ []) [F : Facts] [V : zAc] (hV : V.env = zJi k x i) : zAj Tryz.prog [] (tkV fns b) := by
 have w := wsV0 (k := k) (x := x) (i := i)
 obtain ⟨s', hs'⟩ : ∃ s', s' = wsE (zJi k x i) (v 0) (v 1) C0 (.tab 128) K0 := ⟨_, rfl⟩
 rw [← hs'] at w
 have hr := zJs w
 have hf := zMt w
 refine zNl (s := s') (q := q) hC (by rw [hV]; exact hs'.symm) (h.of w) (hm.of w) (by rw [w.now]; exact hnow) ?_ ?_ ?_ (fun r hr4 => ?_) ?_ ?_ (by rw [hr]; exact hb)
 all_goals rw [hV]
 ·rw [hr]; exact rV
 ·show zJi k x i 1 + 1 = s'.now + 1
  rw [show zJi k x i 1 = x.s.now from oneV rfl (by decide), w.now]
 ·exact wV.trans hf.w.symm
 ·rw [hf.c r hr4]; exact cV hr4
 ·exact kV.trans hf.k.symm
 ·rw [hr]; exact tV
end
theorem replE {env : Nat → Int} : Ev env (List.replicate 11 (L 0)) ((List.range 11).map (zNk [])) := repl2 fun i _ => by unfold zNk; rfl
theorem replR {env : Nat → Int} : Rw env (List.replicate 11 zS) ((List.range 11).map (zOy [])) := repl2 fun i _ => by unfold zOy; exact zDq env
theorem v_proof [F : Facts] [V : zAc] (hC : zOd Tryz.prog zLp) {J k : Nat} {s : WS} (h : zIb 10 ⟨s, k, []⟩) (hk2 : k ≤ 1999) (hJ : (zCt k ⟨s, k, []⟩).past.length = J) {n now now' ke w w' : SE} {c c' : C4} {K K' : K4} {ls ts : List SE} (hs : zDg (wsE V.env n now c w K) s) (hke : ke.eval V.env = k)
  (hs' : zDg (wsE V.env n now' c' w' K') (zCt k ⟨s, k, []⟩).s) (hls : Ev V.env ls ((List.range 11).map (zNk (zCt k ⟨s, k, []⟩).past))) (hts : Rw V.env ts ((List.range 11).map (zOy (zCt k ⟨s, k, []⟩).past))) : zAp Tryz.prog [] (vL J PG n now now' c c' ke w w' K K' ls ts) := by
 obtain ⟨x, hx⟩ : ∃ x : Nat → SkS, x = fun i => tks i ⟨s, k, []⟩ := ⟨_, rfl⟩
 have hxs : ∀ i, x (i + 1) = (x i).next := fun i => by rw [hx]; exact tks_succ
 have hinv : ∀ i, i ≤ k → zIb 10 (x i) ∧ (x i).k = k - i ∧ (x i).s.n = s.n := fun i hi => by rw [hx]; exact tks_inv h hi
 have hend : (x k).s = (zCt k ⟨s, k, []⟩).s ∧ (x k).past = (zCt k ⟨s, k, []⟩).past := by rw [hx]; exact tks_skips h rfl
 have hlen : ∀ i, i ≤ k → (x i).past.length ≤ 10 := fun i hi => by
  have := (hinv i hi).1.room
  have := zLw (s := (x i).s)
  omega
 have hJ10 : J ≤ 10 := by
  rw [← hJ, ← hend.2]
  exact hlen k (Nat.le_refl k)
 have h0 : x 0 = ⟨s, k, []⟩ := by rw [hx]; rfl
 obtain ⟨E, hE⟩ : ∃ E, E = fun i => zJi k (x i) i := ⟨_, rfl⟩
 have hll := hls.len
 have htl := hts.len
 simp only [List.length_map, List.length_range] at hll htl
 refine zId (key := 17) (vL J PG n now now' c c' ke w w' K K' ls ts) isV fxV (o := ⟨.exit 2, J, fV n now' c' ke ke ++ ls, gW w' K' ++ ts⟩) rfl (goodV hJ10) E (fun i => scV k (x i) i) (fun i => scxV (x i)) (fun i => tbV (x i)) (fun i => tbxV (x i)) (fun i => by rw [hE]; rfl) 19 16 (by decide) (by decide) (upsV hJ10) rfl rfl (by show ls.length + 1 + 1 + 1 + 1 + 1 + 1 + 1 + 1 = 19; omega) (by show ts.length + 1 + 1 + 1 + 1 + 1 = 16; omega)
  (I := fun μ j i => j = (x i).past.length ∧ i ≤ k ∧ μ = k - i) (Post := fun i => i = k) (fun μ j i hI => midV (hinv i hI.2.1).1 (by omega) (by omega)) (fun B μ j i hI => ?_) k 0 ⟨by rw [h0]; rfl, Nat.zero_le _, rfl⟩ ?_ ?_ (fun i hp => ?_)
 ·obtain ⟨rfl, hi, rfl⟩ := hI
  obtain ⟨hv, hvk, hvn⟩ := hinv i hi
  obtain ⟨q, hq⟩ := hv.q
  have hnow := hv.now
  have w0 := wsV0 (k := k) (x := x i) (i := i)
  have e6 := v6V (k := k) (x := x i) (i := i)
  have e7 := v7V (k := k) (x := x i) (i := i)
  obtain ⟨r1, r2, r3⟩ := runsV_at hJ10 (hlen i hi)
  have pw : Fx (zJi k (x i) i) pcW := by
   refine zDw hq.toWBase hv.mid w0.n w0.now fun r hr => ?_
   rcases (show r = 0 ∨ r = 1 ∨ r = 2 ∨ r = 3 by omega) with rfl | rfl | rfl | rfl
   ·exact w0.c 0 (by omega)
   ·exact w0.c 1 (by omega)
   ·exact w0.c 2 (by omega)
   ·exact w0.c 3 (by omega)
  by_cases hlt : i < k
  ·have hnx := hxs i
   have hkeep := zFw (s := (x i).s)
   have pv : zCr (Says (zJi k (x i) i)) pcV := by
    refine .app (zIz pw) (.app ⟨zBz (by rw [e6, e7]; omega), trivial⟩ (.app (zIz (zAv ?_ ?_)) (zIz (zAv ?_ ?_))))
    ·rw [e7]; show (0 : Int) ≤ _; omega
    ·rw [e7]; show _ ≤ (1999 : Int); omega
    ·rw [e6]; show (0 : Int) ≤ _; omega
    ·rw [e6]; show _ ≤ (1999 : Int); omega
   have ei : (add (v 7) (L 1)).eval (zJi k (x i) i) = ((i + 1 : Nat) : Int) := by
    show (v 7).eval _ + 1 = _
    rw [e7]; omega
   have en : (add (v 1) (L 1)).eval (zJi k (x i) i) = (x i).s.fin.now := by
    rw [hkeep.2]
    show (v 1).eval _ + 1 = _
    rw [show (v 1).eval (zJi k (x i) i) = (x i).s.now from w0.now]
   have n0 : (v 0).eval (zJi k (x i) i) = (x i).s.fin.n := w0.n.trans hkeep.1.symm
   have hfun : ∀ {b : Bool}, (b = true ↔ (x i).s.raw ≠ []) → ∀ {pc : List (SB × Bool)} (V : @zAc ⟨pc⟩), V.env = E i → ∀ S ∈ [tkV fns b], @zAj ⟨pc⟩ V Tryz.prog [] S := fun {b} hb {pc} V hV S hS => by
    simp only [List.mem_cons, List.not_mem_nil, or_false] at hS
    subst hS
    exact @tk_v k i (x i) hC q hq hv.mid (by omega) b hb ⟨pc⟩ V (by rw [hV, hE])
   by_cases hr : (x i).s.raw = []
   ·have e1 : x (i + 1) = ⟨(x i).s.fin, (x i).k - 1, (x i).past⟩ := by rw [hnx]; unfold SkS.next; rw [if_pos hr]
    refine ⟨csV0 (x i).past.length, i + 1, noLoops, zCg (csV0 (x i).past.length).pc [tkV fns false], zDo B _ _ _ (hfun (by simp [hr])), ?_, by rw [hE]; exact zDt pv, .inr ⟨rfl, rfl, ?_, ?_⟩, .inl ⟨rfl, k - (i + 1), by omega, by rw [e1]; rfl, by omega, rfl⟩⟩
    ·exact r1
    ·rw [hE]
     show Ev (zJi k (x i) i) (fVn ++ (List.range 11).map lenW) (scV k (x (i + 1)) (i + 1))
     rw [e1]
     exact .app ⟨n0, en, cV (r := 0) (by omega), cV (r := 1) (by omega), cV (r := 2) (by omega), cV (r := 3) (by omega), e6, ei, trivial⟩ (zLb fun a ha => lV ha)
    ·rw [hE]
     show Rw (zJi k (x i) i) (gVn ++ (List.range 11).map fun i => SE.tab (133 + i)) (tbV (x (i + 1)))
     rw [e1]
     have kk := kV (k := k) (x := x i) (i := i)
     exact .app ⟨wV, kk.N, kk.B, kk.L, kk.C, trivial⟩ (zLb fun a ha => uV ha)
   ·have e1 : x (i + 1) = ⟨(x i).s.fin, (x i).k - 1, (x i).past ++ [sorted (x i).s.raw]⟩ := by rw [hnx]; unfold SkS.next; rw [if_neg hr]
    obtain ⟨_, _, _, _, n5⟩ := hv.next (by omega)
    have hj9 := n5 hr
    obtain ⟨qt, qf, ha⟩ := zJo hq hv.mid (by omega)
    have hrl := ha.len
    have hr1 := List.length_pos_iff.2 hr
    have hfx : Fx (E i) (csV1 J PG (x i).past.length).pc := by
     rw [hE]
     refine zDt (.app pv (zIz (zAv ?_ ?_)))
     ·rw [rV]; show (1 : Int) ≤ _; omega
     ·rw [rV]; show _ ≤ (4096 : Int); omega
    refine ⟨csV1 J PG (x i).past.length, i + 1, noLoops, zCg (csV1 J PG (x i).past.length).pc [tkV fns true], zDo B _ _ _ (hfun (by simp [hr])), ?_, hfx, .inr ⟨rfl, rfl, ?_, ?_⟩, .inl ⟨rfl, k - (i + 1), by omega, by rw [e1]; simp [csV1], by omega, rfl⟩⟩
    ·exact r2
    ·rw [hE]
     show Ev (zJi k (x i) i) (fVn ++ lens11 (x i).past.length (v 24)) (scV k (x (i + 1)) (i + 1))
     rw [e1]
     refine .app ⟨n0, en, cV (r := 0) (by omega), cV (r := 1) (by omega), cV (r := 2) (by omega), cV (r := 3) (by omega), e6, ei, trivial⟩ (zLb fun a ha => ?_)
     rw [lenP_more, zEt]
     by_cases e : a = (x i).past.length
     ·rw [if_pos e, if_pos e]; exact rV
     ·rw [if_neg e, if_neg e]; exact lV ha
    ·rw [hE]
     show Rw (zJi k (x i) i) (gVn ++ tabs11 (x i).past.length (.tab 165)) (tbV (x (i + 1)))
     rw [e1]
     have kk := kV (k := k) (x := x i) (i := i)
     refine .app ⟨wV, kk.N, kk.B, kk.L, kk.C, trivial⟩ (zLb fun a ha => ?_)
     rw [tabP_more]
     by_cases e : a = (x i).past.length
     ·rw [if_pos e, if_pos e]; exact tV
     ·rw [if_neg e, if_neg e]; exact uV ha
  ·have hik : i = k := by omega
   have hfx : Fx (E i) (csVE (x i).past.length).pc := by
    rw [hE]
    exact .app pw (zDt ⟨zAm (by rw [e6, e7]; omega), trivial⟩)
   refine ⟨csVE (x i).past.length, i, noLoops, zCg (csVE (x i).past.length).pc [], zDo B _ _ _ (fun V hV S hS => by cases hS), ?_, hfx, .inl ⟨rfl, rfl, rfl⟩, .inr ⟨by simp [csVE], rfl, ?_, hik, midV hv (by omega) (by omega)⟩⟩
   ·exact r3
   ·show (x i).past.length = J
    rw [hik, hend.2, hJ]
 ·show Ev V.env (fV n now c ke (L 0) ++ List.replicate 11 (L 0)) (scV k (x 0) 0)
  rw [h0]
  exact .app ⟨hs.n, hs.now, hs.c 0 (by omega), hs.c 1 (by omega), hs.c 2 (by omega), hs.c 3 (by omega), hke, rfl, trivial⟩ replE
 ·show Rw V.env (gW w K ++ List.replicate 11 zS) (tbV (x 0))
  rw [h0]
  exact .app ⟨hs.w, hs.k.N, hs.k.B, hs.k.L, hs.k.C, trivial⟩ replR
 ·subst hp
  refine ⟨?_, ?_⟩
  ·show Ev V.env (fV n now' c' ke ke ++ ls) (scV i (x i) i)
   unfold scV
   rw [hend.1, hend.2]
   exact .app ⟨hs'.n, hs'.now, hs'.c 0 (by omega), hs'.c 1 (by omega), hs'.c 2 (by omega), hs'.c 3 (by omega), hke, hke, trivial⟩ hls
  ·show Rw V.env (gW w' K' ++ ts) (tbV (x i))
   unfold tbV
   rw [hend.1, hend.2]
   exact .app ⟨hs'.w, hs'.k.N, hs'.k.B, hs'.k.L, hs'.k.C, trivial⟩ hts
end Go.Proofs.YtaliacnncemneaaGreat.wheels
end
