/- The law's loop, its walk. Conditions: those that each theorem names. -/
import Derived.Test.YtaliacnncemneaaGreatWheelDone
import Derived.Test.YtaliacnncemneaaGreatWheelShelf
open Go
noncomputable section
namespace Go.Proofs.Wheels
open Go.Abs
def aT (n : SE) : Blk := .arr [.i .i64, .i .i64, .i .i64] (.tab 133) n true
def s3 (b : Nat) (n : SE) : AV := .ss b 3 (.lit 0) n
def lawB (G : Nat) : List Blk := zEe G ++ zPe (G + 7) ++ [aT (v 7)]
def shX (G : Nat) : Nat → Shape
 | 0 => ⟨[(5, .ptr G 0), (6, .ptr (G + 7) 0), (31, s3 (G + 9) (v 7)), (32, X 7), (33, X 6)], lawB G⟩
 | _ => ⟨[(5, .ptr G 0), (6, .ptr (G + 7) 0)], lawB G⟩
def nmX (st : St) (s : HS) : List Nat := zJp s (st.t.get 5) ++ refOf s (st.t.get 6) ++ ssOf (st.t.get 31)
def K135 : K4 := ⟨.tab 135, .tab 136, .tab 137, .tab 138⟩
def fX (n now : SE) (c : C4) (i len : SE) : List SE := [n, now, c.a, c.b, c.c, c.d, i, len]
def gX (w : SE) (K : K4) (A : SE) : List SE := [w, K.a, K.b, K.c, K.d, A]
def xL (G : Nat) (n now now' : SE) (c c' : C4) (len w w' A : SE) (K K' : K4) : zAd := ⟨3, 10, 135, shX G, fX n now c (L 0) len, gX w K A, nmX, [⟨.exit 0, 1, fX n now' c' len len, gX w' K' A⟩], 10⟩
def kiS : SE := .sel (.tab 133) (v 6) 0
def idS : SE := .sel (.tab 133) (v 6) 1
def nnS : SE := .sel (.tab 133) (v 6) 2
def sum4 (c : C4) : SE := add (add (add c.a c.b) c.c) c.d
def topS : SE := sel 139 (L 0)
def xF (f : Fns) (b : Bool) : List zAj := [actS 8 f.G (v 0) (v 1) (v 8) C0 C9 kiS idS nnS (.tab 128) (.tab 134) K0 K135, wallS 16 f.G (v 0) (v 8) C9 (v 13) (.tab 134) K135 (.tab 139) b, mallS 11 f.G (v 0) (v 8) (v 13) (.tab 134) (.tab 139) b, mnextS 13 f.G (v 0) (v 8) (v 14) (.tab 134) b]
def pcX : List (SB × Bool) := pcW ++ ([nle (v 7) (v 6), le (L 0) (v 6), le (v 6) (L 59), le (v 7) (L 60), le (v 6) (add (v 7) (L (-1)))] ++ (inR (L 0) (v 8) (L most) ++ (inR (L 0) (v 9) (L 4096) ++ (inR (L 0) (v 10) (L 4096) ++ (inR (L 0) (v 11) (L 4096) ++ inR (L 0) (v 12) (L 4096))))))
def pcXb (b : Bool) : List (SB × Bool) := if b then inR (L 1) (v 13) (L 4096) ++ [eq (sum4 C9) (v 13)] ++ inR (L 0) topS n1 ++ [eq (sel 134 topS) (v 14), nle (v 14) (L 0)] else [eq (sum4 C9) (L 0)]
def pcXi : Nat → List (SB × Bool)
 | 0 => [nle (L 0) idS]
 | 1 => [le (L 0) idS, le (v 0) idS]
 | 2 => [le (L 0) idS, le idS n1, eq (.sel (.tab 134) idS 0) (L 0)]
 | _ => [le (L 0) idS, le idS n1, nle (.sel (.tab 134) idS 0) (L 0)]
def csX (b : Bool) (i : Nat) : Case := ⟨pcX ++ (pcXb b ++ pcXi i), .normal, 0, [v 0, v 8, v 9, v 10, v 11, v 12, add (v 6) (L 1), v 7], [.tab 134, .tab 135, .tab 136, .tab 137, .tab 138, .tab 133], []⟩
def csXE : Case := ⟨pcW ++ [le (v 7) (v 6)], .exit 0, 1, [], [], []⟩
end Go.Proofs.Wheels
namespace Go.Abs
variable {P : Program} {H : Type} {enc : TypeId × Value → H} {w : World} {base : Nat} {spare : Nat → Bool} {held : Bool}
theorem scalar_int {t : TypeId} {k : IntKind} {fuel : Nat} {cs : List Value} {y : DataW H × List MemPlace} (hk : zIu P t = some (.i k)) (h : DataW.trod enc P w base spare held fuel t cs = some y) : ∃ n, cs = [.int k n] ∧ kmin k ≤ n ∧ n ≤ kmax k := by
 unfold zIu at hk
 split at hk <;> cases hk
 rename_i hu
 obtain ⟨n, rfl, _, hw⟩ := DataW.trod_int hu h
 simp only [Lit.wf, Bool.and_eq_true, decide_eq_true_eq] at hw
 exact ⟨n, rfl, has_mid hw⟩
theorem kinds_int {e : TypeId} {ks : List CK} {fuel : Nat} {cs : List Value} {y : DataW H × List MemPlace} (hk : kindsA P e = some ks) (h : DataW.trod enc P w base spare held fuel e cs = some y) :
  ∀ (c : Nat) (k : IntKind), ks[c]? = some (.i k) → ∃ n, cs[c]? = some (.int k n) ∧ kmin k ≤ n ∧ n ≤ kmax k := by
 unfold kindsA at hk
 split at hk
 ·rename_i fs hu
  obtain ⟨xs, m, _, _, _, hn, hel⟩ := DataW.trod_struct hu h
  obtain ⟨_, hg⟩ := kindsF_get hk
  intro c k hc
  obtain ⟨f, g1, g2, g3, g4⟩ := hg c _ hc
  have hf : fs[c]? = some f := by simpa using g1
  have hx := hel c f hf
  have hlt : c < xs.length := by
   rw [hn]
   exact (Array.getElem?_eq_some_iff.1 hf).1
  rw [List.getElem?_eq_getElem hlt, g2, g3, Nat.zero_add] at hx
  obtain ⟨n, e1, e2⟩ := scalar_int g4 hx
  refine ⟨n, ?_, e2⟩
  have := congrArg (fun l => l[0]?) e1
  simpa using this
 ·split at hk
  ·rename_i k hs
   cases hk
   intro c k' hc
   cases c with
   | zero =>
    simp only [List.getElem?_cons_zero, Option.some.injEq] at hc
    subst hc
    obtain ⟨n, e1, e2⟩ := scalar_int hs h
    subst e1
    exact ⟨n, rfl, e2⟩
   | succ c => simp at hc
  ·cases hk
theorem rows_int {t e : TypeId} {ks : List CK} {fuel b o len cap : Nat} {y : DataW H × List MemPlace} {arr : Array Value} {el : TypeId} {fz : Nat × Nat} (ht : P.underlying t = some (.slice e)) (hk : kindsA P e = some ks) (hz : P.cellsOf e = ks.length)
  (h : DataW.trod enc P w base spare held fuel t [.slice (some ⟨b, o, none⟩) len cap] = some y) (ha : w.heap[b]? = some (.cells arr el fz)) : ∀ (r c : Nat) (k : IntKind) (n : Int), r < len → ks[c]? = some (.i k) → arr[o + (r * ks.length + c)]? = some (.int k n) → kmin k ≤ n ∧ n ≤ kmax k := by
 intro r c k n hr hc hx
 rcases DataW.trod_slice ht h with ⟨e, _⟩ | ⟨a, len', cap', elems, rest, m, _, e, _, hb, hl, hm, hlen, hel, _, _⟩
 ·cases e
 ·cases e
  have := hel r hr
  rw [List.getElem?_eq_getElem (by omega), hz, Option.bind_eq_some_iff] at this
  obtain ⟨cs', h1, h2⟩ := this
  obtain ⟨n', e1, e2⟩ := kinds_int hk h2 c k hc
  have hlt := (List.getElem?_eq_some_iff.1 hc).1
  have hcc := (World.cells?_some h1).2.2 c hlt
  rw [zCe, zCe, cell_of ha] at hcc
  rw [show o + (r * ks.length + c) = o + r * ks.length + c by omega, hcc, e1] at hx
  cases hx
  exact e2
end Go.Abs
namespace Go.Proofs.Wheels
open Go.Abs Go.Proofs.YtaliacnncemneaaGreat.wheels
theorem allM_wait {M : TT} : ∀ {i : Nat}, ((allM M i).length : Int) = waitM M i := by
 intro i
 induction i with
 | zero => rfl
 | succ i ih =>
  unfold waitM at ih ⊢
  unfold allM zKy
  by_cases h : g0 M i = 0
  ·rw [if_pos h, ih]
   simp [h]
  ·rw [if_neg h, insAt_len insK_le]
   simp [h, ← ih]
theorem list_top {l : List Int} : g0 (zAp l) 0 = l.headD 0 := by
 cases l <;> rfl
theorem allM_top {M : TT} {N : Nat} {t : Int} (h : RefT N t M) (hne : allM M N ≠ []) : 0 < zAk M N ∧ g0 M ((allM M N).headD 0) = zAk M N ∧ 0 ≤ (allM M N).headD 0 ∧ (allM M N).headD 0 < N := by
 have hp : ∀ k : Nat, k < N → 0 ≤ g0 M k := fun k hk => (h.w k (by omega) (by omega)).1
 have hs := zLs (M := M) (i := N)
 obtain ⟨x, l, e⟩ : ∃ x l, allM M N = x :: l := by
  cases e : allM M N with
  | nil => exact absurd e hne
  | cons x l => exact ⟨x, l, rfl⟩
 have hx := zFj.1 (show x ∈ allM M N by rw [e]; exact .head _)
 obtain ⟨k, hk⟩ : ∃ k : Nat, x = k := ⟨x.toNat, by omega⟩
 have hb := zLr h (Nat.le_refl N)
 have hb0 : zAk M N ≠ 0 := fun h0 => hx.2.2 (by rw [hk]; exact best_zero hp h0 k (by omega))
 obtain ⟨⟨j, j1, j2⟩, hl⟩ := zIs hp (by omega)
 have h1 := hl k (by omega) (by rw [← hk]; exact hx.2.2)
 rw [← hk] at h1
 have hj : (j : Int) ∈ allM M N := zFj.2 ⟨by omega, by omega, by omega⟩
 rw [e] at hj hs ⊢
 have h2 : g0 M x ≤ zAk M N := by
  rcases List.mem_cons.1 hj with g | g
  ·rw [← g, j2]; exact Int.le_refl _
  ·have := of_lessAt ((List.pairwise_cons.1 hs).1 _ g)
   omega
 exact ⟨by omega, by show g0 M x = _; omega, hx.1, hx.2.1⟩
theorem allM_none {M : TT} {N : Nat} {t : Int} (h : RefT N t M) (hne : allM M N = []) : zAk M N = 0 := by
 have hp : ∀ k : Nat, k < N → 0 ≤ g0 M k := fun k hk => (h.w k (by omega) (by omega)).1
 have hb := zLr h (Nat.le_refl N)
 refine Classical.byContradiction fun h0 => ?_
 obtain ⟨⟨j, j1, j2⟩, hl⟩ := zIs hp (by omega)
 have hj : (j : Int) ∈ allM M N := zFj.2 ⟨by omega, by omega, by omega⟩
 rw [hne] at hj
 cases hj
theorem zOo.ref {N R : Nat} {T : Int} {s : WS} (h : zOo N R T s) (hT : T + 65535 ≤ 999000000) : RefT N s.now s.when_ := by
 obtain ⟨q, hq⟩ := h.q
 have hn := hq.rep.n1; have h0 := hq.now0; have h1 := h.now; have hN := h.n
 refine ⟨⟨by omega, ⟨h0, by unfold most; omega⟩, h.w⟩, fun k k0 k1 => ?_⟩
 rcases hq.w k k0 (by omega) with g | g
 ·rw [g.1]; exact ⟨Int.le_refl _, by unfold most; omega⟩
 ·exact ⟨by omega, by unfold most; omega⟩
theorem zOo.len {N R : Nat} {T : Int} {s : WS} (h : zOo N R T s) : s.len = (allM s.when_ N).length := by
 obtain ⟨q, hq⟩ := h.q
 rw [zJc hq, wait_eq h.n, allM_wait]
def stA (A : TT) (s : WS) : Nat → WS
 | 0 => s
 | i + 1 => (stA A s i).act (A i 0) (A i 1) (A i 2)
theorem stA_i {A : TT} {s : WS} {N : Nat} (h : zOo N 0 0 s) : ∀ i : Nat, i ≤ 1000 → zOo N i (3000 * i) (stA A s i) := by
 intro i
 induction i with
 | zero => intro _; exact h
 | succ i ih =>
  intro hi
  have := (ih (by omega)).act (by omega) (A i 0) (A i 1) (A i 2)
  exact this.more (Nat.le_refl _) (by omega)
theorem new_act {N : Nat} (h1 : 1 ≤ N) (h2 : N ≤ 4096) : zOo N 0 0 (WS.new N) := by
 refine zOo.of ⟨_, new_inv h1 h2⟩ (new_mid h2) rfl (Int.le_refl _) ?_
 show zKy (fun t => !decide (g0 zBo t = 0)) (N : Int).toNat ≤ ((0 : Nat) : Int)
 rw [cntP_no fun i _ => by simp [g0, zBo]]
 exact Int.le_refl _
end Go.Proofs.Wheels
namespace Go.Proofs.YtaliacnncemneaaGreat.wheels
open Go.Abs Go.Proofs.Wheels
set_option maxRecDepth 1000000
theorem isX : ((Tryz.prog.funcs[3]?).bind (·.body)).map (fun c => zBn 10 (subs c)) = some [zDw 3 10] := by kernel_rfl
theorem fxX : zAm (shX PG) 10 [false, false, false, false, false, false, false, false, false, true] := fun i => by rcases i with _ | i <;> exact ⟨Nat.le_refl 10, rfl, rfl⟩
theorem goodX : zBj PG (shX PG 1) = true := by kernel_rfl
theorem upsX : ∀ i, (shX PG i).ups 8 6 = true := fun i => by rcases i with _ | i <;> kernel_rfl
noncomputable def runKL (fn key nt : Nat) (shapes : Nat → Shape) (stay i : Nat) (c : Case) (ls : List zAd) (fs : List zAj) : Bool :=
 (@code ⟨c.pc⟩ Tryz.prog (@manyLoops ⟨c.pc⟩ PG [] ls) (callK c.pc ls fs) none fn fuel (zDw fn key) ⟨tmps (shapes i).t, nt, [.rest]⟩ ((shapes i).heap PG [])).every NN (@Case.chk ⟨c.pc⟩ PG nt stay (shapes c.to) c)
theorem kRnd (B : Nat) (pc : List (SB × Bool)) (env : Nat → Int) (ls : List zAd) (fs : List zAj) (hl : ∀ V : @zAc ⟨pc⟩, V.env = env → ∀ S ∈ ls, @zAq ⟨pc⟩ V Tryz.prog [] S) (h : ∀ V : @zAc ⟨pc⟩, V.env = env → ∀ S ∈ fs, @zAl ⟨pc⟩ V Tryz.prog [] S) :
  Rnd Tryz.prog B pc env (@manyLoops ⟨pc⟩ PG [] ls) (callK pc ls fs) :=
 ⟨fun V hV => letI : Facts := ⟨pc⟩; letI := V; zDo (hl V hV), fun V hV => letI : Facts := ⟨pc⟩; letI := V; zEu (hl V hV) B, fun V hV => callK_ok B V (hl V hV) (h V hV)⟩
theorem run_x0 : runKL 3 10 135 (shX PG) 10 0 (csX true 0) [] (xF fns true) = true := by kernel_rfl
theorem run_x1 : runKL 3 10 135 (shX PG) 10 0 (csX true 1) [] (xF fns true) = true := by kernel_rfl
theorem run_x2 : runKL 3 10 135 (shX PG) 10 0 (csX true 2) [] (xF fns true) = true := by kernel_rfl
theorem run_x3 : runKL 3 10 135 (shX PG) 10 0 (csX true 3) [] (xF fns true) = true := by kernel_rfl
theorem run_y0 : runKL 3 10 135 (shX PG) 10 0 (csX false 0) [] (xF fns false) = true := by kernel_rfl
theorem run_y1 : runKL 3 10 135 (shX PG) 10 0 (csX false 1) [] (xF fns false) = true := by kernel_rfl
theorem run_y2 : runKL 3 10 135 (shX PG) 10 0 (csX false 2) [] (xF fns false) = true := by kernel_rfl
theorem run_xE : runKL 3 10 135 (shX PG) 10 0 csXE [] [] = true := by kernel_rfl
theorem run_X {b : Bool} {k : Nat} (hk : k < 4) (h3 : k = 3 → b = true) : runKL 3 10 135 (shX PG) 10 0 (csX b k) [] (xF fns b) = true := by
 rcases (show k = 0 ∨ k = 1 ∨ k = 2 ∨ k = 3 by omega) with rfl | rfl | rfl | rfl
 ·cases b
  ·exact run_y0
  ·exact run_x0
 ·cases b
  ·exact run_y1
  ·exact run_x1
 ·cases b
  ·exact run_y2
  ·exact run_x2
 ·cases h3 rfl
  exact run_x3
theorem sel_col (env : Nat → Int) (a c : Nat) (e : SE) : (SE.sel (.tab a) e c).eval env = zAv env (.tab a) (e.eval env).toNat c := by
 show env (zDl a (e.eval env) c) = env (zDl a ((e.eval env).toNat : Int) c)
 unfold zDl
 rw [Int.toNat_natCast]
section
variable (A : TT) (s : WS) (N len i : Nat)
def scX : List Int := [(stA A s i).n, (stA A s i).now, (stA A s i).c 0, (stA A s i).c 1, (stA A s i).c 2, (stA A s i).c 3, (i : Int), (len : Int)]
def scxX : List Int := [(stA A s (i + 1)).now, (stA A s (i + 1)).c 0, (stA A s (i + 1)).c 1, (stA A s (i + 1)).c 2, (stA A s (i + 1)).c 3, ((allM (stA A s (i + 1)).when_ N).length : Int), zAk (stA A s (i + 1)).when_ N]
def tbX : List TT := [(stA A s i).when_, (stA A s i).k.N, (stA A s i).k.B, (stA A s i).k.L, (stA A s i).k.C, A]
def tbxX : List TT := [(stA A s (i + 1)).when_, (stA A s (i + 1)).k.N, (stA A s (i + 1)).k.B, (stA A s (i + 1)).k.L, (stA A s (i + 1)).k.C, zAp (allM (stA A s (i + 1)).when_ N)]
def zIh : Nat → Int := zBw (scX A s len i ++ scxX A s N i) (tbX A s i ++ tbxX A s N i)
end
section
variable {A : TT} {s : WS} {N len i : Nat}
theorem oneX {k : Nat} {x : Int} (h : (scX A s len i ++ scxX A s N i)[k]? = some x) (hk : k < 128) : zIh A s N len i k = x := zAx h hk
theorem tabX {a : Nat} {X : TT} (h : (tbX A s i ++ tbxX A s N i)[a - 128]? = some X) (h1 : 128 ≤ a) (h2 : a < 256) : zAf (zAv (zIh A s N len i) (.tab a)) X := zAr h h1 h2
theorem wsX0 : zDx (wsE (zIh A s N len i) (v 0) (v 1) C0 (.tab 128) K0) (stA A s i) := by
 refine ⟨show zIh A s N len i 0 = _ from oneX rfl (by decide), show zIh A s N len i 1 = _ from oneX rfl (by decide), tabX rfl (by decide) (by decide), ⟨tabX rfl (by decide) (by decide), tabX rfl (by decide) (by decide), tabX rfl (by decide) (by decide), tabX rfl (by decide) (by decide)⟩, fun r hr => ?_⟩
 rcases (show r = 0 ∨ r = 1 ∨ r = 2 ∨ r = 3 by omega) with rfl | rfl | rfl | rfl
 ·exact show zIh A s N len i 2 = _ from oneX rfl (by decide)
 ·exact show zIh A s N len i 3 = _ from oneX rfl (by decide)
 ·exact show zIh A s N len i 4 = _ from oneX rfl (by decide)
 ·exact show zIh A s N len i 5 = _ from oneX rfl (by decide)
theorem wsX1 (hn : (stA A s i).n = (stA A s (i + 1)).n) : zDx (wsE (zIh A s N len i) (v 0) (v 8) C9 (.tab 134) K135) (stA A s (i + 1)) := by
 refine ⟨hn ▸ (show zIh A s N len i 0 = _ from oneX rfl (by decide)), show zIh A s N len i 8 = _ from oneX rfl (by decide), tabX rfl (by decide) (by decide), ⟨tabX rfl (by decide) (by decide), tabX rfl (by decide) (by decide), tabX rfl (by decide) (by decide), tabX rfl (by decide) (by decide)⟩, fun r hr => ?_⟩
 rcases (show r = 0 ∨ r = 1 ∨ r = 2 ∨ r = 3 by omega) with rfl | rfl | rfl | rfl
 ·exact show zIh A s N len i 9 = _ from oneX rfl (by decide)
 ·exact show zIh A s N len i 10 = _ from oneX rfl (by decide)
 ·exact show zIh A s N len i 11 = _ from oneX rfl (by decide)
 ·exact show zIh A s N len i 12 = _ from oneX rfl (by decide)
theorem v6X : (v 6).eval (zIh A s N len i) = i := oneX rfl (by decide)
theorem v7X : (v 7).eval (zIh A s N len i) = len := oneX rfl (by decide)
theorem v13X : (v 13).eval (zIh A s N len i) = (allM (stA A s (i + 1)).when_ N).length := oneX rfl (by decide)
theorem v14X : (v 14).eval (zIh A s N len i) = zAk (stA A s (i + 1)).when_ N := oneX rfl (by decide)
theorem t133X : zAf (zAv (zIh A s N len i) (.tab 133)) A := tabX rfl (by decide) (by decide)
theorem t139X : zAf (zAv (zIh A s N len i) (.tab 139)) (zAp (allM (stA A s (i + 1)).when_ N)) := tabX rfl (by decide) (by decide)
theorem colX {c : Nat} (hc : c < 64) : (SE.sel (.tab 133) (v 6) c).eval (zIh A s N len i) = A i c := by
 rw [sel_col, v6X]
 exact (t133X (A := A) (s := s) (N := N) (len := len) (i := i)) _ c hc
structure ActsIn (A : TT) (s : WS) (N len : Nat) : Prop where
 h : zOo N 0 0 s
 mid : ∀ r c, In64 (A r c)
 nm : ∀ r, r < len → A r 2 ≤ 9223372036854775807
 len : len ≤ 60
theorem nX (h : zOo N 0 0 s) {i : Nat} (hi : i ≤ 999) : (stA A s i).n = (stA A s (i + 1)).n := (stA_i h i (by omega)).n.trans (stA_i h (i + 1) (by omega)).n.symm
theorem act_mid {R : Nat} {T : Int} {x : WS} (h : zOo N R T x) (hT : T ≤ 999000000) : In64 x.n ∧ In64 x.now ∧ (∀ r, r < 4 → In64 (x.c r)) ∧ In64 ((allM x.when_ N).length : Int) := by
 obtain ⟨q, hq⟩ := h.q
 have hn := hq.rep.n1; have h0 := hq.now0; have h1 := h.now; have hN := h.n
 have hl := zKs (M := x.when_) (i := N)
 refine ⟨by unfold In64; omega, by unfold In64; omega, fun r hr => ?_, by unfold In64; omega⟩
 have := hq.c_in hr
 unfold In64; omega
theorem midX (h : ActsIn A s N len) (hi : i ≤ len) : zCj In64 (scX A s len i ++ scxX A s N i) ∧ zCj zDc (tbX A s i ++ tbxX A s N i) := by
 have hl := h.len
 have a := stA_i (A := A) h.h i (by omega)
 have b := stA_i (A := A) h.h (i + 1) (by omega)
 obtain ⟨a1, a2, a3, a4⟩ := act_mid a (by omega)
 obtain ⟨b1, b2, b3, b4⟩ := act_mid b (by omega)
 have hr := b.ref (by omega)
 have hb := zLr hr (Nat.le_refl N)
 obtain ⟨q, hq⟩ := b.q
 have hn := hq.rep.n1
 have hN := b.n
 refine ⟨⟨a1, a2, a3 0 (by omega), a3 1 (by omega), a3 2 (by omega), a3 3 (by omega), zCg (by omega), zCg (by omega), b2, b3 0 (by omega), b3 1 (by omega), b3 2 (by omega), b3 3 (by omega), b4, ?_, trivial⟩,
  ⟨a.w, a.k.N, a.k.B, a.k.L, a.k.C, fun r c _ => h.mid r c, b.w, b.k.N, b.k.B, b.k.L, b.k.C, zBb fun y hy => ?_, trivial⟩⟩
 ·unfold most at hb
  unfold In64; omega
 ·have := zFj.1 hy
  unfold In64; omega
theorem funX [F : Facts] [V : zAc] (hC : SortC Tryz.prog zNs) (h : ActsIn A s N len) (hi : i < len) (hV : V.env = zIh A s N len i) {b : Bool} (hb : b = true ↔ allM (stA A s (i + 1)).when_ N ≠ []) : ∀ S ∈ xF fns b, zAl Tryz.prog [] S := fun S hS => by
 have hl := h.len
 have a := stA_i (A := A) h.h i (by omega)
 have y := stA_i (A := A) h.h (i + 1) (by omega)
 have hr := y.ref (by omega)
 have hN := y.n
 obtain ⟨q, hq⟩ := y.q
 have w0 := wsX0 (A := A) (s := s) (N := N) (len := len) (i := i)
 have w1 := wsX1 (A := A) (s := s) (N := N) (len := len) (i := i) (nX h.h (by omega))
 simp only [xF, List.mem_cons, List.not_mem_nil, or_false] at hS
 rcases hS with rfl | rfl | rfl | rfl
 ·refine act_proof (N := N) (s := stA A s i) (ki := A i 0) (id := A i 1) (nn := A i 2) hC ⟨a.more (by omega) (by omega), h.nm i hi, h.mid _ _, h.mid _ _, h.mid _ _⟩ ?_ ?_ ?_ ?_ ?_
  all_goals rw [hV]
  ·exact w0
  ·exact w1
  ·exact colX (by decide)
  ·exact colX (by decide)
  ·exact colX (by decide)
 ·refine zNi (s := stA A s (i + 1)) hq (y.mid (by omega)) hN ?_ ?_ ?_ hb
  all_goals rw [hV]
  ·exact w1
  ·exact v13X
  ·exact t139X
 ·refine zNr hr ?_ ?_ ?_ ?_ ?_ hb
  all_goals rw [hV]
  ·exact w1.n.trans hN
  ·exact w1.now
  ·exact w1.w
  ·exact v13X
  ·exact t139X
 ·refine mnext_proof hr ?_ ?_ ?_ ?_ (hb.trans ⟨fun hne => (allM_top hr hne).1, fun h0 e => ?_⟩)
  all_goals try rw [hV]
  ·exact w1.n.trans hN
  ·exact w1.now
  ·exact w1.w
  ·exact v14X
  ·have := allM_none hr e
   omega
theorem pcWX (h : ActsIn A s N len) (hi : i ≤ len) : Fx (zIh A s N len i) pcW := by
 have hl := h.len
 have a := stA_i (A := A) h.h i (by omega)
 obtain ⟨q, hq⟩ := a.q
 have w := wsX0 (A := A) (s := s) (N := N) (len := len) (i := i)
 refine zEj hq.toWBase (a.mid (by omega)) w.n w.now fun r hr => ?_
 rcases (show r = 0 ∨ r = 1 ∨ r = 2 ∨ r = 3 by omega) with rfl | rfl | rfl | rfl
 ·exact w.c 0 (by omega)
 ·exact w.c 1 (by omega)
 ·exact w.c 2 (by omega)
 ·exact w.c 3 (by omega)
theorem factsX (h : ActsIn A s N len) (hi : i < len) : ∃ (b : Bool) (k : Nat), k < 4 ∧ (k = 3 → b = true) ∧ (b = true ↔ allM (stA A s (i + 1)).when_ N ≠ []) ∧ Fx (zIh A s N len i) (csX b k).pc := by
 have hl := h.len
 have y := stA_i (A := A) h.h (i + 1) (by omega)
 have hr := y.ref (by omega)
 have hN := y.n
 obtain ⟨q, hq⟩ := y.q
 have hn := hq.rep.n1; have h0 := hq.now0; have h1 := y.now
 have w1 := wsX1 (A := A) (s := s) (N := N) (len := len) (i := i) (nX h.h (by omega))
 have e0 : (v 0).eval (zIh A s N len i) = N := w1.n.trans hN
 have e8 : (v 8).eval (zIh A s N len i) = (stA A s (i + 1)).now := w1.now
 have e9 : (v 9).eval (zIh A s N len i) = (stA A s (i + 1)).c 0 := w1.c 0 (by omega)
 have e10 : (v 10).eval (zIh A s N len i) = (stA A s (i + 1)).c 1 := w1.c 1 (by omega)
 have e11 : (v 11).eval (zIh A s N len i) = (stA A s (i + 1)).c 2 := w1.c 2 (by omega)
 have e12 : (v 12).eval (zIh A s N len i) = (stA A s (i + 1)).c 3 := w1.c 3 (by omega)
 have c0 := hq.c_in (r := 0) (by omega); have c1 := hq.c_in (r := 1) (by omega); have c2 := hq.c_in (r := 2) (by omega); have c3 := hq.c_in (r := 3) (by omega)
 have v6 := v6X (A := A) (s := s) (N := N) (len := len) (i := i)
 have v7 := v7X (A := A) (s := s) (N := N) (len := len) (i := i)
 have v13 := v13X (A := A) (s := s) (N := N) (len := len) (i := i)
 have v14 := v14X (A := A) (s := s) (N := N) (len := len) (i := i)
 have eid : idS.eval (zIh A s N len i) = A i 1 := colX (by decide)
 have hlen := y.len
 have hsum : (sum4 C9).eval (zIh A s N len i) = (allM (stA A s (i + 1)).when_ N).length := by
  rw [← hlen]
  show (v 9).eval _ + (v 10).eval _ + (v 11).eval _ + (v 12).eval _ = _
  rw [e9, e10, e11, e12]
  rfl
 have hal := zKs (M := (stA A s (i + 1)).when_) (i := N)
 have base : zCj (Says (zIh A s N len i)) pcX := by
  refine .app (zFs (pcWX h (by omega))) (.app ⟨zBt ?_, zAi ?_, zAi ?_, zAi ?_, zAi ?_, trivial⟩ (.app (zFs (zAw ?_ ?_)) (.app (zFs (zAw ?_ ?_)) (.app (zFs (zAw ?_ ?_)) (.app (zFs (zAw ?_ ?_)) (zFs (zAw ?_ ?_)))))))
  ·rw [v6, v7]; omega
  ·rw [v6]; show (0 : Int) ≤ _; omega
  ·rw [v6]; show _ ≤ (59 : Int); omega
  ·rw [v7]; show _ ≤ (60 : Int); omega
  ·rw [v6]; show _ ≤ (v 7).eval _ + (-1); rw [v7]; omega
  ·rw [e8]; exact h0
  ·rw [e8]; show _ ≤ most; unfold most; omega
  ·rw [e9]; exact c0.1
  ·rw [e9]; exact c0.2
  ·rw [e10]; exact c1.1
  ·rw [e10]; exact c1.2
  ·rw [e11]; exact c2.1
  ·rw [e11]; exact c2.2
  ·rw [e12]; exact c3.1
  ·rw [e12]; exact c3.2
 obtain ⟨b, hb⟩ : ∃ b : Bool, b = true ↔ allM (stA A s (i + 1)).when_ N ≠ [] := ⟨decide (allM (stA A s (i + 1)).when_ N ≠ []), by simp⟩
 have bf : zCj (Says (zIh A s N len i)) (pcXb b) := by
  unfold pcXb
  cases hbb : b with
  | false =>
   rw [if_neg (by decide)]
   refine ⟨zCz ?_, trivial⟩
   rw [hsum]
   have : allM (stA A s (i + 1)).when_ N = [] := Classical.byContradiction fun hc => by
    have := hb.2 hc
    rw [hbb] at this; cases this
   rw [this]; rfl
  | true =>
   rw [if_pos rfl]
   have hne := hb.1 hbb
   obtain ⟨p1, p2, p3, p4⟩ := allM_top hr hne
   have hpos := List.length_pos_iff.2 hne
   have et : topS.eval (zIh A s N len i) = (allM (stA A s (i + 1)).when_ N).headD 0 := by
    refine (zBl _ 139 (L 0)).trans ?_
    refine (t139X (A := A) (s := s) (N := N) (len := len) (i := i)).g _ |>.trans ?_
    exact list_top
   have ew : (sel 134 topS).eval (zIh A s N len i) = zAk (stA A s (i + 1)).when_ N := by
    refine (zBl _ 134 topS).trans ?_
    rw [et]
    exact (w1.w.g _).trans p2
   refine .app (.app (.app (zFs (zAw ?_ ?_)) ⟨zCz ?_, trivial⟩) (zFs (zAw ?_ ?_))) ⟨zCz ?_, zBt ?_, trivial⟩
   ·rw [v13]; show (1 : Int) ≤ _; omega
   ·rw [v13]; show _ ≤ (4096 : Int); omega
   ·rw [hsum, v13]
   ·rw [et]; exact p3
   ·rw [et]; show _ ≤ (v 0).eval _ + (-1); rw [e0]; omega
   ·rw [ew, v14]
   ·rw [v14]; exact p1
 have ewid : (SE.sel (.tab 134) idS 0).eval (zIh A s N len i) = g0 (stA A s (i + 1)).when_ (A i 1) := by
  refine (zBl _ 134 idS).trans ?_
  rw [eid]
  exact w1.w.g _
 by_cases k0 : A i 1 < 0
 ·exact ⟨b, 0, by omega, by omega, hb, zCw (.app base (.app bf ⟨zBt (by rw [eid]; exact k0), trivial⟩))⟩
 by_cases k1 : (N : Int) ≤ A i 1
 ·exact ⟨b, 1, by omega, by omega, hb, zCw (.app base (.app bf ⟨zAi (by rw [eid]; show (0 : Int) ≤ _; omega), zAi (by rw [eid, e0]; exact k1), trivial⟩))⟩
 have i0 : Says (zIh A s N len i) (le (L 0) idS) := zAi (by rw [eid]; show (0 : Int) ≤ _; omega)
 have i1 : Says (zIh A s N len i) (le idS n1) := zAi (by rw [eid]; show _ ≤ (v 0).eval _ + (-1); rw [e0]; omega)
 by_cases k2 : g0 (stA A s (i + 1)).when_ (A i 1) = 0
 ·exact ⟨b, 2, by omega, by omega, hb, zCw (.app base (.app bf ⟨i0, i1, zCz (by rw [ewid]; exact k2), trivial⟩))⟩
 ·have hm : A i 1 ∈ allM (stA A s (i + 1)).when_ N := zFj.2 ⟨by omega, by omega, k2⟩
  have hw := (hr.w (A i 1) (by omega) (by omega)).1
  exact ⟨b, 3, by omega, fun _ => hb.2 (fun e => by rw [e] at hm; exact absurd hm List.not_mem_nil), hb, zCw (.app base (.app bf ⟨i0, i1, zBt (by rw [ewid]; show (0 : Int) < _; omega), trivial⟩))⟩
theorem x_proof [F : Facts] [V : zAc] (hC : SortC Tryz.prog zNs) (h : ActsIn A s N len) {n now now' ln w w' Ae : SE} {c c' : C4} {K K' : K4} (hs : zDx (wsE V.env n now c w K) s) (hs' : zDx (wsE V.env n now' c' w' K') (stA A s len)) (hln : ln.eval V.env = len) (hA : zAf (zAv V.env Ae) A) :
  zAq Tryz.prog [] (xL PG n now now' c c' ln w w' Ae K K') := by
 obtain ⟨E, hE⟩ : ∃ E, E = zIh A s N len := ⟨_, rfl⟩
 refine zGx (key := 10) (xL PG n now now' c c' ln w w' Ae K K') isX fxX (o := ⟨.exit 0, 1, fX n now' c' ln ln, gX w' K' Ae⟩) rfl goodX E (scX A s len) (scxX A s N) (tbX A s) (tbxX A s N) (fun i => by rw [hE]; rfl) 8 6 (by decide) (by decide) upsX rfl rfl rfl rfl
  (I := fun μ j i => j = 0 ∧ i ≤ len ∧ μ = len - i) (Post := fun i => i = len) (fun μ j i hI => midX h hI.2.1) (fun B μ j i hI => ?_) len 0 ⟨rfl, Nat.zero_le _, rfl⟩ ⟨hs.n, hs.now, hs.c 0 (by omega), hs.c 1 (by omega), hs.c 2 (by omega), hs.c 3 (by omega), rfl, hln, trivial⟩ ⟨hs.w, hs.k.N, hs.k.B, hs.k.L, hs.k.C, hA, trivial⟩ (fun i hp => ?_)
 ·obtain ⟨rfl, hi, rfl⟩ := hI
  have hl := h.len
  by_cases hlt : i < len
  ·obtain ⟨b, k, hk, h3, hb, hfx⟩ := factsX (s := s) h hlt
   have w1 := wsX1 (A := A) (s := s) (N := N) (len := len) (i := i) (nX h.h (by omega))
   have e6 := v6X (A := A) (s := s) (N := N) (len := len) (i := i)
   have run := run_X hk h3
   have hfun : ∀ V : @zAc ⟨(csX b k).pc⟩, V.env = E i → ∀ S ∈ xF fns b, @zAl ⟨(csX b k).pc⟩ V Tryz.prog [] S := fun V hV => @funX A s N len i ⟨(csX b k).pc⟩ V hC h hlt (by rw [hV, hE]) b hb
   refine ⟨csX b k, i + 1, @manyLoops ⟨(csX b k).pc⟩ PG [] [], callK (csX b k).pc [] (xF fns b), kRnd B _ _ _ _ (fun V hV S hS => by cases hS) hfun, ?_, by rw [hE]; exact hfx, .inr ⟨rfl, rfl, ?_, ?_⟩, .inl ⟨rfl, len - (i + 1), by omega, rfl, by omega, rfl⟩⟩
   ·exact run
   ·rw [hE]
    refine ⟨w1.n, w1.now, w1.c 0 (by omega), w1.c 1 (by omega), w1.c 2 (by omega), w1.c 3 (by omega), ?_, v7X, trivial⟩
    show (v 6).eval _ + 1 = ((i + 1 : Nat) : Int)
    rw [e6]; omega
   ·rw [hE]
    exact ⟨w1.w, w1.k.N, w1.k.B, w1.k.L, w1.k.C, t133X, trivial⟩
  ·have e6 := v6X (A := A) (s := s) (N := N) (len := len) (i := i)
   have e7 := v7X (A := A) (s := s) (N := N) (len := len) (i := i)
   have run := run_xE
   have hfx : Fx (E i) csXE.pc := by
    rw [hE]
    exact .app (pcWX h hi) (zCw ⟨zAi (by rw [e6, e7]; omega), trivial⟩)
   refine ⟨csXE, i, @manyLoops ⟨csXE.pc⟩ PG [] [], callK csXE.pc [] [], kRnd B _ _ _ _ (fun V hV S hS => by cases hS) (fun V hV S hS => by cases hS), ?_, hfx, .inl ⟨rfl, rfl, rfl⟩, .inr ⟨by simp [csXE], rfl, rfl, by omega, midX h hi⟩⟩
   exact run
 ·subst hp
  exact ⟨⟨hs'.n, hs'.now, hs'.c 0 (by omega), hs'.c 1 (by omega), hs'.c 2 (by omega), hs'.c 3 (by omega), hln, hln, trivial⟩, hs'.w, hs'.k.N, hs'.k.B, hs'.k.L, hs'.k.C, hA, trivial⟩
end
end Go.Proofs.YtaliacnncemneaaGreat.wheels
namespace Go.Proofs.Wheels
open Go.Abs
def z4 : C4 := ⟨L 0, L 0, L 0, L 0⟩
def KN : K4 := ⟨.tab 129, .tab 129, .tab 130, zS⟩
def cL : C4 := ⟨v 3, v 4, v 5, v 6⟩
def kL : K4 := ⟨.tab 132, .tab 133, .tab 134, .tab 135⟩
def lawL (G : Nat) : List zAd := [xL G (v 0) (L 0) (v 2) z4 cL (v 1) zS (.tab 131) (.tab 128) KN kL]
def lawF (G : Nat) (b : Bool) : List zAj := [newS 6 G (v 0) (.tab 129) (.tab 130), wallS 16 G (v 0) (v 2) cL (v 7) (.tab 131) kL (.tab 136) b, mallS 11 G (v 0) (v 2) (v 7) (.tab 131) (.tab 136) b]
def lawF0 (G : Nat) : List zAj := [newS 6 G (v 0) (.tab 129) (.tab 130), wallS 16 G (v 0) (L 0) z4 (L 0) zS KN zS false, mallS 11 G (v 0) (L 0) (L 0) zS zS false]
def pcL (b : Bool) : List (SB × Bool) := [tt] ++ (inR (L 1) (v 0) (L 4096) ++ (inR (L 0) (v 1) (L 60) ++ (if b then inR (L 1) (v 7) (L 4096) else [])))
def pcL0 : List (SB × Bool) := [tt] ++ inR (L 1) (v 0) (L 4096)
def pcLBig : List (SB × Bool) := [tt] ++ [nle (v 1) (L 60)]
def pcLOut (b : Bool) : List (SB × Bool) := [tt] ++ ([if b then nle (L 1) (v 0) else nle (v 0) (L 4096)] ++ inR (L 0) (v 1) (L 60))
def k3 : List CK := [.i .i64, .i .i64, .i .i64]
def heapL (has : Bool) (G : Nat) : HS := bif has then Abs.addB (zGj G []) (.arr [.i .i64, .i .i64, .i .i64] (.tab 128) (v 1) true) else zGj G []
def actsA (has : Bool) (G : Nat) : AV := bif has then s3 G (v 1) else .so (.lit 0)
def argL (has : Bool) (G : Nat) : List AV := [X 0, actsA has G]
end Go.Proofs.Wheels
namespace Go.Proofs.YtaliacnncemneaaGreat.wheels
open Go.Abs Go.Proofs.Wheels
theorem sortC : SortC Tryz.prog zNs := fun blk off cap zs w hH hb hs => Tryz.sort_Ints blk off cap zs w hH hb hs
noncomputable def cfgW [Facts] (fs : List zAj) : Cfg := cfgPick zDf PG [] (pickInts zDf PG) (cfgF (zMm 5 []) PG [] fs 100000)
noncomputable def runAt (fn : Nat) (pc : List (SB × Bool)) (ls : List zAd) (fs : List zAj) (us : List AV) (s : HS) : Bool :=
 (letI : Facts := ⟨pc⟩; letI := manyLoops PG [] ls; callN Tryz.prog (cfgW fs) 60 (.f fn) us s).every 1000000000 isTrue
def ActsIs (w : World) (v : Value) (e : Bool) (len : Nat) (row : Nat → Nat → Int) : Prop :=
 bif e then ∃ (b o l cap : Nat) (arr : Array Value) (el : TypeId) (fz : Nat × Nat), v = .slice (some ⟨b, o, none⟩) l cap ∧ len = l ∧ l ≤ cap ∧ w.heap[b]? = some (.cells arr el fz) ∧ o + l * 3 ≤ arr.size ∧ ∀ (r c : Nat) (k' : CK), r < l → k3[c]? = some k' → ∃ x, arr[o + (r * 3 + c)]? = some x ∧ CKv k' (row r c) x
 else len = 0 ∧ ∃ p c, v = .slice p 0 c
theorem start0 (q : zHm) (w : World) : @RW q.F q.V (phi0 PG) w.heap.size (zGj PG []) w := @start_rw' q.F q.V PG _ [] w (fun p hp => by cases hp)
theorem phi0_none {b : Nat} (h : PG ≤ b) : phi0 PG b = none := by
 unfold phi0
 rw [if_neg (by omega)]
theorem put_other {φ : Phi} {b c : Nat} {a : Lc} (h : c ≠ b) : (φ.put b a) c = φ c := by
 unfold Phi.put
 rw [if_neg h]
theorem add_tab {q : zHm} {φ : Phi} {s : HS} {w : World} {a : Lc} {x : Blk} (h : @RW q.F q.V φ w.heap.size s w) (hf : φ s.n = none) (hb : @RB q.F q.V φ w a x) (hx : x.fixed = true) (hy : ∀ c t y, s.h.get c = some (t, y) → y.fixed = true) : @RW q.F q.V (φ.put s.n a) w.heap.size (Abs.addB s x) w :=
 @RW.add q.F q.V φ w.heap.size s w h a x hf hb (fun h => by rw [hx] at h; cases h) (fun c t y a' e hy' => by rw [hy c t y e] at hy'; cases hy')
theorem gl_ok (φ : Phi) (h : ∀ b, b < PG → φ b = phi0 PG b) : GOk Tryz.prog φ := fun g hg => by
 have hg : g < PG := hg
 rw [h g hg]
 unfold phi0
 rw [if_pos hg]
set_option maxRecDepth 1000000
theorem run_lives : ((letI : Facts := ⟨[]⟩; letI := noLoops; callN Tryz.prog (cfg0 100000) 200 (.f 5) [] (zGj Tryz.prog.globals.size [])).every 1000000000 isTrue) = true := by kernel_rfl
theorem walkG {fn : Nat} {us : List AV} {hp : HS} {pc : List (SB × Bool)} {env : Nat → Int} {ls : List zAd} {fs : List zAj} (hpc : Fx env pc) (hmid : ∀ j, In64 (env j)) (hl : ∀ V : @zAc ⟨pc⟩, V.env = env → ∀ S ∈ ls, @zAq ⟨pc⟩ V Tryz.prog [] S) (hfs : ∀ V : @zAc ⟨pc⟩, V.env = env → ∀ S ∈ fs, @zAl ⟨pc⟩ V Tryz.prog [] S) (hrun : runAt fn pc ls fs us hp = true)
  {w : World} {φ : Phi} {xs : Array Value} (hrw : ∀ q : zHm, q.V.env = env → @RW q.F q.V φ w.heap.size hp w) (hf : zEd φ hp.n 1000000000) (hg : GOk Tryz.prog φ) (hx : ∀ q : zHm, q.V.env = env → @RL q.F q.V φ us xs.toList) :
  Calls Tryz.prog fn xs w fun e w' => e = .returned (.bool true) ∧ RowKit.Below w.heap.size w w' := by
 letI Fa : Facts := ⟨pc⟩
 letI Va : zAc := @zAc.mk Fa env hpc hmid []
 letI := manyLoops PG [] ls
 have sp := hl Va rfl
 letI := zDo sp
 have hk0 : zJg Tryz.prog w.heap.size { mg := fun _ => false, known := zMm 5 [], fuel := 100000 } :=
  know_ok (g := 5) (n := 200) (N := 1000000000) (fuel := 100000) (tabs := []) (fun B => zEu sp B) (fun _ _ h => zEs h) (fun p hp => by cases hp) run_lives { mg := fun _ => false, known := zMm 5 [], fuel := 100000 } rfl _
 have hk : zJg Tryz.prog w.heap.size (cfgW fs) := pick_known (zIp (tabs := []) hk0 (hfs Va rfl)) pickInts_ok
 have hrw := hrw ⟨Fa, Va⟩ rfl
 have hx := hx ⟨Fa, Va⟩ rfl
 exact calls_from (cfg := cfgW fs) hk (fun _ h => zEs h) hrw hf hg hx hrun
set_option maxRecDepth 1000000
theorem law_t : runAt 3 (pcL true) (lawL PG) (lawF PG true) (argL true PG) (heapL true PG) = true := by kernel_rfl
theorem law_f : runAt 3 (pcL false) (lawL PG) (lawF PG false) (argL true PG) (heapL true PG) = true := by kernel_rfl
theorem law_0 : runAt 3 pcL0 [] (lawF0 PG) (argL false PG) (heapL false PG) = true := by kernel_rfl
theorem law_big : runAt 3 pcLBig [] [] (argL true PG) (heapL true PG) = true := by kernel_rfl
theorem law_out1 : runAt 3 (pcLOut true) [] [] (argL true PG) (heapL true PG) = true := by kernel_rfl
theorem law_out2 : runAt 3 (pcLOut false) [] [] (argL true PG) (heapL true PG) = true := by kernel_rfl
theorem law_out3 : runAt 3 (pcLOut true) [] [] (argL false PG) (heapL false PG) = true := by kernel_rfl
theorem law_out4 : runAt 3 (pcLOut false) [] [] (argL false PG) (heapL false PG) = true := by kernel_rfl
section
variable (N len : Nat) (A : TT)
def endW : WS := stA A (WS.new N) len
def scLw : List Int := [(N : Int), (len : Int), (endW N len A).now, (endW N len A).c 0, (endW N len A).c 1, (endW N len A).c 2, (endW N len A).c 3, ((allM (endW N len A).when_ N).length : Int)]
def tbLw : List TT := [A, idT (N + 128), zMj N, (endW N len A).when_, (endW N len A).k.N, (endW N len A).k.B, (endW N len A).k.L, (endW N len A).k.C, zAp (allM (endW N len A).when_ N)]
def zGs : Nat → Int := zBw (scLw N len A) (tbLw N len A)
end
section
variable {N len : Nat} {A : TT}
structure zOr (N len : Nat) (A : TT) : Prop where
 n : 1 ≤ N ∧ N ≤ 4096
 mid : ∀ r c, In64 (A r c)
 nm : ∀ r, r < len → A r 2 ≤ 9223372036854775807
 len : len ≤ 60
theorem zOr.acts (h : zOr N len A) : ActsIn A (WS.new N) N len := ⟨new_act h.n.1 h.n.2, h.mid, h.nm, h.len⟩
theorem zOr.end (h : zOr N len A) : zOo N len (3000 * len) (endW N len A) := stA_i h.acts.h len (by have := h.len; omega)
theorem oneW {k : Nat} {x : Int} (h : (scLw N len A)[k]? = some x) (hk : k < 128) : zGs N len A k = x := zAx h hk
theorem tabW {a : Nat} {X : TT} (h : (tbLw N len A)[a - 128]? = some X) (h1 : 128 ≤ a) (h2 : a < 256) : zAf (zAv (zGs N len A) (.tab a)) X := zAr h h1 h2
theorem wsW0 : zDx (wsE (zGs N len A) (v 0) (L 0) z4 zS KN) (WS.new N) := by
 refine ⟨show zGs N len A 0 = _ from oneW rfl (by decide), rfl, zDs (zGs N len A), ⟨tabW rfl (by decide) (by decide), tabW rfl (by decide) (by decide), tabW rfl (by decide) (by decide), zDs (zGs N len A)⟩, fun r hr => ?_⟩
 rcases (show r = 0 ∨ r = 1 ∨ r = 2 ∨ r = 3 by omega) with rfl | rfl | rfl | rfl <;> rfl
theorem wsW1 (h : zOr N len A) : zDx (wsE (zGs N len A) (v 0) (v 2) cL (.tab 131) kL) (endW N len A) := by
 have hn := h.end.n
 refine ⟨hn ▸ (show zGs N len A 0 = _ from oneW rfl (by decide)), show zGs N len A 2 = _ from oneW rfl (by decide), tabW rfl (by decide) (by decide), ⟨tabW rfl (by decide) (by decide), tabW rfl (by decide) (by decide), tabW rfl (by decide) (by decide), tabW rfl (by decide) (by decide)⟩, fun r hr => ?_⟩
 rcases (show r = 0 ∨ r = 1 ∨ r = 2 ∨ r = 3 by omega) with rfl | rfl | rfl | rfl
 ·exact show zGs N len A 3 = _ from oneW rfl (by decide)
 ·exact show zGs N len A 4 = _ from oneW rfl (by decide)
 ·exact show zGs N len A 5 = _ from oneW rfl (by decide)
 ·exact show zGs N len A 6 = _ from oneW rfl (by decide)
theorem v0W : (v 0).eval (zGs N len A) = N := oneW rfl (by decide)
theorem v1W : (v 1).eval (zGs N len A) = len := oneW rfl (by decide)
theorem v7W : (v 7).eval (zGs N len A) = (allM (endW N len A).when_ N).length := oneW rfl (by decide)
theorem t128W : zAf (zAv (zGs N len A) (.tab 128)) A := tabW rfl (by decide) (by decide)
theorem t136W : zAf (zAv (zGs N len A) (.tab 136)) (zAp (allM (endW N len A).when_ N)) := tabW rfl (by decide) (by decide)
theorem encLw_mid (h : zOr N len A) : ∀ j, In64 (zGs N len A j) := by
 have hn := h.n
 have hl := h.len
 have e := h.end
 obtain ⟨a1, a2, a3, a4⟩ := act_mid e (by omega)
 refine zEm (show zCj In64 (scLw N len A) from ⟨zCg (by omega), zCg (by omega), a2, a3 0 (by omega), a3 1 (by omega), a3 2 (by omega), a3 3 (by omega), a4, trivial⟩)
  (show zCj zDc (tbLw N len A) from ⟨fun r c _ => h.mid r c, zDv (by omega), zKl, e.w, e.k.N, e.k.B, e.k.L, e.k.C, zBb fun y hy => ?_, trivial⟩)
 have := zFj.1 hy
 unfold In64; omega
theorem law_loops [F : Facts] [V : zAc] (h : zOr N len A) (hV : V.env = zGs N len A) : ∀ S ∈ lawL PG, zAq Tryz.prog [] S := fun S hS => by
 simp only [lawL, List.mem_cons, List.not_mem_nil, or_false] at hS
 subst hS
 refine x_proof sortC h.acts ?_ ?_ ?_ ?_
 all_goals rw [hV]
 ·exact wsW0
 ·exact wsW1 h
 ·exact v1W
 ·exact t128W
theorem law_new [F : Facts] [V : zAc] (h : zOr N len A) (hV : V.env = zGs N len A) : zAl Tryz.prog [] (newS 6 PG (v 0) (.tab 129) (.tab 130)) := by
 refine new_proof h.n ?_ ?_ ?_
 all_goals rw [hV]
 ·exact v0W
 ·exact tabW rfl (by decide) (by decide)
 ·exact tabW rfl (by decide) (by decide)
theorem law_funs [F : Facts] [V : zAc] (h : zOr N len A) (hV : V.env = zGs N len A) {b : Bool} (hb : b = true ↔ allM (endW N len A).when_ N ≠ []) : ∀ S ∈ lawF PG b, zAl Tryz.prog [] S := fun S hS => by
 have hl := h.len
 have y := h.end
 have hr := y.ref (by omega)
 have hN := y.n
 obtain ⟨q, hq⟩ := y.q
 have w1 := wsW1 h
 simp only [lawF, List.mem_cons, List.not_mem_nil, or_false] at hS
 rcases hS with rfl | rfl | rfl
 ·exact law_new h hV
 ·refine zNi (s := endW N len A) hq (y.mid (by omega)) hN ?_ ?_ ?_ hb
  all_goals rw [hV]
  ·exact w1
  ·exact v7W
  ·exact t136W
 ·refine zNr hr ?_ ?_ ?_ ?_ ?_ hb
  all_goals rw [hV]
  ·exact w1.n.trans hN
  ·exact w1.now
  ·exact w1.w
  ·exact v7W
  ·exact t136W
theorem zero_all {N : Nat} : allM zBo N = [] := by
 cases h : allM zBo N with
 | nil => rfl
 | cons x l =>
  have := zFj.1 (show x ∈ allM zBo N by rw [h]; exact .head _)
  exact absurd rfl this.2.2
theorem law_funs0 [F : Facts] [V : zAc] (h : zOr N len A) (hV : V.env = zGs N len A) : ∀ S ∈ lawF0 PG, zAl Tryz.prog [] S := fun S hS => by
 have hl := h.len
 have y := h.acts.h
 have hr := y.ref (by omega)
 have w0 := wsW0 (N := N) (len := len) (A := A)
 have hb : false = true ↔ allM (WS.new N).when_ N ≠ [] := ⟨fun e => (Bool.noConfusion e), fun e => absurd zero_all e⟩
 have he : ((allM (WS.new N).when_ N).length : Int) = 0 := by
  rw [show allM (WS.new N).when_ N = [] from zero_all]; rfl
 have ht : zAf (zAv V.env zS) (zAp (allM (WS.new N).when_ N)) := by
  rw [show allM (WS.new N).when_ N = [] from zero_all, zJw]
  exact zDs _
 simp only [lawF0, List.mem_cons, List.not_mem_nil, or_false] at hS
 rcases hS with rfl | rfl | rfl
 ·exact law_new h hV
 ·refine zNi (s := WS.new N) (new_inv h.n.1 h.n.2) (new_mid h.n.2) rfl ?_ ?_ ht hb
  ·rw [hV]; exact w0
  ·exact he.symm
 ·refine zNr hr ?_ rfl ?_ ?_ ht hb
  ·rw [hV]; exact v0W
  ·exact zDs _
  ·exact he.symm
theorem pcL_ok (h : zOr N len A) {b : Bool} (hb : b = true ↔ allM (endW N len A).when_ N ≠ []) : Fx (zGs N len A) (pcL b) := by
 have hn := h.n
 have hl := h.len
 have hal := zKs (M := (endW N len A).when_) (i := N)
 refine .app (zDg rfl) (.app (zAw ?_ ?_) (.app (zAw ?_ ?_) ?_))
 ·rw [v0W]; show (1 : Int) ≤ _; omega
 ·rw [v0W]; show _ ≤ (4096 : Int); omega
 ·rw [v1W]; show (0 : Int) ≤ _; omega
 ·rw [v1W]; show _ ≤ (60 : Int); omega
 ·cases hbb : b with
  | false => exact .nil
  | true =>
   rw [if_pos rfl]
   have hpos := List.length_pos_iff.2 (hb.1 hbb)
   exact zAw (by rw [v7W]; show (1 : Int) ≤ _; omega) (by rw [v7W]; show _ ≤ (4096 : Int); omega)
end
theorem walkC {pc : List (SB × Bool)} {env : Nat → Int} {ls : List zAd} {fs : List zAj} (hpc : Fx env pc) (hmid : ∀ j, In64 (env j)) (hl : ∀ V : @zAc ⟨pc⟩, V.env = env → ∀ S ∈ ls, @zAq ⟨pc⟩ V Tryz.prog [] S) (hfs : ∀ V : @zAc ⟨pc⟩, V.env = env → ∀ S ∈ fs, @zAl ⟨pc⟩ V Tryz.prog [] S) (hrun : runAt 3 pc ls fs (argL true PG) (heapL true PG) = true)
  {x0 : Int} {len : Nat} {ra : Nat → Nat → Int} (E0 : env 0 = x0) (E1 : env 1 = len) (EA : zAf (zFl env 128) ra) {w : World} {v0 : Value} (s0 : ActsIs w v0 true len ra) :
  Calls Tryz.prog 3 #[.int .i64 x0, v0] w fun e w' => e = .returned (.bool true) ∧ RowKit.Below w.heap.size w w' := by
 obtain ⟨b, o, l, cap, arr, el, fz, rfl, hlt, hcap, ha, hs, hr⟩ := s0
 subst hlt
 have env1 : ∀ q : zHm, q.V.env = env → (v 1).eval q.V.env = (len : Int) := fun q h => by rw [h]; exact E1
 refine walkG (φ := (phi0 PG).put PG ⟨b, o, cap⟩) hpc hmid hl hfs hrun (fun q hq => add_tab (start0 q w) (phi0_none (Nat.le_refl _)) ?_ rfl (fun c t y e => by obtain ⟨p, hp, _⟩ := zGw e; cases hp)) (fun c hc _ => ?_) (gl_ok _ fun c hc => put_other (by omega)) (fun q hq => ?_)
 ·refine @rows_rb q.F q.V _ w b o len [.i .i64, .i .i64, .i .i64] ra arr el fz (.tab 128) (v 1) cap ha hs hr (env1 q hq) (fun r c hc => ?_)
  rw [hq]
  exact EA r c (by simp at hc; omega)
 ·have hc : PG + 1 ≤ c := hc
  rw [put_other (by omega), phi0_none (by omega)]
 ·exact @RL.cons q.F q.V _ _ _ _ _ (@RV.sx q.F q.V _ _ _ _ (by show q.V.env 0 = x0; rw [hq]; exact E0)) (@RL.cons q.F q.V _ _ _ _ _ (@RV.ss q.F q.V _ _ _ _ _ _ _ _ _ _ (Phi.put_self _ _ _) rfl (env1 q hq) ⟨hcap, Nat.le_of_eq (Nat.zero_add _)⟩ (fun _ => by simp)) (@RL.nil q.F q.V _))
theorem walkN {pc : List (SB × Bool)} {env : Nat → Int} {fs : List zAj} (hpc : Fx env pc) (hmid : ∀ j, In64 (env j)) (hfs : ∀ V : @zAc ⟨pc⟩, V.env = env → ∀ S ∈ fs, @zAl ⟨pc⟩ V Tryz.prog [] S) (hrun : runAt 3 pc [] fs (argL false PG) (heapL false PG) = true)
  {x0 : Int} {len : Nat} {ra : Nat → Nat → Int} (E0 : env 0 = x0) {w : World} {v0 : Value} (s0 : ActsIs w v0 false len ra) :
  Calls Tryz.prog 3 #[.int .i64 x0, v0] w fun e w' => e = .returned (.bool true) ∧ RowKit.Below w.heap.size w w' := by
 obtain ⟨hl0, p, c, rfl⟩ := s0
 refine walkG (φ := phi0 PG) hpc hmid (fun V hV S hS => by cases hS) hfs hrun (fun q hq => start0 q w) (fun b hb _ => phi0_none hb) (gl_ok _ fun _ _ => rfl) (fun q hq => ?_)
 exact @RL.cons q.F q.V _ _ _ _ _ (@RV.sx q.F q.V _ _ _ _ (by show q.V.env 0 = x0; rw [hq]; exact E0)) (@RL.cons q.F q.V _ _ _ _ _ (@RV.so q.F q.V _ _ _ _ _ rfl) (@RL.nil q.F q.V _))
theorem law_walk {e : Bool} {x0 : Int} {len : Nat} {ra : Nat → Nat → Int} (h0 : In64 x0) (h1 : (len : Int) ≤ 9223372036854775807) (hra : ∀ r c, In64 (ra r c)) (hrr : ∀ r, r < len → ra r 2 ≤ 9223372036854775807) {w : World} {v0 : Value} (s0 : ActsIs w v0 e len ra) :
  Calls Tryz.prog 3 #[.int .i64 x0, v0] w fun e w' => e = .returned (.bool true) ∧ RowKit.Below w.heap.size w w' := by
 have hmid : ∀ j, In64 (zBw [x0, (len : Int)] [ra] j) := zEm (show zCj In64 _ from ⟨h0, by unfold In64; omega, trivial⟩) (show zCj zDc _ from ⟨fun r c _ => hra r c, trivial⟩)
 have o0 : zBw [x0, (len : Int)] [ra] 0 = x0 := zAx rfl (by decide)
 have o1 : zBw [x0, (len : Int)] [ra] 1 = len := zAx rfl (by decide)
 have oA : zAf (zFl (zBw [x0, (len : Int)] [ra]) 128) ra := zAr rfl (by decide) (by decide)
 have hlen0 : e = false → len = 0 := fun he => by
  subst he
  exact s0.1
 by_cases hb : 60 < len
 ·cases e with
  | false => have := hlen0 rfl; omega
  | true =>
   exact walkC (pc := pcLBig) (env := zBw [x0, (len : Int)] [ra]) (.app (zDg rfl) (zDg (nle_ok (by show (60 : Int) < zBw [x0, (len : Int)] [ra] 1; rw [o1]; omega)))) hmid (fun V hV S hS => by cases hS) (fun V hV S hS => by cases hS) law_big o0 o1 oA s0
 by_cases hx : x0 < 1 ∨ 4096 < x0
 ·obtain ⟨b, hb', hfx⟩ : ∃ b : Bool, True ∧ Fx (zBw [x0, (len : Int)] [ra]) (pcLOut b) := by
   have hr : Fx (zBw [x0, (len : Int)] [ra]) (inR (L 0) (v 1) (L 60)) := zAw (by show (0 : Int) ≤ zBw [x0, (len : Int)] [ra] 1; rw [o1]; omega) (by show zBw [x0, (len : Int)] [ra] 1 ≤ 60; rw [o1]; omega)
   rcases hx with g | g
   ·exact ⟨true, trivial, .app (zDg rfl) (.app (zDg (nle_ok (by show zBw [x0, (len : Int)] [ra] 0 < 1; rw [o0]; exact g))) hr)⟩
   ·exact ⟨false, trivial, .app (zDg rfl) (.app (zDg (nle_ok (by show (4096 : Int) < zBw [x0, (len : Int)] [ra] 0; rw [o0]; exact g))) hr)⟩
  cases e with
  | false =>
   refine walkN hfx hmid (fs := []) (fun V hV S hS => by cases hS) ?_ o0 s0
   cases b
   ·exact law_out4
   ·exact law_out3
  | true =>
   refine walkC hfx hmid (ls := []) (fs := []) (fun V hV S hS => by cases hS) (fun V hV S hS => by cases hS) ?_ o0 o1 oA s0
   cases b
   ·exact law_out2
   ·exact law_out1
 ·obtain ⟨N, rfl⟩ : ∃ N : Nat, x0 = N := ⟨x0.toNat, by omega⟩
  have h : zOr N len ra := ⟨by omega, hra, hrr, by omega⟩
  cases e with
  | false =>
   have hn := h.n
   exact walkN (pc := pcL0) (.app (zDg rfl) (zAw (by rw [v0W]; show (1 : Int) ≤ _; omega) (by rw [v0W]; show _ ≤ (4096 : Int); omega))) (encLw_mid h) (fun V hV => @law_funs0 N len ra ⟨_⟩ V h hV) law_0 (oneW rfl (by decide)) s0
  | true =>
   obtain ⟨b, hb⟩ : ∃ b : Bool, b = true ↔ allM (endW N len ra).when_ N ≠ [] := ⟨decide (allM (endW N len ra).when_ N ≠ []), by simp⟩
   refine walkC (pcL_ok h hb) (encLw_mid h) (fun V hV => @law_loops N len ra ⟨_⟩ V h hV) (fun V hV => @law_funs N len ra ⟨_⟩ V h hV b hb) ?_ (oneW rfl (by decide)) (oneW rfl (by decide)) t128W s0
   cases b
   ·exact law_f
   ·exact law_t
end Go.Proofs.YtaliacnncemneaaGreat.wheels
end
