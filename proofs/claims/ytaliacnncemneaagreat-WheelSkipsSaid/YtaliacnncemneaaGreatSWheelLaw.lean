/- A law's walk. Conditions: those that each theorem names. -/
import Derived.Test.YtaliacnncemneaaGreatSWheelDone
import Derived.Test.YtaliacnncemneaaGreatSWheelShelf
open Go
noncomputable section
namespace Go.Proofs.Wheels
open Go.Abs
def aT (n : SE) : Blk := .arr [.i .i64, .i .i64, .i .i64] (.tab 133) n true
def s3 (b : Nat) (n : SE) : AV := .ss b 3 (.lit 0) n
def lawB (G : Nat) : List Blk := zDr G ++ refB (G + 7) ++ [aT (v 7)]
def K135 : K4 := ⟨.tab 135, .tab 136, .tab 137, .tab 138⟩
def gX (w : SE) (K : K4) (A : SE) : List SE := [w, K.a, K.b, K.c, K.d, A]
def kiS : SE := .sel (.tab 133) (v 6) 0
def idS : SE := .sel (.tab 133) (v 6) 1
def nnS : SE := .sel (.tab 133) (v 6) 2
end Go.Proofs.Wheels
namespace Go.Abs
variable {P : Program} {H : Type} {enc : TypeId × Value → H} {w : World} {base : Nat} {spare : Nat → Bool} {held : Bool}
theorem scalar_int {t : TypeId} {k : IntKind} {fuel : Nat} {cs : List Value} {y : DataW H × List MemPlace} (hk : zIq P t = some (.i k)) (h : DataW.trod enc P w base spare held fuel t cs = some y) : ∃ n, cs = [.int k n] ∧ kmin k ≤ n ∧ n ≤ kmax k := by
 unfold zIq at hk
 split at hk <;> cases hk
 rename_i hu
 obtain ⟨n, rfl, _, hw⟩ := DataW.trod_int hu h
 simp only [Lit.wf, Bool.and_eq_true, decide_eq_true_eq] at hw
 exact ⟨n, rfl, has_mid hw⟩
theorem kinds_int {e : TypeId} {ks : List CK} {fuel : Nat} {cs : List Value} {y : DataW H × List MemPlace} (hk : kindsA P e = some ks) (h : DataW.trod enc P w base spare held fuel e cs = some y) :
  ∀ (c : Nat) (k : IntKind), ks[c]? = some (.i k) → ∃ n, cs[c]? = some (.int k n) ∧ kmin k ≤ n ∧ n ≤ kmax k := by
 unfold kindsA at hk
 split at hk
 ·rename_i fs hu
  obtain ⟨xs, m, _, _, _, hn, hel⟩ := DataW.trod_struct hu h
  obtain ⟨_, hg⟩ := kindsF_get hk
  intro c k hc
  obtain ⟨f, g1, g2, g3, g4⟩ := hg c _ hc
  have hf : fs[c]? = some f := by simpa using g1
  have hx := hel c f hf
  have hlt : c < xs.length := by
   rw [hn]
   exact (Array.getElem?_eq_some_iff.1 hf).1
  rw [List.getElem?_eq_getElem hlt, g2, g3, Nat.zero_add] at hx
  obtain ⟨n, e1, e2⟩ := scalar_int g4 hx
  refine ⟨n, ?_, e2⟩
  have := congrArg (fun l => l[0]?) e1
  simpa using this
 ·split at hk
  ·rename_i k hs
   cases hk
   intro c k' hc
   cases c with
   | zero =>
    simp only [List.getElem?_cons_zero, Option.some.injEq] at hc
    subst hc
    obtain ⟨n, e1, e2⟩ := scalar_int hs h
    subst e1
    exact ⟨n, rfl, e2⟩
   | succ c => simp at hc
  ·cases hk
theorem rows_int {t e : TypeId} {ks : List CK} {fuel b o len cap : Nat} {y : DataW H × List MemPlace} {arr : Array Value} {el : TypeId} {fz : Nat × Nat} (ht : P.underlying t = some (.slice e)) (hk : kindsA P e = some ks) (hz : P.cellsOf e = ks.length)
  (h : DataW.trod enc P w base spare held fuel t [.slice (some ⟨b, o, none⟩) len cap] = some y) (ha : w.heap[b]? = some (.cells arr el fz)) : ∀ (r c : Nat) (k : IntKind) (n : Int), r < len → ks[c]? = some (.i k) → arr[o + (r * ks.length + c)]? = some (.int k n) → kmin k ≤ n ∧ n ≤ kmax k := by
 intro r c k n hr hc hx
 rcases DataW.trod_slice ht h with ⟨e, _⟩ | ⟨a, len', cap', elems, rest, m, _, e, _, hb, hl, hm, hlen, hel, _, _⟩
 ·cases e
 ·cases e
  have := hel r hr
  rw [List.getElem?_eq_getElem (by omega), hz, Option.bind_eq_some_iff] at this
  obtain ⟨cs', h1, h2⟩ := this
  obtain ⟨n', e1, e2⟩ := kinds_int hk h2 c k hc
  have hlt := (List.getElem?_eq_some_iff.1 hc).1
  have hcc := (World.cells?_some h1).2.2 c hlt
  rw [zCd, zCd, cell_of ha] at hcc
  rw [show o + (r * ks.length + c) = o + r * ks.length + c by omega, hcc, e1] at hx
  cases hx
  exact e2
end Go.Abs
namespace Go.Proofs.Wheels
open Go.Abs Go.Proofs.YtaliacnncemneaaGreat.wheels
def stA (A : TT) (s : WS) : Nat → WS
 | 0 => s
 | i + 1 => (stA A s i).act (A i 0) (A i 1) (A i 2)
theorem stA_i {A : TT} {s : WS} {N : Nat} (h : ActI N 0 0 s) : ∀ i : Nat, i ≤ 1000 → ActI N i (3000 * i) (stA A s i) := by
 intro i
 induction i with
 | zero => intro _; exact h
 | succ i ih =>
  intro hi
  have := (ih (by omega)).act (by omega) (A i 0) (A i 1) (A i 2)
  exact this.more (Nat.le_refl _) (by omega)
theorem new_act {N : Nat} (h1 : 1 ≤ N) (h2 : N ≤ 4096) : ActI N 0 0 (WS.new N) := by
 refine ActI.of ⟨_, new_inv h1 h2⟩ (new_mid h2) rfl (Int.le_refl _) ?_
 show zLf (fun t => !decide (g0 zBj t = 0)) (N : Int).toNat ≤ ((0 : Nat) : Int)
 rw [cntP_no fun i _ => by simp [g0, zBj]]
 exact Int.le_refl _
end Go.Proofs.Wheels
namespace Go.Proofs.YtaliacnncemneaaGreat.wheels
open Go.Abs Go.Proofs.Wheels
set_option maxRecDepth 1000000
noncomputable def runKL (fn key nt : Nat) (shapes : Nat → Shape) (stay i : Nat) (c : Case) (ls : List zAd) (fs : List zAi) : Bool :=
 (@code ⟨c.pc⟩ Tryz.prog (@manyLoops ⟨c.pc⟩ PG [] ls) (callK c.pc ls fs) none fn fuel (zEf fn key) ⟨tmps (shapes i).t, nt, [.rest]⟩ ((shapes i).heap PG [])).every NN (@Case.chk ⟨c.pc⟩ PG nt stay (shapes c.to) c)
theorem kRnd (B : Nat) (pc : List (SB × Bool)) (env : Nat → Int) (ls : List zAd) (fs : List zAi) (hl : ∀ V : @zAc ⟨pc⟩, V.env = env → ∀ S ∈ ls, @zAp ⟨pc⟩ V Tryz.prog [] S) (h : ∀ V : @zAc ⟨pc⟩, V.env = env → ∀ S ∈ fs, @zAj ⟨pc⟩ V Tryz.prog [] S) :
  Rnd Tryz.prog B pc env (@manyLoops ⟨pc⟩ PG [] ls) (callK pc ls fs) :=
 ⟨fun V hV => letI : Facts := ⟨pc⟩; letI := V; zDm (hl V hV), fun V hV => letI : Facts := ⟨pc⟩; letI := V; zEw (hl V hV) B, fun V hV => callK_ok B V (hl V hV) (h V hV)⟩
theorem sel_col (env : Nat → Int) (a c : Nat) (e : SE) : (SE.sel (.tab a) e c).eval env = zAw env (.tab a) (e.eval env).toNat c := by
 show env (zDj a (e.eval env) c) = env (zDj a ((e.eval env).toNat : Int) c)
 unfold zDj
 rw [Int.toNat_natCast]
section
variable (A : TT) (s : WS) (N len i : Nat)
def tbX : List TT := [(stA A s i).when_, (stA A s i).k.N, (stA A s i).k.B, (stA A s i).k.L, (stA A s i).k.C, A]
end
section
variable {A : TT} {s : WS} {N len i : Nat}
structure ActsIn (A : TT) (s : WS) (N len : Nat) : Prop where
 h : ActI N 0 0 s
 mid : ∀ r c, In64 (A r c)
 nm : ∀ r, r < len → A r 2 ≤ 9223372036854775807
 len : len ≤ 60
theorem nX (h : ActI N 0 0 s) {i : Nat} (hi : i ≤ 999) : (stA A s i).n = (stA A s (i + 1)).n := (stA_i h i (by omega)).n.trans (stA_i h (i + 1) (by omega)).n.symm
theorem act_mid {R : Nat} {T : Int} {x : WS} (h : ActI N R T x) (hT : T ≤ 999000000) : In64 x.n ∧ In64 x.now ∧ (∀ r, r < 4 → In64 (x.c r)) ∧ In64 ((allM x.when_ N).length : Int) := by
 obtain ⟨q, hq⟩ := h.q
 have hn := hq.rep.n1; have h0 := hq.now0; have h1 := h.now; have hN := h.n
 have hl := allM_len (M := x.when_) (i := N)
 refine ⟨by unfold In64; omega, by unfold In64; omega, fun r hr => ?_, by unfold In64; omega⟩
 have := hq.c_in hr
 unfold In64; omega
end
end Go.Proofs.YtaliacnncemneaaGreat.wheels
namespace Go.Proofs.Wheels
open Go.Abs
def z4 : C4 := ⟨L 0, L 0, L 0, L 0⟩
def KN : K4 := ⟨.tab 129, .tab 129, .tab 130, zS⟩
def k3 : List CK := [.i .i64, .i .i64, .i .i64]
end Go.Proofs.Wheels
namespace Go.Proofs.YtaliacnncemneaaGreat.wheels
open Go.Abs Go.Proofs.Wheels
theorem sortC : zOd Tryz.prog zLp := fun blk off cap zs w hH hb hs => Tryz.sort_Ints blk off cap zs w hH hb hs
noncomputable def cfgW [Facts] (fs : List zAi) : Cfg := cfgPick zDe PG [] (pickInts zDe PG) (cfgF (zMm 5 []) PG [] fs 100000)
noncomputable def runAt (fn : Nat) (pc : List (SB × Bool)) (ls : List zAd) (fs : List zAi) (us : List AV) (s : HS) : Bool :=
 (letI : Facts := ⟨pc⟩; letI := manyLoops PG [] ls; callN Tryz.prog (cfgW fs) 60 (.f fn) us s).every 1000000000 isTrue
def ActsIs (w : World) (v : Value) (e : Bool) (len : Nat) (row : Nat → Nat → Int) : Prop :=
 bif e then ∃ (b o l cap : Nat) (arr : Array Value) (el : TypeId) (fz : Nat × Nat), v = .slice (some ⟨b, o, none⟩) l cap ∧ len = l ∧ l ≤ cap ∧ w.heap[b]? = some (.cells arr el fz) ∧ o + l * 3 ≤ arr.size ∧ ∀ (r c : Nat) (k' : CK), r < l → k3[c]? = some k' → ∃ x, arr[o + (r * 3 + c)]? = some x ∧ CKv k' (row r c) x
 else len = 0 ∧ ∃ p c, v = .slice p 0 c
theorem start0 (q : zHi) (w : World) : @RW q.F q.V (phi0 PG) w.heap.size (zGh PG []) w := @start_rw' q.F q.V PG _ [] w (fun p hp => by cases hp)
theorem phi0_none {b : Nat} (h : PG ≤ b) : phi0 PG b = none := by
 unfold phi0
 rw [if_neg (by omega)]
theorem put_other {φ : Phi} {b c : Nat} {a : Lc} (h : c ≠ b) : (φ.put b a) c = φ c := by
 unfold Phi.put
 rw [if_neg h]
theorem add_tab {q : zHi} {φ : Phi} {s : HS} {w : World} {a : Lc} {x : Blk} (h : @RW q.F q.V φ w.heap.size s w) (hf : φ s.n = none) (hb : @RB q.F q.V φ w a x) (hx : x.fixed = true) (hy : ∀ c t y, s.h.get c = some (t, y) → y.fixed = true) : @RW q.F q.V (φ.put s.n a) w.heap.size (Abs.addB s x) w :=
 @RW.add q.F q.V φ w.heap.size s w h a x hf hb (fun h => by rw [hx] at h; cases h) (fun c t y a' e hy' => by rw [hy c t y e] at hy'; cases hy')
theorem gl_ok (φ : Phi) (h : ∀ b, b < PG → φ b = phi0 PG b) : GOk Tryz.prog φ := fun g hg => by
 have hg : g < PG := hg
 rw [h g hg]
 unfold phi0
 rw [if_pos hg]
set_option maxRecDepth 1000000
theorem run_lives : ((letI : Facts := ⟨[]⟩; letI := noLoops; callN Tryz.prog (cfg0 100000) 200 (.f 5) [] (zGh Tryz.prog.globals.size [])).every 1000000000 isTrue) = true := by kernel_rfl
theorem walkG {fn : Nat} {us : List AV} {hp : HS} {pc : List (SB × Bool)} {env : Nat → Int} {ls : List zAd} {fs : List zAi} (hpc : Fx env pc) (hmid : ∀ j, In64 (env j)) (hl : ∀ V : @zAc ⟨pc⟩, V.env = env → ∀ S ∈ ls, @zAp ⟨pc⟩ V Tryz.prog [] S) (hfs : ∀ V : @zAc ⟨pc⟩, V.env = env → ∀ S ∈ fs, @zAj ⟨pc⟩ V Tryz.prog [] S) (hrun : runAt fn pc ls fs us hp = true)
  {w : World} {φ : Phi} {xs : Array Value} (hrw : ∀ q : zHi, q.V.env = env → @RW q.F q.V φ w.heap.size hp w) (hf : zEj φ hp.n 1000000000) (hg : GOk Tryz.prog φ) (hx : ∀ q : zHi, q.V.env = env → @RL q.F q.V φ us xs.toList) :
  Calls Tryz.prog fn xs w fun e w' => e = .returned (.bool true) ∧ RowKit.Below w.heap.size w w' := by
 letI Fa : Facts := ⟨pc⟩
 letI Va : zAc := @zAc.mk Fa env hpc hmid []
 letI := manyLoops PG [] ls
 have sp := hl Va rfl
 letI := zDm sp
 have hk0 : zJd Tryz.prog w.heap.size { mg := fun _ => false, known := zMm 5 [], fuel := 100000 } :=
  know_ok (g := 5) (n := 200) (N := 1000000000) (fuel := 100000) (tabs := []) (fun B => zEw sp B) (fun _ _ h => zEu h) (fun p hp => by cases hp) run_lives { mg := fun _ => false, known := zMm 5 [], fuel := 100000 } rfl _
 have hk : zJd Tryz.prog w.heap.size (cfgW fs) := pick_known (zIk (tabs := []) hk0 (hfs Va rfl)) pickInts_ok
 have hrw := hrw ⟨Fa, Va⟩ rfl
 have hx := hx ⟨Fa, Va⟩ rfl
 exact calls_from (cfg := cfgW fs) hk (fun _ h => zEu h) hrw hf hg hx hrun
set_option maxRecDepth 1000000
section
variable {N len : Nat} {A : TT}
theorem zero_all {N : Nat} : allM zBj N = [] := by
 cases h : allM zBj N with
 | nil => rfl
 | cons x l =>
  have := zNg.1 (show x ∈ allM zBj N by rw [h]; exact .head _)
  exact absurd rfl this.2.2
end
end Go.Proofs.YtaliacnncemneaaGreat.wheels
end
