/- All. Conditions: those that each theorem names. -/
import Derived.Test.YtaliacnncemneaaGreatSWheelRef
import Derived.Test.YtaliacnncemneaaGreatSWheelSlice
import Derived.Deep.QuietTactic
import Derived.WalkKit
import Derived.ProofKit
import Derived.Sort.LotA
import Derived.Shelf.GgSortFunc.Tiny
open Go
noncomputable section
namespace Go.Proofs.YtaliacnncemneaaGreat.wheels
open Go.RowKit
theorem wq_abs {P : Program} {ops : Array Oper} {C : World → Prop} {Q : Act → Prop} {l : List Oper} {a : Act} (h : ∀ f : List Oper → Act → Prop, (∀ o rest a, (∀ K : Act → Prop, (∀ a, f rest a → K a) → if Region.wanted o (yielded ops a.tmps) then o.quiet P a C K else K (a.put o.dst undef)) → f (o :: rest) a) → (∀ a, Q a → f [] a) → f l a) : wpQuiet P ops C Q l a :=
 h _ (fun _ _ _ h => wpQuiet_step h) (fun _ h => wpQuiet_nil h)
def zDf (f : Int → Int) (a b : Int) : Bool := decide (f a < f b) || (decide (f a = f b) && decide (a < b))
set_option maxHeartbeats 1600000 in
theorem less_when (blk off c Bw ob Bl ol bw ow bh oh n cap size : Nat) (W : World) (G : Nat → Int) (H : Int → Int) (hw : W.cell? ⟨Bw, ob, none⟩ = some (.pointer (some ⟨bw, ow, none⟩))) (hh : W.cell? ⟨bw, ow + 1, none⟩ = some (.slice (some ⟨bh, oh, none⟩) n cap))
  (hs : W.cell? ⟨Bl, ol, none⟩ = some (.slice (some ⟨blk, off, none⟩) size c)) (hc : ∀ t, t < size → W.cell? ⟨blk, off + t, none⟩ = some (.int .i64 (G t))) (hg : ∀ t, t < size → 0 ≤ G t ∧ G t < n)
  (hd : ∀ x : Nat, x < n → W.cell? ⟨bh, oh + x, none⟩ = some (.int .i64 (H x))) (i j : Nat) (hi : i < size) (hj : j < size) :
  Calls Tryz.prog 32 #[.int .i64 i, .int .i64 j, .pointer (some ⟨Bw, ob, none⟩), .pointer (some ⟨Bl, ol, none⟩)] W fun e w' => e = .returned (.bool (zDf H (G i) (G j))) ∧ ∃ q, w' = W.drewN q := by
 have ci := hc i hi
 have cj := hc j hj
 obtain ⟨gi0, gi1⟩ := hg i hi
 obtain ⟨gj0, gj1⟩ := hg j hj
 obtain ⟨x, hx⟩ : ∃ x : Nat, G i = x := ⟨(G i).toNat, by omega⟩
 obtain ⟨y, hy⟩ : ∃ y : Nat, G j = y := ⟨(G j).toNat, by omega⟩
 rw [hx] at ci gi0 gi1 ⊢
 rw [hy] at cj gj0 gj1 ⊢
 have dx := hd x (by omega)
 have dy := hd y (by omega)
 by_cases h1 : H x < H y
 ·have e : zDf H x y = true := by unfold zDf; rw [decide_eq_true h1]; rfl
  rw [e]
  go_enter Tryz.func32, Tryz.ntmps32
  go_wp2
  go_quiet (fail)
  go_wp2
  refine wp_region_quiet_lit (by kernel_rfl) (by kernel_rfl) ?_
  refine wq_abs (fun f hc hn => ?_)
  repeat (refine hc _ _ _ (fun K hK => ?_); go_simp; refine hK _ ?_; clear hK K)
  refine hn _ ?_
  intro _ hw'
  obtain ⟨nr, hw''⟩ := hw'
  subst hw''
  go_wp2
  go_ret
  exact ⟨rfl, nq + nr, by rw [World.drewN_drewN]⟩
 by_cases h2 : H x = H y
 ·have e : zDf H x y = decide (x < y) := by unfold zDf; rw [decide_eq_false h1, decide_eq_true h2, Bool.false_or, Bool.true_and]; exact decide_eq_decide.2 Int.ofNat_lt
  rw [e]
  go_enter Tryz.func32, Tryz.ntmps32
  go_wp2
  go_quiet (fail)
  go_wp2
  refine wp_region_quiet_lit (by kernel_rfl) (by kernel_rfl) ?_
  refine wq_abs (fun f hc hn => ?_)
  repeat (refine hc _ _ _ (fun K hK => ?_); go_simp; refine hK _ ?_; clear hK K)
  refine hn _ ?_
  intro _ hw'
  obtain ⟨nr, hw''⟩ := hw'
  subst hw''
  go_wp2
  go_ret
  exact ⟨rfl, nq + nr, by rw [World.drewN_drewN]⟩
 ·have e : zDf H x y = decide (H x < H y) := by unfold zDf; rw [decide_eq_false h2]; simp
  rw [e]
  go_enter Tryz.func32, Tryz.ntmps32
  go_wp2
  go_quiet (fail)
  go_wp2
  refine wp_region_quiet_lit (by kernel_rfl) (by kernel_rfl) ?_
  refine wq_abs (fun f hc hn => ?_)
  repeat (refine hc _ _ _ (fun K hK => ?_); go_simp; refine hK _ ?_; clear hK K)
  refine hn _ ?_
  intro _ hw'
  obtain ⟨nr, hw''⟩ := hw'
  subst hw''
  go_wp2
  go_ret
  exact ⟨rfl, nq + nr, by rw [World.drewN_drewN]⟩
end Go.Proofs.YtaliacnncemneaaGreat.wheels
namespace Go.Proofs.Wheels
open Go.Abs
def zOi : Code → Option (Code × Code)
 | .rangeFunc _ _ a b => some (a, b)
 | .seq a b => (zOi a).or (zOi b)
 | .block _ b => zOi b
 | .cond _ a b => (zOi a).or (zOi b)
 | .scope b => zOi b
 | .loop b => zOi b
 | _ => none
def loopW (g G : Nat) (ab : Code × Code) : Blk := .loop .ready none g (tmps [(3, .ptr (G + 4) 0)]) 37 #[25] ab.1 ab.2 (G + 6)
def blsW (g G : Nat) (ab : Code × Code) (l : Bool) : List Blk := [lkRo G, T1r 129 wN, .ro (Tr.fill [.ptr G 0] 0 .lf) 1, .ro (Tr.fill [X 6] 0 .lf) 1, row [bif l then ss (G + 7) (v 7) else nilS], loopW g G ab, .dfr] ++ (bif l then [T1 133 (v 7)] else [])
def tW (G : Nat) : List (Nat × AV) := [(0, .yl (G + 5)), (1, .ptr (G + 2) 0), (2, .ptr (G + 3) 0), (4, X 8)]
def shW (g G : Nat) (ab : Code × Code) : Nat → Shape
 | 0 => ⟨tW G, blsW g G ab false⟩
 | 1 => ⟨tW G, blsW g G ab true⟩
 | 2 => ⟨[], blsW g G ab false⟩
 | _ => ⟨[], blsW g G ab true⟩
def shWs (st : Bool) (g G : Nat) (ab : Code × Code) (i : Nat) : Shape := if st then (if i = 0 then shW g G ab 1 else if i = 1 then shW g G ab 3 else shW g G ab 2) else shW g G ab i
def nmWA (st : St) (s : HS) : List Nat := match st.t.get 0, st.t.get 1, st.t.get 2 with
 | some (.yl l), some (.ptr b 0), some (.ptr c 0) => linksN s (cellOf s b 0) ++ [b, c] ++ (match s.h.get l with
  | some (_, .loop _ _ _ env _ _ _ _ d) => zKu (env.get 3) ++ [l, d] ++ (match env.get 3 with
   | some (.ptr x 0) => ssOf (cellOf s x 0)
   | _ => [])
  | _ => [])
 | _, _, _ => []
def awS (g1 g G : Nat) (ab : Code × Code) (st : Bool) (n l m0 x m N T0 T : SE) (some_ : Bool) : zAd :=
 ⟨g1, 3, 39, shWs st g G ab, fA n l m0 x, gA N T0, nmWA, [⟨.exit 0, if st then 1 else if some_ then 3 else 2, fA n l m (add n l), gA N T⟩], 7⟩
def endJ (st some_ : Bool) : Nat := if st then 1 else if some_ then 3 else 2
def csW0 (G : Nat) : Case := csA0 G
def csW1 (st : Bool) (G : Nat) : Case := { csA1 G with to := if st then 0 else 1 }
def csWE (j : Nat) : Case := csAE j
def bxB (G : Nat) (l : Bool) : List Blk := zDr G ++ ([row [.ptr G 0], row [bif l then ss (G + 9) (v 8) else nilS]] ++ (bif l then [T1 133 (v 8)] else []))
def tP (r G : Nat) (p : Bool) : List (Nat × AV) := [(1, .ptr (G + 7) 0), (3, .ptr (G + 8) 0)] ++ (bif p then [(4, I r), (10, I r), (13, X 7)] else [(10, I r)])
def shP (r G : Nat) : Nat → Shape
 | 0 => ⟨tP r G true, bxB G false⟩
 | 1 => ⟨tP r G true, bxB G true⟩
 | 2 => ⟨tP r G false, bxB G false⟩
 | _ => ⟨tP r G false, bxB G true⟩
def shPs (st : Bool) (r G : Nat) (i : Nat) : Shape := if st then (if i = 0 then shP r G 1 else if i = 1 then shP r G 3 else shP r G 2) else shP r G i
def nmP (st : St) (s : HS) : List Nat := match st.t.get 1, st.t.get 3 with
 | some (.ptr b 0), some (.ptr c 0) => zIo s (cellOf s b 0) ++ [b, c] ++ ssOf (cellOf s c 0)
 | _, _ => []
end Go.Proofs.Wheels
namespace Go.Proofs.YtaliacnncemneaaGreat.wheels
open Go.Abs Go.Proofs.Wheels
noncomputable def abW : Code × Code := (((Tryz.prog.funcs[zDh]?).bind (·.body)).bind zOi).getD (.skip, .skip)
end Go.Proofs.YtaliacnncemneaaGreat.wheels
namespace Go.Proofs.Wheels
open Go.Abs
def lE (r : Nat) : SE := if r = 0 then v 7 else add (v 7) (L (32 * r))
def hE (r : Nat) : SE := sel 129 (add (v 0) (lE r))
def pcP (r : Nat) : List (SB × Bool) := pcW ++ (inR (L 0) (v 7) (L 31) ++ (inR (L 0) (v 8) (L 4096) ++ (inR (L 0) (lE r) (L 127) ++ inR (L 0) (hE r) n127)))
def pcPE : List (SB × Bool) := pcW ++ [eq (v 7) (L 32)]
def awP (r g1 g G : Nat) (ab : Code × Code) (st some_ : Bool) : zAd := awS g1 g G ab st (v 0) (lE r) (v 8) (hE r) (v 9) (.tab 129) (.tab 133) (.tab 134) some_
def fP (n now : SE) (c : C4) (p m : SE) : List SE := [n, now, c.a, c.b, c.c, c.d, L 0, p, m]
def gP (w : SE) (K : K4) (T : SE) : List SE := [w, K.a, K.b, K.c, K.d, T]
def csP (r G : Nat) (to : Nat) (m : List Nat) : Case := ⟨pcP r, .normal, to, [v 0, v 1, v 2, v 3, v 4, v 5, L 0, add (v 7) (L 1), v 9], [.tab 128, .tab 129, .tab 130, .tab 131, .tab 132, .tab 134], m⟩
def nmP9 (G k : Nat) : List Nat := [G, G + 1, G + 2, G + 3, G + 4, G + 5, G + 6, G + 7, G + 8, G + k]
def plS (r g G : Nat) (st : Bool) (n now : SE) (c : C4) (m0 m1 : SE) (w : SE) (K : K4) (T0 T1 : SE) (some_ : Bool) (ex : Nat) : zAd :=
 ⟨g, 9, 37, shPs st r G, fP n now c (L 0) m0, gP w K T0, nmP, [⟨.exit ex, endJ st some_, fP n now c (L 32) m1, gP w K T1⟩], 9⟩
end Go.Proofs.Wheels
namespace Go.Proofs.YtaliacnncemneaaGreat.wheels
open Go.Abs Go.Proofs.Wheels
theorem fxW : zAl (shW zDh PG abW) 7 [true, true, true, true, false, false, false] := fun i => by
 rcases i with _ | _ | _ | i <;> exact ⟨by show (7 : Nat) ≤ _; first | exact Nat.le_refl 7 | exact Nat.le_succ 7, rfl, rfl⟩
theorem fxWs (st : Bool) : zAl (shWs st zDh PG abW) 7 [true, true, true, true, false, false, false] := fun i => by
 unfold shWs
 split
 ·split
  ·exact fxW 1
  ·split
   ·exact fxW 3
   ·exact fxW 2
 ·exact fxW i
set_option maxRecDepth 1000000
theorem goodW2 : zBk PG (shW zDh PG abW 2) = true := by kernel_rfl
theorem goodW3 : zBk PG (shW zDh PG abW 3) = true := by kernel_rfl
theorem upsW : ∀ i, (shW zDh PG abW i).ups 9 6 = true := fun i => by rcases i with _ | _ | _ | i <;> kernel_rfl
theorem upsWs (st : Bool) (i : Nat) : (shWs st zDh PG abW i).ups 9 6 = true := by
 unfold shWs
 split
 ·split
  ·exact upsW 1
  ·split
   ·exact upsW 3
   ·exact upsW 2
 ·exact upsW i
theorem run_w0 : zFp zGc 3 39 (shWs false zDh PG abW) 7 0 (csW0 PG) [] = true := by kernel_rfl
theorem run_w1 : zFp zGc 3 39 (shWs false zDh PG abW) 7 1 (csW1 false PG) [] = true := by kernel_rfl
theorem run_w2 : zFp zGc 3 39 (shWs true zDh PG abW) 7 0 (csW1 true PG) [] = true := by kernel_rfl
theorem run_wE2 : zFp zGc 3 39 (shWs false zDh PG abW) 7 0 (csWE 2) [] = true := by kernel_rfl
theorem run_wE3 : zFp zGc 3 39 (shWs false zDh PG abW) 7 1 (csWE 3) [] = true := by kernel_rfl
theorem run_wE1 : zFp zGc 3 39 (shWs true zDh PG abW) 7 0 (csWE 1) [] = true := by kernel_rfl
def scW (n l : Int) (ac ql : List Int) (i : Nat) : List Int := [n, 0, 0, 0, 0, 0, l, ((ac.length + i : Nat) : Int), plc ql (n + l) i]
def tbW (N : TT) (ac ql : List Int) (i : Nat) : List TT := [zT, N, zT, zT, zT, zAs (ac ++ ql.take i)]
theorem i64s {x : Int} (h1 : 0 ≤ x) (h2 : x ≤ 20000) : In64 x := i64 (by omega) (by omega)
theorem zT_mid : zDc zT := fun _ _ _ => i64s (x := 0) (by omega) (by omega)
section
variable {n l : Int} {N : TT} {ac ql : List Int}
theorem zOf.plc_mid (h : zOf n l N ql) {i : Nat} (hi : i ≤ ql.length) : 0 ≤ plc ql (n + l) i ∧ plc ql (n + l) i ≤ n + 127 := by
 have hn := h.hn; have hl := h.hl
 have hp := h.at_ hi
 by_cases e : i < ql.length
 ·have := hp.1 e; omega
 ·rw [hp.2 (by omega)]; omega
theorem zLn (h : zOf n l N ql) (hlen : ac.length + ql.length ≤ 4096) {i : Nat} (hi : i ≤ ql.length) : zCr In64 (scW n l ac ql i) := by
 have hn := h.hn; have hl := h.hl
 have hp := h.plc_mid hi
 have z : In64 0 := i64s (by omega) (by omega)
 exact ⟨i64s (by omega) (by omega), z, z, z, z, z, i64s (by omega) (by omega), i64s (by omega) (by omega), i64s (by omega) (by omega), trivial⟩
theorem zLj (h : zOf n l N ql) (hac : ∀ y ∈ ac, In64 y) {i : Nat} : zCr zDc (tbW N ac ql i) := by
 refine ⟨zT_mid, h.mid, zT_mid, zT_mid, zT_mid, zBf fun y hy => ?_, trivial⟩
 rcases List.mem_append.1 hy with hy | hy
 ·exact hac y hy
 ·have := h.th y (List.mem_of_mem_take hy)
  have hn := h.hn
  exact i64s (by omega) (by omega)
theorem factsW (h : zOf n l N ql) (hlen : ac.length + ql.length ≤ 4096) {i : Nat} (hi : i < ql.length) : Fx (zCb (scW n l ac ql i) (tbW N ac ql i)) (pcA ++ [ne (v 8) endA]) := by
 have hn := h.hn; have hl := h.hl
 have hp := (h.at_ (Nat.le_of_lt hi)).1 hi
 have e0 : (v 0).eval (zCb (scW n l ac ql i) (tbW N ac ql i)) = n := zDb rfl (by decide)
 have e6 : (v 6).eval (zCb (scW n l ac ql i) (tbW N ac ql i)) = l := zDb rfl (by decide)
 have e7 : (v 7).eval (zCb (scW n l ac ql i) (tbW N ac ql i)) = (ac.length + i : Nat) := zDb rfl (by decide)
 have e8 : (v 8).eval (zCb (scW n l ac ql i) (tbW N ac ql i)) = plc ql (n + l) i := zDb rfl (by decide)
 have e0' : zCb (scW n l ac ql i) (tbW N ac ql i) 0 = n := e0
 refine .app (.app (zOj (by omega) (by omega)) (.app (zAv ?_ ?_) (.app (zAv ?_ ?_) (zAv ?_ ?_)))) (zEb (ne_ok ?_))
 ·rw [e6]; exact hl.1
 ·rw [e6]; show _ ≤ (127 : Int); omega
 ·rw [e7]; show (0 : Int) ≤ _; omega
 ·rw [e7]; show _ ≤ (4095 : Int); omega
 ·rw [e8]; exact hp.1
 ·rw [e8]; show _ ≤ (v 0).eval _ + 127; rw [e0]; omega
 ·rw [e8]; show _ ≠ (v 0).eval _ + (v 6).eval _; rw [e6, e0]; omega
theorem factsWE (h : zOf n l N ql) {i : Nat} (hi : i = ql.length) : Fx (zCb (scW n l ac ql i) (tbW N ac ql i)) pcAE := by
 subst hi
 have hn := h.hn; have hl := h.hl
 have e0 : (v 0).eval (zCb (scW n l ac ql ql.length) (tbW N ac ql ql.length)) = n := zDb rfl (by decide)
 have e6 : (v 6).eval (zCb (scW n l ac ql ql.length) (tbW N ac ql ql.length)) = l := zDb rfl (by decide)
 have e8 : (v 8).eval (zCb (scW n l ac ql ql.length) (tbW N ac ql ql.length)) = plc ql (n + l) ql.length := zDb rfl (by decide)
 have e0' : zCb (scW n l ac ql ql.length) (tbW N ac ql ql.length) 0 = n := e0
 refine .app (zOj (by omega) (by omega)) (.app (zAv ?_ ?_) (zEb (eq_ok ?_)))
 ·rw [e6]; exact hl.1
 ·rw [e6]; show _ ≤ (127 : Int); omega
 ·rw [e8, plc_end]; show _ = (v 0).eval _ + (v 6).eval _; rw [e6, e0]
theorem xW (h : zOf n l N ql) {i : Nat} (hi : i < ql.length) : (sel 129 (v 8)).eval (zCb (scW n l ac ql i) (tbW N ac ql i)) = plc ql (n + l) (i + 1) := by
 rw [ev_sel (T := N) rfl (by decide) (by decide) (zDb (x := plc ql (n + l) i) rfl (by decide))]
 exact h.seg i hi
theorem moreW (h : zOf n l N ql) {i : Nat} (hi : i < ql.length) : zAg (zAw (zCb (scW n l ac ql i) (tbW N ac ql i)) (.cat (.tab 133) (v 7) (oneE (v 8)))) (zAs (ac ++ ql.take (i + 1))) := by
 have e7 : (v 7).eval (zCb (scW n l ac ql i) (tbW N ac ql i)) = (ac.length + i : Nat) := zDb rfl (by decide)
 have e8 : (v 8).eval (zCb (scW n l ac ql i) (tbW N ac ql i)) = plc ql (n + l) i := zDb rfl (by decide)
 have eT : zAg (zFl (zCb (scW n l ac ql i) (tbW N ac ql i)) 133) (zAs (ac ++ ql.take i)) := zAq rfl (by decide) (by decide)
 rw [take_more (b := n + l) hi, ← List.append_assoc, zKn, List.length_append, List.length_take, Nat.min_eq_left (Nat.le_of_lt hi)]
 intro r cc hcc
 show (if (r : Int) < (v 7).eval (zCb (scW n l ac ql i) (tbW N ac ql i)) then zFl (zCb (scW n l ac ql i) (tbW N ac ql i)) 133 r cc else (if (r : Int) - (v 7).eval (zCb (scW n l ac ql i) (tbW N ac ql i)) = 0 ∧ cc = 0 then (v 8).eval (zCb (scW n l ac ql i) (tbW N ac ql i)) else 0)) = _
 rw [e7, e8, eT r cc hcc]
theorem firstW (h : zOf n l N ql) (hi : 0 < ql.length) : zAg (zAw (zCb (scW n l [] ql 0) (tbW N [] ql 0)) (oneE (v 8))) (zAs (([] : List Int) ++ ql.take 1)) := by
 have e8 : (v 8).eval (zCb (scW n l [] ql 0) (tbW N [] ql 0)) = plc ql (n + l) 0 := zDb rfl (by decide)
 rw [show (1 : Nat) = 0 + 1 from rfl, take_more (b := n + l) hi, List.take_zero, List.nil_append, zKn, oneE_row]
 intro r cc hcc
 rw [e8]
 show (if (r : Int) = 0 ∧ cc = 0 then plc ql (n + l) 0 else 0) = if (r : Int) < ((0 : Nat) : Int) then zAs [] r cc else if (r : Int) - ((0 : Nat) : Int) = 0 ∧ cc = 0 then plc ql (n + l) 0 else 0
 rw [if_neg (show ¬ (r : Int) < ((0 : Nat) : Int) by omega)]
 simp
theorem stepW (h : zOf n l N ql) {i : Nat} (hi : i < ql.length) : Ev (zCb (scW n l ac ql i) (tbW N ac ql i)) [.var 0, .var 1, .var 2, .var 3, .var 4, .var 5, .var 6, add (v 7) (L 1), sel 129 (v 8)] (scW n l ac ql (i + 1)) := by
 refine ⟨zDb rfl (by decide), zDb rfl (by decide), zDb rfl (by decide), zDb rfl (by decide), zDb rfl (by decide), zDb rfl (by decide), zDb rfl (by decide), ?_, xW h hi, trivial⟩
 have e7 : (v 7).eval (zCb (scW n l ac ql i) (tbW N ac ql i)) = (ac.length + i : Nat) := zDb rfl (by decide)
 show (v 7).eval _ + 1 = ((ac.length + (i + 1) : Nat) : Int)
 rw [e7]; omega
theorem rowsW (h : zOf n l N ql) {i i' : Nat} {e : SE} (he : zAg (zAw (zCb (scW n l ac ql i) (tbW N ac ql i)) e) (zAs (ac ++ ql.take i'))) : Rw (zCb (scW n l ac ql i) (tbW N ac ql i)) [.tab 128, .tab 129, .tab 130, .tab 131, .tab 132, e] (tbW N ac ql i') :=
 ⟨zHj rfl (by decide) (by decide), zHj rfl (by decide) (by decide), zHj rfl (by decide) (by decide), zHj rfl (by decide) (by decide), zHj rfl (by decide) (by decide), he, trivial⟩
end
theorem aw_proof [F : Facts] [V : zAc] {st some_ : Bool} {n l m0 x m N T0 T : SE} {ac ql : List Int} (h : zOf (n.eval V.env) (l.eval V.env) (zAw V.env N) ql) (hac : ∀ y ∈ ac, In64 y) (hlen : ac.length + ql.length ≤ 4096)
  (hm0 : m0.eval V.env = ac.length) (hx : x.eval V.env = plc ql (n.eval V.env + l.eval V.env) 0) (hm : m.eval V.env = ((ac ++ ql).length : Nat)) (hT0 : zAg (zAw V.env T0) (zAs ac)) (hT : zAg (zAw V.env T) (zAs (ac ++ ql)))
  (hst : st = false → ac = []) (hs : st = false → (some_ = true ↔ ql ≠ [])) : zAp Tryz.prog [] (awS zGc zDh PG abW st n l m0 x m N T0 T some_) := by
 obtain ⟨n', hn'⟩ : ∃ n', n.eval V.env = n' := ⟨_, rfl⟩
 obtain ⟨l', hl'⟩ : ∃ l', l.eval V.env = l' := ⟨_, rfl⟩
 obtain ⟨N', hN'⟩ : ∃ N', zAw V.env N = N' := ⟨_, rfl⟩
 rw [hn', hl', hN'] at h
 rw [hn', hl'] at hx
 have hz : zAg (zAw V.env (.const (L 0))) zT := zAg.refl _
 have h0 : (L 0).eval V.env = 0 := rfl
 have hrun : ∀ i c, zFp zGc 3 39 (shWs st zDh PG abW) 7 i c [] = true → ((@code ⟨c.pc⟩ Tryz.prog noLoops (zCg c.pc []) none zGc fuel (zEf zGc 3) ⟨tmps (shWs st zDh PG abW i).t, 39, [.rest]⟩ ((shWs st zDh PG abW i).heap PG [])).every NN (@Case.chk ⟨c.pc⟩ PG 39 7 (shWs st zDh PG abW c.to) c)) = true := fun i c hh => hh
 have hend0 : endJ st some_ = if st then 1 else if ql = [] then 2 else 3 := by
  unfold endJ
  cases st
  ·cases hb : some_ with
   | true => rw [if_neg (show ¬ (false = true) by decide), if_neg (show ¬ (false = true) by decide), if_pos rfl, if_neg ((hs rfl).1 hb)]
   | false =>
    have : ql = [] := Classical.byContradiction fun hne => by
     have := (hs rfl).2 hne
     rw [hb] at this; cases this
    rw [if_neg (show ¬ (false = true) by decide), if_neg (show ¬ (false = true) by decide), if_neg (show ¬ (false = true) by decide), if_pos this]
  ·rfl
 refine zMa (awS zGc zDh PG abW st n l m0 x m N T0 T some_) (key := 3) isAll (fxWs st) (o := ⟨.exit 0, endJ st some_, fA n l m (add n l), gA N T⟩) rfl ?_ (σ := Nat) (scW n' l' ac ql) (tbW N' ac ql) 9 6 (by decide) (by decide) (upsWs st) rfl rfl rfl rfl
  (I := fun μ j i => (if st then j = 0 else (j = 0 ∧ i = 0) ∨ (j = 1 ∧ 1 ≤ i)) ∧ i ≤ ql.length ∧ μ = ql.length - i) (Post := fun i => i = ql.length) (fun B μ j i hI => ?_) ql.length 0 ⟨by cases st; exact .inl ⟨rfl, rfl⟩; rfl, Nat.zero_le _, rfl⟩ (zLn h hlen (Nat.zero_le _)) (zLj h hac) ?_ ?_ (fun i hp => ?_)
 ·show zBk PG (shWs st zDh PG abW (endJ st some_)) = true
  cases st <;> cases some_
  ·exact goodW2
  ·exact goodW3
  ·exact goodW3
  ·exact goodW3
 ·obtain ⟨hj, hi, rfl⟩ := hI
  by_cases hlt : i < ql.length
  ·cases st with
   | false =>
    rw [if_neg (by decide)] at hj
    have hac0 := hst rfl
    subst hac0
    rcases hj with ⟨rfl, rfl⟩ | ⟨rfl, h1⟩
    ·refine ⟨csW0 PG, 1, noLoops, zCg (csW0 PG).pc [], zDo B _ _ _ (fun V hV S hS => by cases hS), hrun 0 _ run_w0, factsW h hlen hlt, zLn h hlen hlt, zLj h hac, .inr ⟨rfl, rfl, ?_, rowsW h (firstW h hlt)⟩, .inl ⟨rfl, ql.length - 1, by omega, by rw [if_neg (by decide)]; exact .inr ⟨rfl, Nat.le_refl _⟩, hlt, rfl⟩⟩
     exact ⟨zDb rfl (by decide), zDb rfl (by decide), zDb rfl (by decide), zDb rfl (by decide), zDb rfl (by decide), zDb rfl (by decide), zDb rfl (by decide), rfl, xW h hlt, trivial⟩
    ·exact ⟨csW1 false PG, i + 1, noLoops, zCg (csW1 false PG).pc [], zDo B _ _ _ (fun V hV S hS => by cases hS), hrun 1 _ run_w1, factsW h hlen hlt, zLn h hlen hlt, zLj h hac, .inr ⟨rfl, rfl, stepW h hlt, rowsW h (moreW h hlt)⟩, .inl ⟨rfl, ql.length - (i + 1), by omega, by rw [if_neg (by decide)]; exact .inr ⟨rfl, by omega⟩, hlt, rfl⟩⟩
   | true =>
    rw [if_pos rfl] at hj
    subst hj
    exact ⟨csW1 true PG, i + 1, noLoops, zCg (csW1 true PG).pc [], zDo B _ _ _ (fun V hV S hS => by cases hS), hrun 0 _ run_w2, factsW h hlen hlt, zLn h hlen hlt, zLj h hac, .inr ⟨rfl, rfl, stepW h hlt, rowsW h (moreW h hlt)⟩, .inl ⟨rfl, ql.length - (i + 1), by omega, by rw [if_pos rfl]; rfl, hlt, rfl⟩⟩
  ·have hie : i = ql.length := by omega
   cases st with
   | false =>
    rw [if_neg (by decide)] at hj
    rcases hj with ⟨rfl, h1⟩ | ⟨rfl, h1⟩
    ·exact ⟨csWE 2, i, noLoops, zCg (csWE 2).pc [], zDo B _ _ _ (fun V hV S hS => by cases hS), hrun 0 _ run_wE2, factsWE h hie, zLn h hlen hi, zLj h hac, .inl ⟨rfl, rfl, rfl⟩, .inr ⟨(by intro e; cases e), rfl, by rw [hend0, if_neg (by decide), if_pos (List.length_eq_zero_iff.1 (by omega))]; rfl, hie⟩⟩
    ·exact ⟨csWE 3, i, noLoops, zCg (csWE 3).pc [], zDo B _ _ _ (fun V hV S hS => by cases hS), hrun 1 _ run_wE3, factsWE h hie, zLn h hlen hi, zLj h hac, .inl ⟨rfl, rfl, rfl⟩, .inr ⟨(by intro e; cases e), rfl, by rw [hend0, if_neg (by decide), if_neg (fun e => by rw [e] at hie; simp at hie; omega)]; rfl, hie⟩⟩
   | true =>
    rw [if_pos rfl] at hj
    subst hj
    exact ⟨csWE 1, i, noLoops, zCg (csWE 1).pc [], zDo B _ _ _ (fun V hV S hS => by cases hS), hrun 0 _ run_wE1, factsWE h hie, zLn h hlen hi, zLj h hac, .inl ⟨rfl, rfl, rfl⟩, .inr ⟨(by intro e; cases e), rfl, rfl, hie⟩⟩
 ·exact ⟨hn', h0, h0, h0, h0, h0, hl', hm0, hx, trivial⟩
 ·refine ⟨hz, (show zAg (zAw V.env N) N' by rw [hN']; exact zAg.refl _), hz, hz, hz, ?_, trivial⟩
  rw [List.take_zero, List.append_nil]
  exact hT0
 ·subst hp
  refine ⟨⟨hn', h0, h0, h0, h0, h0, hl', hm.trans (by rw [List.length_append]), ?_, trivial⟩, ⟨hz, (show zAg (zAw V.env N) N' by rw [hN']; exact zAg.refl _), hz, hz, hz, ?_, trivial⟩⟩
  ·rw [plc_end]; show n.eval V.env + l.eval V.env = _; rw [hn', hl']
  ·rw [List.take_length]; exact hT
end Go.Proofs.YtaliacnncemneaaGreat.wheels
namespace Go.Proofs.Wheels
def zGw (q : Int → List Int) : Nat → List Int
 | 0 => []
 | i + 1 => zGw q i ++ q i
section
variable {n : Int} {k : LK} {q : Int → List Int}
theorem zKq (h : Rep n k q) : ∀ {i : Nat}, i ≤ 128 → ∀ x, x ∈ zGw q i ↔ 0 ≤ x ∧ x < n ∧ 0 ≤ g0 k.L x ∧ g0 k.L x < i := by
 intro i
 induction i with
 | zero => intro _ x; exact ⟨(fun hx => by cases hx), (fun hx => by omega)⟩
 | succ i ih =>
  intro hi x
  have ih := ih (by omega) x
  unfold zGw
  rw [List.mem_append, ih]
  constructor
  ·rintro (h1 | h1)
   ·exact ⟨h1.1, h1.2.1, h1.2.2.1, by omega⟩
   ·have := h.thing i (by omega) (by omega) x h1
    exact ⟨this.1, this.2.1, by omega, by omega⟩
  ·rintro ⟨h1, h2, h3, h4⟩
   by_cases e : g0 k.L x = i
   ·rcases h.list x h1 h2 with h5 | ⟨_, _, h5⟩
    ·omega
    ·rw [e] at h5; exact .inr h5
   ·exact .inl ⟨h1, h2, h3, by omega⟩
theorem catQ_nodup (h : Rep n k q) : ∀ {i : Nat}, i ≤ 128 → (zGw q i).Nodup := by
 intro i
 induction i with
 | zero => intro _; exact .nil
 | succ i ih =>
  intro hi
  unfold zGw
  refine List.nodup_append.2 ⟨ih (by omega), h.nodup i (by omega) (by omega), fun a ha b hb e => ?_⟩
  have h1 := (zKq h (by omega) a).1 ha
  have h2 := h.thing i (by omega) (by omega) b hb
  rw [e] at h1
  omega
theorem catQ_len (h : Rep n k q) {i : Nat} (hi : i ≤ 128) : (zGw q i).length ≤ 4096 := by
 have hn := h.n1
 have := zJu (n := n.toNat) (catQ_nodup h hi) fun t ht => by
  have := (zKq h hi t).1 ht
  omega
 omega
end
end Go.Proofs.Wheels
namespace Go.Proofs.YtaliacnncemneaaGreat.wheels
open Go.Abs Go.Proofs.Wheels
theorem pend_list3 [F : Facts] [V : zAc] (S : zAd) {fx : List Bool} {key : Nat} (hloop : ((Tryz.prog.funcs[S.fn]?).bind (·.body)).map (fun c => zBm S.key (subs c)) = some [zEf S.fn key]) (hfx : zAl S.shapes S.stay fx) {o : zBp} (ho : S.outs = [o]) (hgood : zBk PG (S.shapes o.j) = true)
  {σ : Type} (E : σ → Nat → Int) (sc scx : σ → List Int) (tb tbx : σ → List TT) (hE : ∀ s, E s = zCb (sc s ++ scx s) (tb s ++ tbx s)) (kv kt : Nat) (hkv : kv ≤ 128) (hkt : kt ≤ 128) (hups : ∀ i, (S.shapes i).ups kv kt = true) (hf0 : S.f0.length = kv) (hg0 : S.g0.length = kt) (hof : o.f.length = kv) (hog : o.g.length = kt) {I : Nat → Nat → σ → Prop} {Post : σ → Prop}
  (hmid : ∀ μ i s, I μ i s → zCr In64 (sc s ++ scx s) ∧ zCr zDc (tb s ++ tbx s))
  (hstep : ∀ B μ i s, I μ i s → ∃ (c : Case) (s' : σ) (Lo : zDa) (call : Tgt → List AV → M AV), Rnd Tryz.prog B c.pc (E s) Lo call ∧ ((@code ⟨c.pc⟩ Tryz.prog Lo call none S.fn fuel (zEf S.fn key) ⟨tmps (S.shapes i).t, S.nt, [.rest]⟩ ((S.shapes i).heap PG [])).every NN (@Case.chkP ⟨c.pc⟩ PG S.nt S.stay (S.shapes c.to) c)) = true ∧
   Fx (E s) c.pc ∧ ((c.f = [] ∧ c.g = [] ∧ s' = s) ∨ (c.f.length = kv ∧ c.g.length = kt ∧ Ev (E s) c.f (sc s') ∧ Rw (E s) c.g (tb s'))) ∧ ((c.e = .normal ∧ ∃ ν, ν < μ ∧ I ν c.to s') ∨ (c.e ≠ .normal ∧ c.e = o.e ∧ c.to = o.j ∧ Post s' ∧ zCr In64 (sc s' ++ scx s') ∧ zCr zDc (tb s' ++ tbx s'))))
  (μ : Nat) (s0 : σ) (hI : I μ 0 s0) (ha1 : Ev V.env S.f0 (sc s0)) (ha2 : Rw V.env S.g0 (tb s0))
  (hend : ∀ s, Post s → Ev V.env o.f (sc s) ∧ Rw V.env o.g (tb s)) : zGd Tryz.prog [] S := by
 have em : ∀ s, zCr In64 (sc s ++ scx s) ∧ zCr zDc (tb s ++ tbx s) → ∀ j, In64 (E s j) := fun s h j => by rw [hE]; exact zEp h.1 h.2 j
 refine pend_proof (N := NN) (fuel := fuel) S zFe (fx := fx) (b0 := zEf S.fn key) hloop hfx (zCa ho hgood) (σ := σ) E kv kt hkv hups (by omega) (by omega) (I := I) (Post := fun e j s => e = o.e ∧ j = o.j ∧ Post s) (fun B μ i s h => ?_) μ s0 hI (em s0 (hmid _ _ _ hI)) (by rw [hE]; exact zHh hf0 hg0 hkv hkt ha1 ha2) (fun e j s h => ?_)
 ·obtain ⟨c, s', Lo, call, p1, p2, p3, p6, p7⟩ := hstep B μ i s h
  refine ⟨c, s', Lo, call, p1, p2, p3, ?_, ?_, ?_, ?_, ?_⟩
  ·rcases p6 with ⟨e1, _⟩ | ⟨e1, _⟩
   ·rw [e1]; exact Nat.zero_le _
   ·omega
  ·rcases p6 with ⟨_, e1, _⟩ | ⟨_, e1, _⟩
   ·rw [e1]; exact Nat.zero_le _
   ·omega
  ·rcases p7 with ⟨_, ν, _, q⟩ | ⟨_, _, _, _, q⟩
   ·exact em s' (hmid _ _ _ q)
   ·exact em s' q
  ·rcases p6 with ⟨e1, e2, rfl⟩ | ⟨e1, e2, e3, e4⟩
   ·have : c.next (E s') = zBb (fvL c.f) (gvL c.g) (E s') := rfl
    rw [this, e1, e2]
    exact agree_id kv kt hkv hkt _
   ·rw [hE s']
    exact zHh e1 e2 hkv hkt e3 e4
  ·rcases p7 with q | ⟨q1, q2, q3, q4, _⟩
   ·exact .inl q
   ·exact .inr ⟨q1, q2, q3, q4⟩
 ·obtain ⟨rfl, rfl, hp⟩ := h
  obtain ⟨h1, h2⟩ := hend s hp
  exact ⟨0, o, by rw [ho]; rfl, rfl, rfl, by omega, by omega, zEa (by rw [hE]; exact zHh hof hog hkv hkt h1 h2)⟩
set_option maxRecDepth 1000000
theorem isPl : ((Tryz.prog.funcs[zDh]?).bind (·.body)).map (fun c => zBm 9 (subs c)) = some [zEf zDh 9] := by kernel_rfl
theorem fxPl (r : Nat) : zAl (shP r PG) 9 [false, false, false, false, false, false, false, false, false] := fun i => by
 rcases i with _ | _ | _ | i <;> exact ⟨by show (9 : Nat) ≤ _; first | exact Nat.le_refl 9 | exact Nat.le_succ 9, rfl, rfl⟩
theorem fxPs (st : Bool) (r : Nat) : zAl (shPs st r PG) 9 [false, false, false, false, false, false, false, false, false] := fun i => by
 unfold shPs
 split
 ·split
  ·exact fxPl r 1
  ·split
   ·exact fxPl r 3
   ·exact fxPl r 2
 ·exact fxPl r i
theorem goodP2 (r : Nat) (h : r < 4) : zBk PG (shP r PG 2) = true := by rcases r with _ | _ | _ | _ | r <;> first | omega | kernel_rfl
theorem goodP3 (r : Nat) (h : r < 4) : zBk PG (shP r PG 3) = true := by rcases r with _ | _ | _ | _ | r <;> first | omega | kernel_rfl
theorem upsP (r : Nat) (h : r < 4) : ∀ i, (shP r PG i).ups 9 6 = true := fun i => by
 rcases i with _ | _ | _ | i <;> rcases r with _ | _ | _ | _ | r <;> first | omega | kernel_rfl
theorem upsPs (st : Bool) (r : Nat) (h : r < 4) (i : Nat) : (shPs st r PG i).ups 9 6 = true := by
 unfold shPs
 split
 ·split
  ·exact upsP r h 1
  ·split
   ·exact upsP r h 3
   ·exact upsP r h 2
 ·exact upsP r h i
noncomputable def runP (st : Bool) (r i : Nat) (c : Case) (ls : List zAd) : Bool :=
 (@code ⟨c.pc⟩ Tryz.prog (@manyLoops ⟨c.pc⟩ PG [] ls) (zJk c.pc ls []) none zDh fuel (zEf zDh 9) ⟨tmps (shPs st r PG i).t, 37, [.rest]⟩ ((shPs st r PG i).heap PG [])).every NN (@Case.chkP ⟨c.pc⟩ PG 37 9 (shPs st r PG c.to) c)
def csPE (j : Nat) : Case := ⟨pcPE, .exit 2, j, [], [], []⟩
theorem run_pF (r : Nat) (h : r < 4) : runP false r 0 (csP r PG 0 []) [awP r zGc zDh PG abW false false] = true := by rcases r with _ | _ | _ | _ | r <;> first | omega | kernel_rfl
theorem run_pS (r : Nat) (h : r < 4) : runP false r 0 (csP r PG 1 (nmP9 PG 13)) [awP r zGc zDh PG abW false true] = true := by rcases r with _ | _ | _ | _ | r <;> first | omega | kernel_rfl
theorem run_p1 (r : Nat) (h : r < 4) : runP false r 1 (csP r PG 1 (nmP9 PG 14)) [awP r zGc zDh PG abW true true] = true := by rcases r with _ | _ | _ | _ | r <;> first | omega | kernel_rfl
theorem run_pT (r : Nat) (h : r < 4) : runP true r 0 (csP r PG 0 (nmP9 PG 14)) [awP r zGc zDh PG abW true true] = true := by rcases r with _ | _ | _ | _ | r <;> first | omega | kernel_rfl
theorem run_pE0 (r : Nat) (h : r < 4) : runP false r 0 (csPE 2) [] = true := by rcases r with _ | _ | _ | _ | r <;> first | omega | kernel_rfl
theorem run_pE1 (r : Nat) (h : r < 4) : runP false r 1 (csPE 3) [] = true := by rcases r with _ | _ | _ | _ | r <;> first | omega | kernel_rfl
theorem run_pET (r : Nat) (h : r < 4) : runP true r 0 (csPE 1) [] = true := by rcases r with _ | _ | _ | _ | r <;> first | omega | kernel_rfl
section
variable {s : WS} {q : Int → List Int}
def accQ (q : Int → List Int) (r j : Nat) : List Int := zGw q (32 * r + j)
def nxtQ (q : Int → List Int) (r j : Nat) : List Int := if j < 32 then accQ q r (j + 1) else accQ q r j
theorem zKf {r j : Nat} : accQ q r (j + 1) = accQ q r j ++ q ((32 * r + j : Nat) : Int) := rfl
def scP (s : WS) (q : Int → List Int) (r j : Nat) : List Int := [s.n, s.now, s.c 0, s.c 1, s.c 2, s.c 3, 0, (j : Nat), (accQ q r j).length]
def tbP (s : WS) (q : Int → List Int) (r j : Nat) : List TT := [s.when_, s.k.N, s.k.B, s.k.L, s.k.C, zAs (accQ q r j)]
def zLq (s : WS) (q : Int → List Int) (r j : Nat) : Nat → Int := zCb (scP s q r j ++ [((nxtQ q r j).length : Int)]) (tbP s q r j ++ [zAs (nxtQ q r j)])
theorem acc_len (h : zEc s q) {r j : Nat} (hr : r < 4) (hj : j ≤ 32) : (accQ q r j).length ≤ 4096 := catQ_len h.rep (by omega)
theorem nxt_len (h : zEc s q) {r j : Nat} (hr : r < 4) (hj : j ≤ 32) : (nxtQ q r j).length ≤ 4096 := by
 unfold nxtQ
 split
 ·exact acc_len h hr (by omega)
 ·exact acc_len h hr hj
theorem acc_mid (h : zEc s q) {r j : Nat} (hr : r < 4) (hj : j ≤ 32) : ∀ y ∈ accQ q r j, In64 y := fun y hy => by
 have := (zKq h.rep (by omega) y).1 hy
 have hn := h.rep.n1
 exact i64s (by omega) (by omega)
theorem nxt_mid (h : zEc s q) {r j : Nat} (hr : r < 4) (hj : j ≤ 32) : ∀ y ∈ nxtQ q r j, In64 y := by
 unfold nxtQ
 split
 ·exact acc_mid h hr (by omega)
 ·exact acc_mid h hr hj
theorem midP (h : zEc s q) (hm : zEh s) {r j : Nat} (hr : r < 4) (hj : j ≤ 32) : zCr In64 (scP s q r j ++ [((nxtQ q r j).length : Int)]) ∧ zCr zDc (tbP s q r j ++ [zAs (nxtQ q r j)]) := by
 have hn := h.rep.n1; have h0 := h.now0; have h1 := hm.now
 have c0 := h.c_in (r := 0) (by omega); have c1 := h.c_in (r := 1) (by omega); have c2 := h.c_in (r := 2) (by omega); have c3 := h.c_in (r := 3) (by omega)
 have l1 := acc_len h hr hj; have l2 := nxt_len h hr hj
 have big : ∀ x : Int, 0 ≤ x → x ≤ 999000000 → In64 x := fun x a b => by unfold In64; omega
 exact ⟨⟨big _ (by omega) (by omega), big _ (by omega) (by omega), big _ c0.1 (by omega), big _ c1.1 (by omega), big _ c2.1 (by omega), big _ c3.1 (by omega), big _ (by omega) (by omega), big _ (by omega) (by omega), big _ (by omega) (by omega), big _ (by omega) (by omega), trivial⟩,
  ⟨hm.w, hm.k.N, hm.k.B, hm.k.L, hm.k.C, zBf (acc_mid h hr hj), zBf (nxt_mid h hr hj), trivial⟩⟩
theorem lE_ev {r j : Nat} : (lE r).eval (zLq s q r j) = ((32 * r + j : Nat) : Int) := by
 have e : (v 7).eval (zLq s q r j) = j := zDb rfl (by decide)
 unfold lE
 split
 ·rw [e]; omega
 ·show (v 7).eval _ + ((32 * r : Nat) : Int) = _
  rw [e]; omega
theorem n_ev {r j : Nat} : (v 0).eval (zLq s q r j) = s.n := zDb rfl (by decide)
theorem segP (h : zEc s q) {r j : Nat} (hr : r < 4) (hj : j < 32) : g0 s.k.N (s.n + ((32 * r + j : Nat) : Int)) = plc (q ((32 * r + j : Nat) : Int)) (s.n + ((32 * r + j : Nat) : Int)) 0 ∧ ∀ i, i < (q ((32 * r + j : Nat) : Int)).length → g0 s.k.N (plc (q ((32 * r + j : Nat) : Int)) (s.n + ((32 * r + j : Nat) : Int)) i) = plc (q ((32 * r + j : Nat) : Int)) (s.n + ((32 * r + j : Nat) : Int)) (i + 1) :=
 seg_plc (h.rep.seg _ (by omega) (by omega))
theorem hE_ev (h : zEc s q) {r j : Nat} (hr : r < 4) (hj : j < 32) : (hE r).eval (zLq s q r j) = plc (q ((32 * r + j : Nat) : Int)) (s.n + ((32 * r + j : Nat) : Int)) 0 := by
 unfold hE
 refine (ev_sel (sc := scP s q r j ++ [((nxtQ q r j).length : Int)]) (tb := tbP s q r j ++ [zAs (nxtQ q r j)]) (T := s.k.N) rfl (by decide) (by decide) (x := s.n + ((32 * r + j : Nat) : Int)) ?_).trans (segP h hr hj).1
 show (v 0).eval (zLq s q r j) + (lE r).eval (zLq s q r j) = _
 rw [n_ev, lE_ev]
theorem ainvP (h : zEc s q) (hm : zEh s) {r j : Nat} (hr : r < 4) (hj : j < 32) {N : TT} (hN : zAg N s.k.N) : zOf s.n ((32 * r + j : Nat) : Int) N (q ((32 * r + j : Nat) : Int)) := by
 have hn := h.rep.n1
 refine ⟨by omega, ⟨by omega, by omega⟩, fun i hi => by rw [hN.g]; exact (segP h hr hj).2 i hi, fun t ht => ?_, ?_, hm.k.N.of hN⟩
 ·have := h.rep.thing _ (by omega) (by omega) t ht
  omega
 ·have := zJu (n := s.n.toNat) (h.rep.nodup ((32 * r + j : Nat) : Int) (by omega) (by omega)) fun t ht => by
   have := h.rep.thing _ (by omega) (by omega) t ht
   omega
  omega
theorem pcP_ok (h : zEc s q) (hm : zEh s) {r j : Nat} (hr : r < 4) (hj : j < 32) : Fx (zLq s q r j) (pcP r) := by
 have hn := h.rep.n1; have h0 := h.now0; have h1 := hm.now
 have e0 : zLq s q r j 0 = s.n := n_ev
 have e1 : zLq s q r j 1 = s.now := zDb (i := 1) rfl (by decide)
 have e7 : (v 7).eval (zLq s q r j) = j := zDb rfl (by decide)
 have e8 : (v 8).eval (zLq s q r j) = (accQ q r j).length := zDb rfl (by decide)
 have l1 := acc_len h hr (Nat.le_of_lt hj)
 have hp := (ainvP h hm hr hj (zAg.refl _)).plc_mid (Nat.zero_le _)
 refine .app (pcW_ok (by omega) (by omega) (by unfold most; omega) fun i h2 h6 => ?_) (.app (zAv ?_ ?_) (.app (zAv ?_ ?_) (.app (zAv ?_ ?_) (zAv ?_ ?_))))
 ·rcases (show i = 2 ∨ i = 3 ∨ i = 4 ∨ i = 5 by omega) with rfl | rfl | rfl | rfl
  ·rw [show zLq s q r j 2 = s.c 0 from zDb (i := 2) rfl (by decide)]; exact h.c_in (by omega)
  ·rw [show zLq s q r j 3 = s.c 1 from zDb (i := 3) rfl (by decide)]; exact h.c_in (by omega)
  ·rw [show zLq s q r j 4 = s.c 2 from zDb (i := 4) rfl (by decide)]; exact h.c_in (by omega)
  ·rw [show zLq s q r j 5 = s.c 3 from zDb (i := 5) rfl (by decide)]; exact h.c_in (by omega)
 ·rw [e7]; show (0 : Int) ≤ _; omega
 ·rw [e7]; show _ ≤ (31 : Int); omega
 ·rw [e8]; show (0 : Int) ≤ _; omega
 ·rw [e8]; show _ ≤ (4096 : Int); omega
 ·rw [lE_ev]; show (0 : Int) ≤ _; omega
 ·rw [lE_ev]; show _ ≤ (127 : Int); omega
 ·rw [hE_ev h hr hj]; exact hp.1
 ·rw [hE_ev h hr hj]; show _ ≤ (v 0).eval _ + 127; rw [n_ev]; exact hp.2
theorem pcPE_ok (h : zEc s q) (hm : zEh s) {r j : Nat} (hj : j = 32) : Fx (zLq s q r j) pcPE := by
 have hn := h.rep.n1; have h0 := h.now0; have h1 := hm.now
 have e0 : zLq s q r j 0 = s.n := n_ev
 have e1 : zLq s q r j 1 = s.now := zDb (i := 1) rfl (by decide)
 have e7 : (v 7).eval (zLq s q r j) = j := zDb rfl (by decide)
 refine .app (pcW_ok (by omega) (by omega) (by unfold most; omega) fun i h2 h6 => ?_) (zEb (eq_ok ?_))
 ·rcases (show i = 2 ∨ i = 3 ∨ i = 4 ∨ i = 5 by omega) with rfl | rfl | rfl | rfl
  ·rw [show zLq s q r j 2 = s.c 0 from zDb (i := 2) rfl (by decide)]; exact h.c_in (by omega)
  ·rw [show zLq s q r j 3 = s.c 1 from zDb (i := 3) rfl (by decide)]; exact h.c_in (by omega)
  ·rw [show zLq s q r j 4 = s.c 2 from zDb (i := 4) rfl (by decide)]; exact h.c_in (by omega)
  ·rw [show zLq s q r j 5 = s.c 3 from zDb (i := 5) rfl (by decide)]; exact h.c_in (by omega)
 ·rw [e7, hj]; rfl
theorem awP_at (h : zEc s q) (hm : zEh s) {r j : Nat} (hr : r < 4) (hj : j < 32) {st some_ : Bool} (hst : st = false → accQ q r j = []) (hs : st = false → (some_ = true ↔ q ((32 * r + j : Nat) : Int) ≠ [])) [F : Facts] [V : zAc] (hV : V.env = zLq s q r j) :
  zAp Tryz.prog [] (awP r zGc zDh PG abW st some_) := by
 have hN : zAg (zAw (zLq s q r j) (.tab 129)) s.k.N := zHj rfl (by decide) (by decide)
 have hx : nxtQ q r j = accQ q r j ++ q ((32 * r + j : Nat) : Int) := by unfold nxtQ; rw [if_pos hj, zKf]
 have hl : (accQ q r j).length + (q ((32 * r + j : Nat) : Int)).length ≤ 4096 := by
  have := nxt_len h hr (Nat.le_of_lt hj)
  rw [hx, List.length_append] at this
  exact this
 refine aw_proof (ac := accQ q r j) (ql := q ((32 * r + j : Nat) : Int)) ?_ (acc_mid h hr (Nat.le_of_lt hj)) hl ?_ ?_ ?_ ?_ ?_ hst hs
 all_goals rw [hV]
 ·rw [n_ev, lE_ev]; exact ainvP h hm hr hj hN
 ·exact zDb rfl (by decide)
 ·rw [n_ev, lE_ev]; exact hE_ev h hr hj
 ·rw [← hx]; exact zDb rfl (by decide)
 ·exact zHj rfl (by decide) (by decide)
 ·rw [← hx]; exact zHj rfl (by decide) (by decide)
theorem stepP (r j : Nat) (hj : j < 32) {c : Case} (hf : c.f = [v 0, v 1, v 2, v 3, v 4, v 5, L 0, add (v 7) (L 1), v 9]) (hg : c.g = [.tab 128, .tab 129, .tab 130, .tab 131, .tab 132, .tab 134]) : Ev (zLq s q r j) c.f (scP s q r (j + 1)) ∧ Rw (zLq s q r j) c.g (tbP s q r (j + 1)) := by
 have hx : nxtQ q r j = accQ q r (j + 1) := by unfold nxtQ; rw [if_pos hj]
 have e7 : (v 7).eval (zLq s q r j) = j := zDb rfl (by decide)
 rw [hf, hg]
 refine ⟨⟨zDb rfl (by decide), zDb rfl (by decide), zDb rfl (by decide), zDb rfl (by decide), zDb rfl (by decide), zDb rfl (by decide), rfl, ?_, ?_, trivial⟩, ⟨zHj rfl (by decide) (by decide), zHj rfl (by decide) (by decide), zHj rfl (by decide) (by decide), zHj rfl (by decide) (by decide), zHj rfl (by decide) (by decide), ?_, trivial⟩⟩
 ·show (v 7).eval _ + 1 = ((j + 1 : Nat) : Int)
  rw [e7]; omega
 ·show (v 9).eval _ = ((accQ q r (j + 1)).length : Int)
  rw [← hx]; exact zDb rfl (by decide)
 ·show zAg (zAw _ (.tab 134)) (zAs (accQ q r (j + 1)))
  rw [← hx]; exact zHj rfl (by decide) (by decide)
end
theorem pl_proof [F : Facts] [V : zAc] {s : WS} {q : Int → List Int} (h : zEc s q) (hm : zEh s) {r : Nat} (hr : r < 4) {n now m0 m1 w T0 T1 : SE} {c : C4} {K : K4} {st some_ : Bool} (hs : zDg (wsE V.env n now c w K) s)
  (hm0 : m0.eval V.env = (zGw q (32 * r)).length) (hm1 : m1.eval V.env = (zGw q (32 * r + 32)).length) (hT0 : zAg (zAw V.env T0) (zAs (zGw q (32 * r)))) (hT1 : zAg (zAw V.env T1) (zAs (zGw q (32 * r + 32))))
  (hst : st = true ↔ zGw q (32 * r) ≠ []) (hso : some_ = true ↔ zGw q (32 * r + 32) ≠ []) : zGd Tryz.prog [] (plS r zDh PG st n now c m0 m1 w K T0 T1 some_ 2) := by
 have hrun : ∀ i c ls, runP st r i c ls = true → ((@code ⟨c.pc⟩ Tryz.prog (@manyLoops ⟨c.pc⟩ PG [] ls) (zJk c.pc ls []) none zDh fuel (zEf zDh 9) ⟨tmps (shPs st r PG i).t, 37, [.rest]⟩ ((shPs st r PG i).heap PG [])).every NN (@Case.chkP ⟨c.pc⟩ PG 37 9 (shPs st r PG c.to) c)) = true := fun i c ls hh => hh
 have hacc : ∀ j, accQ q r j = [] → accQ q r 0 = [] := fun j => by
  induction j with
  | zero => exact id
  | succ j ih => intro e; rw [zKf] at e; exact ih (List.append_eq_nil_iff.1 e).1
 have h0 : accQ q r 0 = zGw q (32 * r) := rfl
 have sc0 : s.c 0 = c.a.eval V.env := (hs.c 0 (by omega)).symm
 have sc1 : s.c 1 = c.b.eval V.env := (hs.c 1 (by omega)).symm
 have sc2 : s.c 2 = c.c.eval V.env := (hs.c 2 (by omega)).symm
 have sc3 : s.c 3 = c.d.eval V.env := (hs.c 3 (by omega)).symm
 have ev : ∀ (p m : SE) (j : Nat), p.eval V.env = j → m.eval V.env = (accQ q r j).length → Ev V.env (fP n now c p m) (scP s q r j) := fun p m j hp hm => ⟨hs.n, hs.now, sc0.symm, sc1.symm, sc2.symm, sc3.symm, rfl, hp, hm, trivial⟩
 have rw' : ∀ (T : SE) (j : Nat), zAg (zAw V.env T) (zAs (accQ q r j)) → Rw V.env (gP w K T) (tbP s q r j) := fun T j hT => ⟨hs.w, hs.k.N, hs.k.B, hs.k.L, hs.k.C, hT, trivial⟩
 refine pend_list3 (plS r zDh PG st n now c m0 m1 w K T0 T1 some_ 2) (key := 9) isPl (fxPs st r) (o := ⟨.exit 2, endJ st some_, fP n now c (L 32) m1, gP w K T1⟩) rfl ?_ (σ := Nat) (zLq s q r) (scP s q r) (fun j => [((nxtQ q r j).length : Int)]) (tbP s q r) (fun j => [zAs (nxtQ q r j)]) (fun _ => rfl) 9 6 (by decide) (by decide) (upsPs st r hr) rfl rfl rfl rfl
  (I := fun μ i j => (if st then i = 0 else (i = 0 ∧ accQ q r j = []) ∨ (i = 1 ∧ accQ q r j ≠ [])) ∧ j ≤ 32 ∧ μ = 32 - j) (Post := fun j => j = 32) (fun μ i j hI => midP h hm hr hI.2.1) (fun B μ i j hI => ?_) 32 0 ⟨?_, Nat.zero_le _, rfl⟩ (ev _ _ 0 rfl hm0) (rw' _ 0 hT0) (fun j hp => ?_)
 ·show zBk PG (shPs st r PG (endJ st some_)) = true
  cases st <;> cases some_
  ·exact goodP2 r hr
  ·exact goodP3 r hr
  ·exact goodP3 r hr
  ·exact goodP3 r hr
 ·obtain ⟨hi, hj, rfl⟩ := hI
  by_cases hlt : j < 32
  ·have rnd : ∀ (st' some' : Bool) (c : Case), c.pc = pcP r → (st' = false → accQ q r j = []) → (st' = false → (some' = true ↔ q ((32 * r + j : Nat) : Int) ≠ [])) → Rnd Tryz.prog B c.pc (zLq s q r j) (@manyLoops ⟨c.pc⟩ PG [] [awP r zGc zDh PG abW st' some']) (zJk c.pc [awP r zGc zDh PG abW st' some'] []) := fun st' some' c _ a1 a2 =>
    manyRnd B c.pc _ _ _ (fun V hV S hS => by
     simp only [List.mem_cons, List.not_mem_nil, or_false] at hS
     subst hS
     exact @awP_at s q h hm r j hr hlt st' some' a1 a2 ⟨c.pc⟩ V hV) (fun V hV S hS => by cases hS)
   have nx : (32 - (j + 1)) < 32 - j := by omega
   cases st with
   | false =>
    rw [if_neg (by decide)] at hi
    rcases hi with ⟨rfl, hnil⟩ | ⟨rfl, hne⟩
    ·by_cases hq : q ((32 * r + j : Nat) : Int) = []
     ·exact ⟨csP r PG 0 [], j + 1, _, _, rnd false false _ rfl (fun _ => hnil) (fun _ => ⟨(fun e => by cases e), (fun e => absurd hq e)⟩), hrun 0 _ _ (run_pF r hr), pcP_ok h hm hr hlt, .inr ⟨rfl, rfl, (stepP r j hlt rfl rfl).1, (stepP (c := csP r PG 0 []) r j hlt rfl rfl).2⟩, .inl ⟨rfl, _, nx, by rw [if_neg (by decide)]; exact .inl ⟨rfl, by rw [zKf, hnil, hq]; rfl⟩, hlt, rfl⟩⟩
     ·exact ⟨csP r PG 1 (nmP9 PG 13), j + 1, _, _, rnd false true _ rfl (fun _ => hnil) (fun _ => ⟨fun _ => hq, fun _ => rfl⟩), hrun 0 _ _ (run_pS r hr), pcP_ok h hm hr hlt, .inr ⟨rfl, rfl, (stepP r j hlt rfl rfl).1, (stepP (c := csP r PG 1 (nmP9 PG 13)) r j hlt rfl rfl).2⟩, .inl ⟨rfl, _, nx, by rw [if_neg (by decide)]; exact .inr ⟨rfl, by rw [zKf, hnil]; exact hq⟩, hlt, rfl⟩⟩
    ·exact ⟨csP r PG 1 (nmP9 PG 14), j + 1, _, _, rnd true true _ rfl (fun e => by cases e) (fun e => by cases e), hrun 1 _ _ (run_p1 r hr), pcP_ok h hm hr hlt, .inr ⟨rfl, rfl, (stepP r j hlt rfl rfl).1, (stepP (c := csP r PG 1 (nmP9 PG 14)) r j hlt rfl rfl).2⟩, .inl ⟨rfl, _, nx, by rw [if_neg (by decide)]; exact .inr ⟨rfl, by rw [zKf]; exact fun e => hne (List.append_eq_nil_iff.1 e).1⟩, hlt, rfl⟩⟩
   | true =>
    rw [if_pos rfl] at hi
    subst hi
    exact ⟨csP r PG 0 (nmP9 PG 14), j + 1, _, _, rnd true true _ rfl (fun e => by cases e) (fun e => by cases e), hrun 0 _ _ (run_pT r hr), pcP_ok h hm hr hlt, .inr ⟨rfl, rfl, (stepP r j hlt rfl rfl).1, (stepP (c := csP r PG 0 (nmP9 PG 14)) r j hlt rfl rfl).2⟩, .inl ⟨rfl, _, nx, by rw [if_pos rfl]; rfl, hlt, rfl⟩⟩
  ·have hje : j = 32 := by omega
   subst hje
   have rnd : ∀ (c : Case), Rnd Tryz.prog B c.pc (zLq s q r 32) (@manyLoops ⟨c.pc⟩ PG [] []) (zJk c.pc [] []) := fun c => manyRnd B c.pc _ _ _ (fun V hV S hS => by cases hS) (fun V hV S hS => by cases hS)
   have mm := midP h hm hr (Nat.le_refl 32)
   cases st with
   | false =>
    rw [if_neg (by decide)] at hi
    rcases hi with ⟨rfl, hnil⟩ | ⟨rfl, hne⟩
    ·have e : some_ = false := by
      cases hb : some_ with
      | false => rfl
      | true => exact absurd hnil (hso.1 hb)
     exact ⟨csPE 2, 32, _, _, rnd _, hrun 0 _ _ (run_pE0 r hr), pcPE_ok h hm rfl, .inl ⟨rfl, rfl, rfl⟩, .inr ⟨(by intro e; cases e), rfl, by rw [e]; rfl, rfl, mm.1, mm.2⟩⟩
    ·have e : some_ = true := hso.2 hne
     exact ⟨csPE 3, 32, _, _, rnd _, hrun 1 _ _ (run_pE1 r hr), pcPE_ok h hm rfl, .inl ⟨rfl, rfl, rfl⟩, .inr ⟨(by intro e; cases e), rfl, by rw [e]; rfl, rfl, mm.1, mm.2⟩⟩
   | true =>
    rw [if_pos rfl] at hi
    subst hi
    exact ⟨csPE 1, 32, _, _, rnd _, hrun 0 _ _ (run_pET r hr), pcPE_ok h hm rfl, .inl ⟨rfl, rfl, rfl⟩, .inr ⟨(by intro e; cases e), rfl, rfl, rfl, mm.1, mm.2⟩⟩
 ·cases st with
  | false =>
   refine .inl ⟨rfl, ?_⟩
   exact Classical.byContradiction fun hne => by
    have := hst.2 hne
    cases this
  | true => rfl
 ·subst hp
  exact ⟨ev _ _ 32 rfl hm1, rw' _ 32 hT1⟩
end Go.Proofs.YtaliacnncemneaaGreat.wheels
namespace Go.Proofs.YtaliacnncemneaaGreat.wheels
open Go.Shelf Go.RowKit Go.Lib Go.Sort
noncomputable def siT : TypeInfo := (Tryz.prog.info? 32).get (by kernel_rfl)
noncomputable def siE : TypeInfo := (Tryz.prog.info? 3).get (by kernel_rfl)
theorem siK (n : Nat) (h2 : 2 ≤ n) : Lib.swapperK n siE 2 = 5 := by
 have a : siE.hasPointers = false := by kernel_rfl
 have b : siE.bytes = 8 := by kernel_rfl
 have c : (n == 0) = false := by simp; omega
 have d : (n == 1) = false := by simp; omega
 simp [Lib.swapperK, a, b, c, d]
def toF (k : Nat) (x : Int) : Fin (k + 1) := ⟨x.toNat % (k + 1), Nat.mod_lt _ (Nat.succ_pos k)⟩
def ofF {k : Nat} (a : Fin (k + 1)) : Int := (a.val : Int)
def encF {k : Nat} (a : Fin (k + 1)) : Value := .int .i64 (ofF a)
theorem of_to {k : Nat} {x : Int} (h : 0 ≤ x ∧ x < ((k + 1 : Nat) : Int)) : ofF (toF k x) = x := by
 show ((x.toNat % (k + 1) : Nat) : Int) = x
 rw [Nat.mod_eq_of_lt (by omega)]
 omega
theorem of_inj {k : Nat} {a b : Fin (k + 1)} (h : ofF a = ofF b) : a = b := by
 apply Fin.ext
 have h : (a.val : Int) = b.val := h
 omega
def ltF {k : Nat} (H : Int → Int) (a b : Fin (k + 1)) : Bool := zDf H (ofF a) (ofF b)
theorem swoF {k : Nat} (H : Int → Int) : SWO (ltF (k := k) H) where
 irrefl x := by simp [ltF, zDf]
 trans x y z h1 h2 := by
  simp only [ltF, zDf, Bool.or_eq_true, Bool.and_eq_true, decide_eq_true_eq] at *
  omega
 ntrans x y z h1 h2 := by
  simp only [ltF, zDf, Bool.or_eq_false_iff, Bool.and_eq_false_iff, decide_eq_false_iff_not] at *
  omega
def zLg (H : Int → Int) (l : List Int) : List Int := l.mergeSort fun x y => !zDf H y x
theorem byWhen_len {H : Int → Int} {l : List Int} : (zLg H l).length = l.length := List.length_mergeSort _
theorem byWhen_mem {H : Int → Int} {l : List Int} {x : Int} : x ∈ zLg H l ↔ x ∈ l := List.mem_mergeSort
theorem getF {k : Nat} {l : List Int} (hl : ∀ x ∈ l, 0 ≤ x ∧ x < ((k + 1 : Nat) : Int)) {d : Array (Fin (k + 1))} (hdd : d = (l.map (toF k)).toArray) : ∀ j, j < l.length → ofF d[j]! = l[j]! := fun j hj => by
 rw [hdd, getElem!_pos _ j (by simpa using hj), getElem!_pos l j hj]
 simp only [List.getElem_toArray, List.getElem_map]
 exact of_to (hl _ (List.getElem_mem hj))
theorem holdsF {k : Nat} {l : List Int} {w : World} {blk off : Nat} (hl : ∀ x ∈ l, 0 ≤ x ∧ x < ((k + 1 : Nat) : Int)) (hH : Holds (Value.int .i64) w blk off l.toArray) : Holds encF w blk off (l.map (toF k)).toArray := fun j hj => by
 have hj : j < l.length := by simpa using hj
 have := hH j (by simpa using hj)
 rw [getElem!_pos _ j (by simpa using hj)] at this
 refine ⟨?_, this.2⟩
 rw [this.1]
 show _ = some (Value.int .i64 (ofF (l.map (toF k)).toArray[j]!))
 rw [getF hl rfl j hj, getElem!_pos l j hj]
 simp
set_option maxHeartbeats 2000000 in
theorem slice_when (blk off c c' Bw ob Bl ol bw ow bh oh k cap : Nat) (l : List Int) (w : World) (H : Int → Int) (hH : Holds (Value.int .i64) w blk off l.toArray) (hblk : blk < w.heap.size) (hl : ∀ x ∈ l, 0 ≤ x ∧ x < ((k + 1 : Nat) : Int))
  (hw : w.cell? ⟨Bw, ob, none⟩ = some (.pointer (some ⟨bw, ow, none⟩))) (hh : w.cell? ⟨bw, ow + 1, none⟩ = some (.slice (some ⟨bh, oh, none⟩) (k + 1) cap)) (hs : w.cell? ⟨Bl, ol, none⟩ = some (.slice (some ⟨blk, off, none⟩) l.length c'))
  (hd : ∀ x : Nat, x < k + 1 → w.cell? ⟨bh, oh + x, none⟩ = some (.int .i64 (H x))) (n1 : Bw ≠ blk ∧ Bw < w.heap.size) (n2 : bw ≠ blk ∧ bw < w.heap.size) (n3 : Bl ≠ blk ∧ Bl < w.heap.size) (n4 : bh ≠ blk ∧ bh < w.heap.size) (h2 : 2 ≤ l.length) (h3 : l.length ≤ 100000) :
  Calls Tryz.prog 31 #[.iface 32 (.slice (some ⟨blk, off, none⟩) l.length c), .func (.func 32) #[] #[.pointer (some ⟨Bw, ob, none⟩), .pointer (some ⟨Bl, ol, none⟩)]] w fun e w' =>
   e = .returned (.tuple #[]) ∧ ∃ (d : Array (Fin (k + 1))) (n : Nat) (os : Array Obj), d.toList.map ofF = zLg H l ∧ w' = grow (putRow encF (Sort.ahead w n) blk off d) os := by
 obtain ⟨d, hdd⟩ : ∃ d : Array (Fin (k + 1)), d = (l.map (toF k)).toArray := ⟨_, rfl⟩
 have hsz : d.size = l.length := by rw [hdd]; simp
 have hHd : Holds encF w blk off d := by rw [hdd]; exact holdsF hl hH
 have hless : LessReads Tryz.prog 32 #[.pointer (some ⟨Bw, ob, none⟩), .pointer (some ⟨Bl, ol, none⟩)] (encF (k := k)) (ltF (k := k) H) blk off d.size w := by
  intro m os dk hsd i j hi hj
  have e : sortWorld encF w blk off m dk os = putRow encF (grow (Sort.ahead w m) os) blk off dk := by
   unfold sortWorld; rw [putRow_grow _ (Sort.ahead w m) _ blk off _ hblk]
  have old : ∀ (b o : Nat), b ≠ blk → b < w.heap.size → (sortWorld encF w blk off m dk os).cell? ⟨b, o, none⟩ = w.cell? ⟨b, o, none⟩ := fun b o h1 h2 => by
   rw [e, cell?_putRow_other _ _ blk off dk _ (Or.inl h1), cell?_grow _ _ _ h2, cell?_ahead]
  have hHg : Holds encF (grow (Sort.ahead w m) os) blk off d := holds_grow _ _ _ blk off d hblk (holds_ahead _ _ _ _ _ _ hHd)
  refine less_when blk off c' Bw ob Bl ol bw ow bh oh (k + 1) cap d.size _ (fun t => ofF dk[t]!) H ?_ ?_ ?_ (fun t ht => ?_) (fun t ht => ?_) (fun x hx => ?_) i j hi hj
  ·rw [old _ _ n1.1 n1.2]; exact hw
  ·rw [old _ _ n2.1 n2.2]; exact hh
  ·rw [old _ _ n3.1 n3.2, hsz]; exact hs
  ·rw [e]; exact cell?_putRow _ _ blk off d dk hHg hsd t (by omega)
  ·show 0 ≤ ((dk[t]!).val : Int) ∧ ((dk[t]!).val : Int) < ((k + 1 : Nat) : Int)
   have := (dk[t]!).isLt
   omega
  ·rw [old _ _ n4.1 n4.2]; exact hd x hx
 have hS := Any.sort_Slice_sorted Tryz.sl6 32 3 siT siE (by kernel_rfl) (by kernel_rfl) (by kernel_rfl) (by kernel_rfl) 2 (fun _ => by kernel_rfl) (by kernel_rfl) (fun _ => by kernel_rfl) encF (fun _ => rfl) (ltF H) (swoF H) 32 _
  (enters_of Tryz.func32 (by kernel_rfl) rfl) blk off c d (by omega) (by omega) 60 (by rw [siK _ (by omega)]; kernel_rfl) true
  (fun args W => run_callFunc_extern Tryz.func60 (by kernel_rfl) (by kernel_rfl) (by kernel_rfl) (e := Extern.ReflectliteSwapper.swap true) (by kernel_rfl) args W) _ hless hHd hblk
 change Calls Tryz.prog 31 _ _ _ at hS
 rw [hsz] at hS
 refine hS.mono ?_
 rintro e w' ⟨rfl, d', n, os, hp, hso, rfl⟩
 refine ⟨rfl, d', n, os, ?_, rfl⟩
 rw [← hsz] at hp hso
 have hu := sorted_unique_holds (lt := ltF H) (swoF H) (fun x y h1 h2 => by
  simp only [ltF, zDf, Bool.or_eq_false_iff, Bool.and_eq_false_iff, decide_eq_false_iff_not] at h1 h2
  exact of_inj (by omega)) d d' hp hso
 have e1 : d.toList.map ofF = l := by
  rw [hdd]
  simp only [List.map_map]
  refine (List.map_congr_left fun x hx => ?_).trans (List.map_id l)
  exact of_to (hl x hx)
 rw [hu]
 have hm : (d.toList.mergeSort fun x y => !ltF H y x).map ofF = (d.toList.map ofF).mergeSort fun x y => !zDf H y x := List.map_mergeSort (fun a _ b _ => rfl)
 rw [hm, e1]
 rfl
theorem slice_tiny (p : Option Addr) (n c : Nat) (h1 : n ≤ 1) (lb : Array Value) (w : World) :
  Calls Tryz.prog 31 #[.iface 32 (.slice p n c), .func (.func 32) #[] lb] w fun e w' => e = .returned (.tuple #[]) ∧ ∃ os, w' = grow w os := by
 have hK : Lib.swapperK n siE 2 = n + 1 := by
  rcases Nat.eq_zero_or_pos n with h | h
  ·subst h; simp [Lib.swapperK]
  ·obtain rfl : n = 1 := by omega
   simp [Lib.swapperK]
 exact Any.sort_Slice_tiny Tryz.sl6 32 3 siT siE (by kernel_rfl) (by kernel_rfl) (by kernel_rfl) (by kernel_rfl) 2 (fun _ => by kernel_rfl) p n c h1 (56 + n) (by
  rw [hK]
  rcases Nat.eq_zero_or_pos n with h | h
  ·subst h; kernel_rfl
  ·obtain rfl : n = 1 := by omega
   kernel_rfl) (.func 32) #[] lb w
end Go.Proofs.YtaliacnncemneaaGreat.wheels
namespace Go.Proofs.Wheels
open Go.Abs
def shSl (G : Nat) (l : Bool) : Nat → Shape
 | 0 => ⟨zHg 0 [.ifc 32 (bif l then ss (G + 9) (v 8) else nilS), .fn (.func 32) [] [.ptr (G + 7) 0, .ptr (G + 8) 0]], bxB G l⟩
 | _ => ⟨[(0, void)], bxB G l⟩
def nmSl (xs : List AV) (s : HS) : List Nat := match xs with
 | [_, .fn _ _ [.ptr b 0, .ptr c 0]] => zIo s (cellOf s b 0) ++ [b, c] ++ ssOf (cellOf s c 0)
 | _ => []
def zMb (g G : Nat) (l : Bool) (n now : SE) (c : C4) (m : SE) (w : SE) (K : K4) (T T' : SE) : zAi :=
 ⟨g, 2, shSl G l, fP n now c (L 0) m, gP w K T, nmSl, [⟨.ret, 1, fP n now c (L 0) m, gP w K T'⟩], bif l then 10 else 9⟩
end Go.Proofs.Wheels
namespace Go.Proofs.YtaliacnncemneaaGreat.wheels
open Go.Abs Go.Proofs.Wheels
theorem fxSl : zAl (shSl PG true) 10 [false, false, false, false, false, false, false, false, false, false] := fun i => by rcases i with _ | i <;> exact ⟨Nat.le_refl 10, rfl, rfl⟩
theorem fxSl0 : zAl (shSl PG false) 9 [false, false, false, false, false, false, false, false, false] := fun i => by rcases i with _ | i <;> exact ⟨Nat.le_refl 9, rfl, rfl⟩
set_option maxRecDepth 100000
theorem goodSl : zBk PG (shSl PG true 1) = true := by kernel_rfl
theorem goodSl0 : zBk PG (shSl PG false 1) = true := by kernel_rfl
theorem upsB : ((bxB PG true).take 9).all (Blk.ups 9 5) = true := by kernel_rfl
theorem upsB0 : (bxB PG false).all (Blk.ups 9 5) = true := by kernel_rfl
theorem call31 : ((Tryz.prog.funcs[31]?).map fun f => (f.body.isSome, f.name == "runtime.NumGoroutine")) = some (true, false) := by kernel_rfl
theorem cell_of {w : World} {b o : Nat} {arr : Array Value} {el : TypeId} {fz : Nat × Nat} {x : Value} (h : w.heap[b]? = some (.cells arr el fz)) (hx : arr[o]? = some x) : w.cell? ⟨b, o, none⟩ = some x := by
 unfold World.cell?
 simp only [h, Option.isSome_none, Bool.false_eq_true, if_false]
 rw [hx]
theorem sort_worldA {α : Type} [Inhabited α] (enc : α → Value) {w : World} {blk off n : Nat} {d : Array α} {os : Array Obj} {arr : Array Value} {el : TypeId} {fz : Nat × Nat} (h : w.heap[blk]? = some (.cells arr el fz)) :
  ∃ w1, w1 = Go.Sort.grow (Go.Sort.putRow enc (Go.Sort.ahead w n) blk off d) os ∧ w1.heap[blk]? = some (.cells (Go.Sort.putCells enc off d arr) el fz) ∧ w.heap.size ≤ w1.heap.size ∧ (∀ r, r < w.heap.size → r ≠ blk → w1.heap[r]? = w.heap[r]?) ∧ w1.os = w.os ∧ w1.tape = w.tape ∧ w1.output = w.output := by
 have hlt := (Array.getElem?_eq_some_iff.1 h).1
 refine ⟨_, rfl, ?_, ?_, fun r hr hne => ?_, rfl, rfl, rfl⟩
 ·show ((w.heap.modify blk _) ++ os)[blk]? = _
  rw [Array.getElem?_append_left (by simpa using hlt), Array.getElem?_modify, if_pos rfl, h]
  rfl
 ·show _ ≤ ((w.heap.modify blk _) ++ os).size
  simp
 ·show ((w.heap.modify blk _) ++ os)[r]? = _
  rw [Array.getElem?_append_left (by simpa using hr), Array.getElem?_modify, if_neg (fun e => hne e.symm)]
theorem agreeSl {f : List SE} {g g' : List SE} {env : Nat → Int} (h : ∀ i, i < 5 → ∃ e, g[i]? = some e ∧ g'[i]? = some e) : zCq 9 5 (inE f g env) (inE f g' env) :=
 zBg (by decide) (by decide) (fun i hi => (show inE f g' env i = _ from zBt (by omega)).symm) (fun a h1 h2 => by
  obtain ⟨e, e1, e2⟩ := h (a - 128) (by omega)
  rw [e1]
  exact (zDd e2 h1 (by omega)).symm)
theorem slice_ok [F : Facts] [V : zAc] {n now m w T T' : SE} {c : C4} {K : K4} {l : List Int} {k : Nat} (hn : n.eval V.env = ((k + 1 : Nat) : Int)) (hm : m.eval V.env = l.length) (h1 : 1 ≤ l.length) (h2 : l.length ≤ 4096) (hl : ∀ x ∈ l, 0 ≤ x ∧ x < ((k + 1 : Nat) : Int)) (hk : k < 5000)
  (hT : zAg (zAw V.env T) (zAs l)) (hT' : zAg (zAw V.env T') (zAs (zLg (g0 (zAw V.env w)) l))) (mf : ∀ e ∈ fP n now c (L 0) m, In64 (e.eval V.env)) (mg : ∀ e ∈ gP w K T, zDc (zAw V.env e)) : zAj Tryz.prog [] (zMb 31 PG true n now c m w K T T') := by
 have m0 : ∀ j, In64 (inE (fP n now c (L 0) m) (gP w K T) V.env j) := zCh V.mid mf mg
 have m1 : ∀ j, In64 (inE (fP n now c (L 0) m) (gP w K T') V.env j) := zCh V.mid mf (fun e he => by
  simp only [gP, List.mem_cons, List.not_mem_nil, or_false] at he
  rcases he with rfl | rfl | rfl | rfl | rfl | rfl
  ·exact mg _ (by simp [gP])
  ·exact mg _ (by simp [gP])
  ·exact mg _ (by simp [gP])
  ·exact mg _ (by simp [gP])
  ·exact mg _ (by simp [gP])
  ·exact (zBf fun x hx => by
    have := hl x (byWhen_mem.1 hx)
    exact i64s (by omega) (by omega)).of hT')
 refine fun_ok (zMb 31 PG true n now c m w K T T') zFe fxSl (zCa rfl goodSl) (Post := fun j env => j = 1 ∧ env = inE (fP n now c (L 0) m) (gP w K T') V.env) (fun B Lc0 wd xs kind cs hkind hp hB => ?_) (fun j env h => by obtain ⟨_, rfl⟩ := h; exact m1) (fun j env h => ?_)
 ·let q : zHi := ⟨⟨[]⟩, @zAc.mk ⟨[]⟩ (inE (fP n now c (L 0) m) (gP w K T) V.env) (fun _ hp => (List.not_mem_nil hp).elim) m0 []⟩
  obtain ⟨p1, p2⟩ := hp q rfl
  have p1 : @RW q.F q.V (zHr PG 10 Lc0) B (((zMb 31 PG true n now c m w K T T').shapes 0).heap PG []) wd := p1
  have e0 : q.V.env 0 = ((k + 1 : Nat) : Int) := (show inE (fP n now c (L 0) m) (gP w K T) V.env 0 = n.eval V.env from zAx rfl (by decide)).trans hn
  have e8 : q.V.env 8 = l.length := (show inE (fP n now c (L 0) m) (gP w K T) V.env 8 = m.eval V.env from zAx rfl (by decide)).trans hm
  have loc : ∀ i, i < 10 → zHr PG 10 Lc0 (PG + i) = some (Lc0 i) := fun i hi => zCu hi
  have rb : ∀ i x, (bxB PG true)[i]? = some x → i < 10 → @RB q.F q.V (zHr PG 10 Lc0) wd (Lc0 i) x ∧ (x.fixed = false → B ≤ (Lc0 i).blk) := fun i x hx hi => by
   obtain ⟨a, ha, h3, h4⟩ := @RW.blk q.F q.V _ _ _ _ p1 (PG + i) 0 x (zFh hx)
   rw [loc i hi] at ha
   cases ha
   exact ⟨h3, h4⟩
  have apart : ∀ i j x y, (bxB PG true)[i]? = some x → (bxB PG true)[j]? = some y → i < 10 → j < 10 → x.fixed = false → i ≠ j → (Lc0 i).blk ≠ (Lc0 j).blk := fun i j x y hx hy hi hj hf hne =>
   @RW.inj q.F q.V _ _ _ _ p1 (PG + i) (PG + j) 0 0 x y _ _ (zFh hx) (zFh hy) hf (by omega) (loc i hi) (loc j hj)
  obtain ⟨⟨arr7, el7, g7, ⟨_, c7⟩, _⟩, _⟩ := rb 7 _ rfl (by omega)
  obtain ⟨x7, hx7, r7⟩ := c7 0 (.ptr PG 0) (by decide) rfl
  have l0 : zHr PG 10 Lc0 PG = some (Lc0 0) := loc 0 (by omega)
  cases r7 with | ptr q7 =>
  rw [l0] at q7
  cases q7
  obtain ⟨⟨arr0, el0, g0', ⟨_, c0⟩, _⟩, _⟩ := rb 0 _ rfl (by omega)
  obtain ⟨x0, hx0, r0⟩ := c0 1 (ss (PG + 1) (v 0)) (by decide) rfl
  have r0 : @RV q.F q.V (zHr PG 10 Lc0) (.ss (PG + 1) 1 (.lit 0) (v 0)) x0 := r0
  cases r0 with | ss k1 k2 k3 k4 k5 =>
  rename_i a1 mo1 lo1 o1 cp1
  rw [loc 1 (by omega)] at k1
  cases k1
  have hmo1 : mo1 = 0 := by
   have k2 : (0 : Int) = mo1 := k2
   omega
  have hlo1 : lo1 = k + 1 := by
   have k3 : q.V.env 0 = lo1 := k3
   omega
  subst hmo1 hlo1
  have ho1 : o1 = (Lc0 1).off := by
   have := k5 (by omega)
   omega
  subst ho1
  obtain ⟨⟨arr8, el8, g8, ⟨_, c8⟩, _⟩, _⟩ := rb 8 _ rfl (by omega)
  obtain ⟨x8, hx8, r8⟩ := c8 0 (ss (PG + 9) (v 8)) (by decide) rfl
  have r8 : @RV q.F q.V (zHr PG 10 Lc0) (.ss (PG + 9) 1 (.lit 0) (v 8)) x8 := r8
  cases r8 with | ss s1 s2 s3 s4 s5 =>
  rename_i a8 mo8 lo8 o8 cp8
  rw [loc 9 (by omega)] at s1
  cases s1
  have hmo8 : mo8 = 0 := by
   have s2 : (0 : Int) = mo8 := s2
   omega
  have hlo8 : lo8 = l.length := by
   have s3 : q.V.env 8 = lo8 := s3
   omega
  subst hmo8 hlo8
  have ho8 : o8 = (Lc0 9).off := by
   have := s5 (by omega)
   omega
  subst ho8
  obtain ⟨⟨arr1, el1, fz1, t1, t2, mm1, t3, t4, t5⟩, _⟩ := rb 1 _ rfl (by omega)
  have hmm1 : mm1 = k + 1 := by
   have t3 : q.V.env 0 = mm1 := t3
   omega
  subst hmm1
  obtain ⟨⟨arr, el, fz, g1, g2, m9, g3, g4, g5⟩, hB9⟩ := rb 9 _ rfl (by omega)
  have hm9 : m9 = l.length := by
   have g3 : q.V.env 8 = m9 := g3
   omega
  subst hm9
  obtain ⟨hfz, hcap⟩ := g2 rfl
  subst hfz
  have hsz : xs.size = 2 := @RE.size q.F q.V _ _ _ _ p2
  obtain ⟨_, hx⟩ := @RE.some q.F q.V _ _ _ _ p2 0 (.ifc 32 (ss (PG + 9) (v 8))) (by rfl)
  obtain ⟨_, hy⟩ := @RE.some q.F q.V _ _ _ _ p2 1 (.fn (.func 32) [] [.ptr (PG + 7) 0, .ptr (PG + 8) 0]) (by rfl)
  obtain ⟨y0, y1, hxs⟩ : ∃ y0 y1, xs = #[y0, y1] := by
   have : xs.toList.length = 2 := by simpa using hsz
   rcases hab : xs.toList with _ | ⟨a, _ | ⟨b, _ | ⟨d, r⟩⟩⟩
   ·rw [hab] at this; simp at this
   ·rw [hab] at this; simp at this
   ·exact ⟨a, b, by rw [← Array.toArray_toList (xs := xs), hab]⟩
   ·rw [hab] at this; simp at this
  subst hxs
  have hx2 : @RV q.F q.V (zHr PG 10 Lc0) (.ifc 32 (.ss (PG + 9) 1 (.lit 0) (v 8))) y0 := hx
  have hy2 : @RV q.F q.V (zHr PG 10 Lc0) (.fn (.func 32) [] [.ptr (PG + 7) 0, .ptr (PG + 8) 0]) y1 := hy
  cases hx2 with | ifc hv9 =>
  cases hv9 with | ss u1 u2 u3 u4 u5 =>
  rename_i a9 mo9 lo9 o9 cp9
  rw [loc 9 (by omega)] at u1
  cases u1
  have hmo9 : mo9 = 0 := by
   have u2 : (0 : Int) = mo9 := u2
   omega
  have hlo9 : lo9 = l.length := by
   have u3 : q.V.env 8 = lo9 := u3
   omega
  subst hmo9 hlo9
  have ho9 : o9 = (Lc0 9).off := by
   have := u5 (by omega)
   omega
  subst ho9
  cases hy2 with | fn hf9 hc9 =>
  cases hf9
  cases hc9 with | cons z1 hc8 =>
  cases hc8 with | cons z2 hc7 =>
  cases hc7
  cases z1 with | ptr z1 =>
  have z1 := (loc 7 (by omega)).symm.trans z1
  cases z1
  cases z2 with | ptr z2 =>
  have z2 := (loc 8 (by omega)).symm.trans z2
  cases z2
  have cell : ∀ r, r < l.length → arr[(Lc0 9).off + r]? = some (.int .i64 ((l[r]?).getD 0)) := fun r hr => by
   obtain ⟨x, q1, q2⟩ := g5 r 0 (.i .i64) hr rfl
   have q2 : x = .int .i64 (zFl (inE (fP n now c (L 0) m) (gP w K T) V.env) 133 r 0) := q2
   rw [(zDd (e := T) rfl (by decide) (by decide) : zAg (zFl (inE (fP n now c (L 0) m) (gP w K T) V.env) 133) (zAw V.env T)) r 0 (by decide), hT r 0 (by decide)] at q2
   rw [show (Lc0 9).off + r = (Lc0 9).off + (r * 1 + 0) by omega]
   rw [show ([CK.i .i64] : List CK).length = 1 from rfl] at q1
   rw [q1, q2]
   unfold zAs
   rw [if_pos rfl]
  have time : ∀ r, r < k + 1 → arr1[(Lc0 1).off + r]? = some (.int .i64 (g0 (zAw V.env w) (r : Int))) := fun r hr => by
   obtain ⟨x, q1, q2⟩ := t5 r 0 (.i .i64) hr rfl
   have q2 : x = .int .i64 (zFl (inE (fP n now c (L 0) m) (gP w K T) V.env) 128 r 0) := q2
   rw [(zDd (e := w) rfl (by decide) (by decide) : zAg (zFl (inE (fP n now c (L 0) m) (gP w K T) V.env) 128) (zAw V.env w)) r 0 (by decide)] at q2
   rw [show (Lc0 1).off + r = (Lc0 1).off + (r * 1 + 0) by omega]
   rw [show ([CK.i .i64] : List CK).length = 1 from rfl] at q1
   rw [q1, q2]
   rfl
  have hH : Go.Sort.Holds (Value.int .i64) wd (Lc0 9).blk (Lc0 9).off l.toArray := fun j hj => by
   have hj : j < l.length := by simpa using hj
   have hc := cell j hj
   refine ⟨?_, ?_⟩
   ·rw [cell_of g1 hc]
    simp [List.getElem?_eq_getElem hj, hj]
   ·unfold World.frozen?
    simp only [g1]
    simp
  have hlt : ∀ i x, (bxB PG true)[i]? = some x → i < 10 → (Lc0 i).blk < wd.heap.size := fun i x hx hi => @RB.lt q.F q.V _ _ _ _ (rb i x hx hi).1
  have hcall : Calls Tryz.prog 31 #[.iface 32 (.slice (some ⟨(Lc0 9).blk, (Lc0 9).off, none⟩) l.length cp9), .func (.func 32) #[] #[.pointer (some ⟨(Lc0 7).blk, (Lc0 7).off + 0, none⟩), .pointer (some ⟨(Lc0 8).blk, (Lc0 8).off + 0, none⟩)]] wd fun e w' =>
    e = .returned (.tuple #[]) ∧ ∃ (d : Array (Fin (k + 1))) (n : Nat) (os : Array Obj), d.toList.map ofF = zLg (g0 (zAw V.env w)) l ∧ w' = Go.Sort.grow (Go.Sort.putRow encF (Go.Sort.ahead wd n) (Lc0 9).blk (Lc0 9).off d) os := by
   by_cases hl2 : 2 ≤ l.length
   ·exact slice_when (Lc0 9).blk (Lc0 9).off cp9 cp8 (Lc0 7).blk ((Lc0 7).off + 0) (Lc0 8).blk ((Lc0 8).off + 0) (Lc0 0).blk ((Lc0 0).off + 0) (Lc0 1).blk (Lc0 1).off k cp1 l wd (g0 (zAw V.env w)) hH (hlt 9 _ rfl (by omega)) hl
     (cell_of g7 hx7) (cell_of g0' (by rw [show (Lc0 0).off + 0 + 1 = (Lc0 0).off + 1 by omega]; exact hx0)) (cell_of g8 hx8) (fun x hx => cell_of t1 (time x hx))
     ⟨apart 7 9 _ _ rfl rfl (by omega) (by omega) rfl (by omega), hlt 7 _ rfl (by omega)⟩ ⟨apart 0 9 _ _ rfl rfl (by omega) (by omega) rfl (by omega), hlt 0 _ rfl (by omega)⟩ ⟨apart 8 9 _ _ rfl rfl (by omega) (by omega) rfl (by omega), hlt 8 _ rfl (by omega)⟩ ⟨apart 1 9 _ _ rfl rfl (by omega) (by omega) rfl (by omega), hlt 1 _ rfl (by omega)⟩ hl2 (by omega)
   ·have hl1 : l.length = 1 := by omega
    obtain ⟨y, rfl⟩ := List.length_eq_one_iff.1 hl1
    refine (slice_tiny _ _ _ (by omega) _ wd).mono ?_
    rintro e w' ⟨rfl, os, rfl⟩
    have hd := holdsF hl hH
    refine ⟨rfl, ([y].map (toF k)).toArray, 0, os, ?_, ?_⟩
    ·simp only [List.map_cons, List.map_nil]
     rw [of_to (hl y (by simp))]
     simp [zLg]
    ·rw [Go.Sort.ahead_zero, Go.Sort.putRow_self _ _ _ _ _ hd]
  obtain ⟨e, w', fr, ⟨rfl, d, dn, os, hd, hw'⟩, e1, e7, e2, e3, e4, fn, e5, e6⟩ := hcall cs
  obtain ⟨w1, hw1, s1, s2', s3', s4', s5', s6⟩ := sort_worldA encF (n := dn) (d := d) (os := os) (off := (Lc0 9).off) g1
  have : w' = w1 := by rw [hw', hw1]
  subst this
  have hkn : kind = .normal := hkind
  subst hkn
  have hds : d.size = l.length := by
   have := congrArg List.length hd
   rw [List.length_map, byWhen_len] at this
   simpa using this
  refine ⟨1, _, w', .tuple #[], Lc0, ⟨fun w => ?_, fr, fn, e1, e2, e3, e4, by rw [e7] at e5 ⊢; exact e5, e6, e7⟩, ⟨s4', s5', s6, s2', fun r hr hno => s3' r hr fun e => hno ⟨9, T1 133 (v 8), rfl, rfl, e.symm⟩, fun _ _ => rfl, fun r hr => .inr ?_⟩, ⟨rfl, rfl⟩, fun q' hq' => ?_⟩
  ·exact call_of call31 _ w
  ·obtain ⟨i, y, h3, h4, h5⟩ := hr
   exact ⟨i, y, h3, h4, h5⟩
  ·have e8' : q'.V.env 8 = l.length := by
    rw [hq']
    exact (show inE (fP n now c (L 0) m) (gP w K T') V.env 8 = m.eval V.env from zAx rfl (by decide)).trans hm
   have hag : zCq 9 5 q.V.env q'.V.env := by
    rw [hq']
    refine agreeSl (f := fP n now c (L 0) m) (g := gP w K T) (g' := gP w K T') fun i hi => ?_
    rcases (show i = 0 ∨ i = 1 ∨ i = 2 ∨ i = 3 ∨ i = 4 by omega) with rfl | rfl | rfl | rfl | rfl <;> exact ⟨_, rfl, rfl⟩
   have own : ∀ (b t : Nat) (x : Blk), (((zMb 31 PG true n now c m w K T T').shapes 1).heap PG []).h.get b = some (t, x) → ∃ i, i < 10 ∧ b = PG + i ∧ t = 0 ∧ (bxB PG true)[i]? = some x := fun b t x e => by
    rcases zDz (fun p hp => by cases hp) e with ⟨p, hp, _⟩ | ⟨i, hi, rfl, rfl, hx⟩
    ·cases hp
    ·exact ⟨i, hi, rfl, rfl, hx⟩
   refine ⟨@RW.mk q'.F q'.V _ _ _ _ (fun b t x e => ?_) (fun b b' t t' x x' a a' e e' hx hne ha ha' => ?_) (fun b t x e => ?_), @RE.mk q'.F q'.V _ _ _ _ rfl (fun i u hu => ?_)⟩
   ·obtain ⟨i, hi, rfl, rfl, hx⟩ := own b t x e
    refine ⟨Lc0 i, loc i hi, ?_, (rb i x hx hi).2⟩
    by_cases h9 : i = 9
    ·subst h9
     have hx : some (T1 133 (v 8)) = some x := hx
     cases hx
     refine ⟨_, el, (0, 0), s1, fun _ => ⟨rfl, by
      show (Lc0 9).off + (Lc0 9).cap * 1 ≤ (Go.Sort.putCells encF (Lc0 9).off d arr).size
      have hcap : (Lc0 9).off + (Lc0 9).cap * 1 ≤ arr.size := hcap
      unfold Go.Sort.putCells
      rw [Array.size_mapIdx]; exact hcap⟩, l.length, e8', ?_, fun r cc kk hr hk => ?_⟩
     ·have g4 : (Lc0 9).off + l.length * 1 ≤ arr.size := g4
      show (Lc0 9).off + l.length * 1 ≤ (Go.Sort.putCells encF (Lc0 9).off d arr).size
      unfold Go.Sort.putCells
      rw [Array.size_mapIdx]; exact g4
     ·have hc : cc = 0 := by
       have := (List.getElem?_eq_some_iff.1 hk).1
       simp at this
       exact this
      subst hc
      have hk : kk = .i .i64 := by simpa using hk.symm
      subst hk
      have hrd : r < d.size := by omega
      have hrs : (zLg (g0 (zAw V.env w)) l)[r]? = some (ofF d[r]!) := by
       rw [← hd, List.getElem?_map, Array.getElem?_toList, getElem!_pos d r hrd, Array.getElem?_eq_getElem hrd]
       rfl
      refine ⟨.int .i64 (ofF d[r]!), ?_, ?_⟩
      ·show (Go.Sort.putCells encF (Lc0 9).off d arr)[(Lc0 9).off + (r * 1 + 0)]? = _
       unfold Go.Sort.putCells
       rw [show (Lc0 9).off + (r * 1 + 0) = (Lc0 9).off + r by omega, Array.getElem?_mapIdx, cell r hr]
       simp only [Option.map_some]
       rw [if_pos ⟨by omega, by omega⟩, show (Lc0 9).off + r - (Lc0 9).off = r by omega]
       rfl
      ·show _ = Value.int .i64 (zFl q'.V.env 133 r 0)
       rw [hq', (show zAg (zFl (inE (fP n now c (L 0) m) (gP w K T') V.env) 133) (zAw V.env T') from zDd rfl (by decide) (by decide)) r 0 (by decide), hT' r 0 (by decide)]
       unfold zAs
       rw [if_pos rfl, hrs]
       rfl
    ·have hi9 : i < 9 := by omega
     have hu : x.ups 9 5 = true := List.all_eq_true.1 upsB x (List.mem_of_getElem? (i := i) (by rw [List.getElem?_take, if_pos hi9]; exact hx))
     have hb := RB.shift (V := q.V) q' hag hu (rb i x hx hi).1
     refine @RB.of_heap q'.F q'.V _ _ _ _ _ (s3' _ (hlt i x hx hi) ?_) hb
     exact fun e => apart 9 i _ _ rfl hx (by omega) hi rfl (by omega) e.symm
   ·obtain ⟨i, hi, rfl, rfl, hx1⟩ := own b t x e
    obtain ⟨i', hi', rfl, rfl, hx2⟩ := own b' t' x' e'
    have ha : zHr PG 10 Lc0 (PG + i) = some a := ha
    have ha' : zHr PG 10 Lc0 (PG + i') = some a' := ha'
    rw [loc i hi] at ha
    rw [loc i' hi'] at ha'
    cases ha
    cases ha'
    exact apart i i' _ _ hx1 hx2 hi hi' hx (by omega)
   ·obtain ⟨i, hi, rfl, rfl, _⟩ := own b t x e
    exact ⟨by rw [zMs]; show PG + i < PG + 10; omega, Nat.zero_le _⟩
   ·have hu : (tmps [(0, void)]).get i = some u := hu
    have := zIp hu
    simp only [List.mem_cons, List.not_mem_nil, or_false, Prod.mk.injEq] at this
    obtain ⟨rfl, rfl⟩ := this
    exact ⟨Nat.zero_lt_one, @RV.tup q'.F q'.V _ _ _ (@RL.nil q'.F q'.V _)⟩
 ·obtain ⟨rfl, rfl⟩ := h
  exact ⟨0, ⟨.ret, 1, fP n now c (L 0) m, gP w K T'⟩, rfl, rfl, rfl, fun i hi => zBt hi, fun a r c h1 h2 h3 => zCj h1 h2 h3⟩
theorem slice_ok0 [F : Facts] [V : zAc] {n now m w T T' : SE} {c : C4} {K : K4} (mf : ∀ e ∈ fP n now c (L 0) m, In64 (e.eval V.env)) (mg : ∀ e ∈ gP w K T, zDc (zAw V.env e)) (mT : zDc (zAw V.env T')) : zAj Tryz.prog [] (zMb 31 PG false n now c m w K T T') := by
 have m0 : ∀ j, In64 (inE (fP n now c (L 0) m) (gP w K T) V.env j) := zCh V.mid mf mg
 have m1 : ∀ j, In64 (inE (fP n now c (L 0) m) (gP w K T') V.env j) := zCh V.mid mf (fun e he => by
  simp only [gP, List.mem_cons, List.not_mem_nil, or_false] at he
  rcases he with rfl | rfl | rfl | rfl | rfl | rfl
  ·exact mg _ (by simp [gP])
  ·exact mg _ (by simp [gP])
  ·exact mg _ (by simp [gP])
  ·exact mg _ (by simp [gP])
  ·exact mg _ (by simp [gP])
  ·exact mT)
 refine fun_ok (zMb 31 PG false n now c m w K T T') zFe fxSl0 (zCa rfl goodSl0) (Post := fun j env => j = 1 ∧ env = inE (fP n now c (L 0) m) (gP w K T') V.env) (fun B Lc0 wd xs kind cs hkind hp hB => ?_) (fun j env h => by obtain ⟨_, rfl⟩ := h; exact m1) (fun j env h => ?_)
 ·let q : zHi := ⟨⟨[]⟩, @zAc.mk ⟨[]⟩ (inE (fP n now c (L 0) m) (gP w K T) V.env) (fun _ hp => (List.not_mem_nil hp).elim) m0 []⟩
  obtain ⟨p1, p2⟩ := hp q rfl
  have p1 : @RW q.F q.V (zHr PG 9 Lc0) B (((zMb 31 PG false n now c m w K T T').shapes 0).heap PG []) wd := p1
  have loc : ∀ i, i < 9 → zHr PG 9 Lc0 (PG + i) = some (Lc0 i) := fun i hi => zCu hi
  have rb : ∀ i x, (bxB PG false)[i]? = some x → i < 9 → @RB q.F q.V (zHr PG 9 Lc0) wd (Lc0 i) x ∧ (x.fixed = false → B ≤ (Lc0 i).blk) := fun i x hx hi => by
   obtain ⟨a, ha, h3, h4⟩ := @RW.blk q.F q.V _ _ _ _ p1 (PG + i) 0 x (zFh hx)
   rw [loc i hi] at ha
   cases ha
   exact ⟨h3, h4⟩
  have hsz : xs.size = 2 := @RE.size q.F q.V _ _ _ _ p2
  obtain ⟨_, hx⟩ := @RE.some q.F q.V _ _ _ _ p2 0 (.ifc 32 nilS) (by rfl)
  obtain ⟨_, hy⟩ := @RE.some q.F q.V _ _ _ _ p2 1 (.fn (.func 32) [] [.ptr (PG + 7) 0, .ptr (PG + 8) 0]) (by rfl)
  obtain ⟨y0, y1, hxs⟩ : ∃ y0 y1, xs = #[y0, y1] := by
   have : xs.toList.length = 2 := by simpa using hsz
   rcases hab : xs.toList with _ | ⟨a, _ | ⟨b, _ | ⟨d, r⟩⟩⟩
   ·rw [hab] at this; simp at this
   ·rw [hab] at this; simp at this
   ·exact ⟨a, b, by rw [← Array.toArray_toList (xs := xs), hab]⟩
   ·rw [hab] at this; simp at this
  subst hxs
  have hx2 : @RV q.F q.V (zHr PG 9 Lc0) (.ifc 32 (.val (.slice none 0 0))) y0 := hx
  have hy2 : @RV q.F q.V (zHr PG 9 Lc0) (.fn (.func 32) [] [.ptr (PG + 7) 0, .ptr (PG + 8) 0]) y1 := hy
  cases hx2 with | ifc hv9 =>
  cases hv9
  cases hy2 with | fn hf9 hc9 =>
  cases hf9
  rename_i cs9
  obtain ⟨e, w', fr, ⟨rfl, os, rfl⟩, e1, e7, e2, e3, e4, fn, e5, e6⟩ := slice_tiny none 0 0 (by omega) ⟨cs9⟩ wd cs
  have hkn : kind = .normal := hkind
  subst hkn
  have hold : ∀ r, r < wd.heap.size → (Go.Sort.grow wd os).heap[r]? = wd.heap[r]? := fun r hr => Go.Sort.heap_grow_old wd os hr
  refine ⟨1, _, Go.Sort.grow wd os, .tuple #[], Lc0, ⟨fun w => ?_, fr, fn, e1, e2, e3, e4, by rw [e7] at e5 ⊢; exact e5, e6, e7⟩, ⟨rfl, rfl, rfl, by simp [Go.Sort.grow], fun r hr hno => hold r hr, fun _ _ => rfl, fun r hr => .inr ?_⟩, ⟨rfl, rfl⟩, fun q' hq' => ?_⟩
  ·exact call_of call31 _ w
  ·obtain ⟨i, y, h3, h4, h5⟩ := hr
   exact ⟨i, y, h3, h4, h5⟩
  ·have hag : zCq 9 5 q.V.env q'.V.env := by
    rw [hq']
    refine agreeSl (f := fP n now c (L 0) m) (g := gP w K T) (g' := gP w K T') fun i hi => ?_
    rcases (show i = 0 ∨ i = 1 ∨ i = 2 ∨ i = 3 ∨ i = 4 by omega) with rfl | rfl | rfl | rfl | rfl <;> exact ⟨_, rfl, rfl⟩
   have own : ∀ (b t : Nat) (x : Blk), (((zMb 31 PG false n now c m w K T T').shapes 1).heap PG []).h.get b = some (t, x) → ∃ i, i < 9 ∧ b = PG + i ∧ t = 0 ∧ (bxB PG false)[i]? = some x := fun b t x e => by
    rcases zDz (fun p hp => by cases hp) e with ⟨p, hp, _⟩ | ⟨i, hi, rfl, rfl, hx⟩
    ·cases hp
    ·exact ⟨i, hi, rfl, rfl, hx⟩
   refine ⟨@RW.mk q'.F q'.V _ _ _ _ (fun b t x e => ?_) (fun b b' t t' x x' a a' e e' hx hne ha ha' => ?_) (fun b t x e => ?_), @RE.mk q'.F q'.V _ _ _ _ rfl (fun i u hu => ?_)⟩
   ·obtain ⟨i, hi, rfl, rfl, hx⟩ := own b t x e
    refine ⟨Lc0 i, loc i hi, ?_, (rb i x hx hi).2⟩
    have hu : x.ups 9 5 = true := List.all_eq_true.1 upsB0 x (List.mem_of_getElem? hx)
    have hb := RB.shift (V := q.V) q' hag hu (rb i x hx hi).1
    exact @RB.of_heap q'.F q'.V _ _ _ _ _ (hold _ (@RB.lt q.F q.V _ _ _ _ (rb i x hx hi).1)) hb
   ·obtain ⟨i, hi, rfl, rfl, hx1⟩ := own b t x e
    obtain ⟨i', hi', rfl, rfl, hx2⟩ := own b' t' x' e'
    exact @RW.inj q.F q.V _ _ _ _ p1 (PG + i) (PG + i') 0 0 x x' _ _ (zFh hx1) (zFh hx2) hx hne ha ha'
   ·obtain ⟨i, hi, rfl, rfl, _⟩ := own b t x e
    exact ⟨by rw [zMs]; show PG + i < PG + 9; omega, Nat.zero_le _⟩
   ·have hu : (tmps [(0, void)]).get i = some u := hu
    have := zIp hu
    simp only [List.mem_cons, List.not_mem_nil, or_false, Prod.mk.injEq] at this
    obtain ⟨rfl, rfl⟩ := this
    exact ⟨Nat.zero_lt_one, @RV.tup q'.F q'.V _ _ _ (@RL.nil q'.F q'.V _)⟩
 ·obtain ⟨rfl, rfl⟩ := h
  exact ⟨0, ⟨.ret, 1, fP n now c (L 0) m, gP w K T'⟩, rfl, rfl, rfl, fun i hi => zBt hi, fun a r c h1 h2 h3 => zCj h1 h2 h3⟩
end Go.Proofs.YtaliacnncemneaaGreat.wheels
namespace Go.Proofs.Wheels
open Go.Abs
def shF (G : Nat) : Nat → Shape
 | 0 => ⟨zHg 0 [.ptr G 0], zDr G⟩
 | 1 => ⟨[(0, nilS)], zDr G⟩
 | _ => ⟨[(0, ss (G + 7) (v 6))], zDr G ++ [T1 133 (v 6)]⟩
def c4 : C4 := ⟨v 2, v 3, v 4, v 5⟩
def k4 : K4 := ⟨.tab 129, .tab 130, .tab 131, .tab 132⟩
def mI (r : Nat) : SE := v (7 + r)
def tI (r : Nat) : SE := .tab (134 + r)
def mP (r : Nat) : SE := if r = 0 then L 0 else mI (r - 1)
def tPr (r : Nat) : SE := if r = 0 then zS else tI (r - 1)
def plOne (G k r : Nat) : zAd := plS r 16 G (decide (k < r)) (v 0) (v 1) c4 (mP r) (mI r) (.tab 128) k4 (tPr r) (tI r) (decide (k ≤ r)) 2
def plAll (G k : Nat) : List zAd := [plOne G k 0, plOne G k 1, plOne G k 2, plOne G k 3]
def slF (G k : Nat) : List zAi := [zMb 31 G (decide (k < 4)) (v 0) (v 1) c4 (v 10) (.tab 128) k4 (.tab 137) (.tab 138)]
def fF (n now : SE) (c : C4) (m : SE) : List SE := [n, now, c.a, c.b, c.c, c.d, m]
def csF (G k : Nat) : Case := ⟨pcW, .ret, if k < 4 then 2 else 1, [v 0, v 1, v 2, v 3, v 4, v 5, v 10], [.tab 128, .tab 129, .tab 130, .tab 131, .tab 132, .tab 138], if k < 4 then [G, G + 1, G + 2, G + 3, G + 4, G + 5, G + 6, G + 12 - k] else []⟩
def wallS (g G : Nat) (n now : SE) (c : C4) (m : SE) (w : SE) (K : K4) (T : SE) (some_ : Bool) : zAi :=
 ⟨g, 1, shF G, fF n now c (L 0), gP w K zS, fun xs s => zIo s xs.head?, [⟨.ret, if some_ then 2 else 1, fF n now c m, gP w K T⟩], 7⟩
end Go.Proofs.Wheels
namespace Go.Proofs.YtaliacnncemneaaGreat.wheels
open Go.Abs Go.Proofs.Wheels
noncomputable def callP (pc : List (SB × Bool)) (ls lp : List zAd) (fs : List zAi) : Tgt → List AV → M AV := letI : Facts := ⟨pc⟩; letI := pendLoops PG [] ls lp; callN Tryz.prog (cfgF (fun _ => none) PG [] fs fuel) deep
theorem callP_ok {pc : List (SB × Bool)} {ls lp : List zAd} {fs : List zAi} (B : Nat) (V : @zAc ⟨pc⟩) (hl : ∀ S ∈ ls, @zAp ⟨pc⟩ V Tryz.prog [] S) (hp : ∀ S ∈ lp, @zGd ⟨pc⟩ V Tryz.prog [] S) (hf : ∀ S ∈ fs, @zAj ⟨pc⟩ V Tryz.prog [] S) : @zCe ⟨pc⟩ V Tryz.prog B (callP pc ls lp fs) := by
 letI F : Facts := ⟨pc⟩
 letI := pendLoops PG [] ls lp
 letI := pendLoops_tame hl hp
 exact zKr (zIk (base := fun _ => none) ⟨pendLoops_ok hl hp B, (fun _ _ e => by cases e), fun _ _ e => by cases e⟩ hf) (fun _ h => zEu h) deep
theorem fxF : zAl (shF PG) 7 [false, false, false, false, false, false, false] := fun i => by
 rcases i with _ | _ | i <;> exact ⟨by show (7 : Nat) ≤ _; first | exact Nat.le_refl 7 | exact Nat.le_succ 7, rfl, rfl⟩
set_option maxRecDepth 1000000
theorem goodF (b : Bool) : zBk PG (shF PG (if b then 2 else 1)) = true := by cases b <;> kernel_rfl
theorem upsF : ∀ i, (shF PG i).ups 7 6 = true := fun i => by rcases i with _ | _ | i <;> kernel_rfl
noncomputable def runW (k : Nat) : Bool := ((callP (csF PG k).pc [] (plAll PG k) (slF PG k)) (.f zDh) [.ptr PG 0] ((shF PG 0).heap PG [])).every NN (@Case.chkF ⟨(csF PG k).pc⟩ PG 7 (shF PG (csF PG k).to) (csF PG k))
theorem run_W0 : runW 0 = true := by kernel_rfl
theorem run_W1 : runW 1 = true := by kernel_rfl
theorem run_W2 : runW 2 = true := by kernel_rfl
theorem run_W3 : runW 3 = true := by kernel_rfl
theorem run_W4 : runW 4 = true := by kernel_rfl
theorem insK_spec {M : TT} {l : List Int} {a : Int} : ∀ {k : Nat}, (∀ j, insK M l a k ≤ j → j < k → a < g0 M ((l[j]?).getD 0)) ∧ (insK M l a k = 0 ∨ g0 M ((l[insK M l a k - 1]?).getD 0) ≤ a) := by
 intro k
 induction k with
 | zero => exact ⟨fun j _ h => by omega, .inl rfl⟩
 | succ k ih =>
  unfold insK
  split
  ·rename_i h
   refine ⟨fun j h1 h2 => ?_, ih.2⟩
   by_cases e : j = k
   ·subst e; exact h
   ·exact ih.1 j h1 (by omega)
  ·rename_i h
   exact ⟨fun j h1 h2 => by omega, .inr (by show g0 M ((l[k]?).getD 0) ≤ a; omega)⟩
theorem lessAt_of {H : Int → Int} {a b : Int} (h : H a < H b ∨ (H a = H b ∧ a < b)) : zDf H a b = true := by
 simp only [zDf, Bool.or_eq_true, Bool.and_eq_true, decide_eq_true_eq]; exact h
theorem of_lessAt {H : Int → Int} {a b : Int} (h : zDf H a b = true) : H a < H b ∨ (H a = H b ∧ a < b) := by
 simp only [zDf, Bool.or_eq_true, Bool.and_eq_true, decide_eq_true_eq] at h; exact h
theorem allM_sorted {M : TT} : ∀ {i : Nat}, (allM M i).Pairwise fun a b => zDf (g0 M) a b = true := by
 intro i
 induction i with
 | zero => exact .nil
 | succ i ih =>
  unfold allM
  split
  ·exact ih
  ·obtain ⟨l, hl⟩ : ∃ l, l = allM M i := ⟨_, rfl⟩
   obtain ⟨k, hk⟩ : ∃ k, k = insK M l (g0 M i) l.length := ⟨_, rfl⟩
   have hsp := insK_spec (M := M) (l := l) (a := g0 M i) (k := l.length)
   have hle : k ≤ l.length := by rw [hk]; exact insK_le
   rw [← hk] at hsp
   rw [← hl] at ih ⊢
   rw [← hk]
   have hlow : ∀ y ∈ l, y < i := fun y hy => by
    rw [hl] at hy
    have := (zNg.1 hy)
    omega
   have hget : ∀ j, j < l.length → (l[j]?).getD 0 ∈ l := fun j hj => by rw [List.getElem?_eq_getElem hj]; exact List.getElem_mem hj
   have hb : ∀ y ∈ l.take k, g0 M y ≤ g0 M i := fun y hy => by
    obtain ⟨j, hj, e⟩ := List.mem_take_iff_getElem.1 hy
    rcases hsp.2 with h0 | h1
    ·omega
    ·have hk1 : k - 1 < l.length := by omega
     rw [List.getElem?_eq_getElem hk1] at h1
     have h1 : g0 M l[k - 1] ≤ g0 M i := h1
     by_cases ej : j = k - 1
     ·subst ej
      rw [← e]; exact h1
     ·have := of_lessAt (List.pairwise_iff_getElem.1 ih j (k - 1) (by omega) hk1 (by omega))
      rw [e] at this
      omega
   have ha : ∀ y ∈ l.drop k, g0 M i < g0 M y := fun y hy => by
    obtain ⟨j, hj, e⟩ := List.mem_drop_iff_getElem.1 hy
    have := hsp.1 (k + j) (by omega) (by omega)
    rw [List.getElem?_eq_getElem (by omega)] at this
    rw [← e]; exact this
   unfold insAt
   refine List.pairwise_append.2 ⟨ih.sublist (List.take_sublist k l), List.pairwise_cons.2 ⟨fun y hy => lessAt_of (.inl (ha y hy)), ih.sublist (List.drop_sublist k l)⟩, fun a h1 b h2 => ?_⟩
   rcases List.mem_cons.1 h2 with rfl | h2
   ·have e1 := hb a h1
    have e2 := hlow a (List.mem_of_mem_take h1)
    exact lessAt_of (by omega)
   ·have e1 := hb a h1
    have e2 := ha b h2
    exact lessAt_of (.inl (by omega))
theorem less_irrefl {H : Int → Int} {a : Int} : zDf H a a = false := by simp [zDf]
theorem allM_nodup {M : TT} {i : Nat} : (allM M i).Nodup := allM_sorted.imp fun {a b} h e => by
 subst e
 rw [less_irrefl] at h; cases h
theorem byWhen_eq {M : TT} {N : Nat} {l : List Int} (hn : l.Nodup) (h : ∀ x, x ∈ l ↔ 0 ≤ x ∧ x < N ∧ g0 M x ≠ 0) : zLg (g0 M) l = allM M N := by
 have hp : (zLg (g0 M) l).Perm (allM M N) := (List.mergeSort_perm l _).trans ((List.perm_ext_iff_of_nodup hn allM_nodup).2 fun x => by rw [h x, zNg])
 refine List.Perm.eq_of_pairwise (le := fun x y => (!zDf (g0 M) y x) = true) ?_ ?_ ?_ hp
 ·intro a b _ _ h1 h2
  simp only [zDf, Bool.not_eq_true', Bool.or_eq_false_iff, Bool.and_eq_false_iff, decide_eq_false_iff_not] at h1 h2
  omega
 ·refine List.pairwise_mergeSort (fun a b c h1 h2 => ?_) (fun a b => ?_) l
  ·simp only [zDf, Bool.not_eq_true', Bool.or_eq_false_iff, Bool.and_eq_false_iff, decide_eq_false_iff_not] at *
   omega
  ·simp only [zDf, Bool.or_eq_true, Bool.not_eq_true', Bool.or_eq_false_iff, Bool.and_eq_false_iff, decide_eq_false_iff_not]
   omega
 ·exact allM_sorted.imp fun {a b} h => by
   have := of_lessAt h
   simp only [zDf, Bool.not_eq_true', Bool.or_eq_false_iff, Bool.and_eq_false_iff, decide_eq_false_iff_not]
   omega
theorem catQ_all {s : WS} {q : Int → List Int} (h : zEc s q) {N : Nat} (hN : s.n = N) : ∀ x, x ∈ zGw q 128 ↔ 0 ≤ x ∧ x < N ∧ g0 s.when_ x ≠ 0 := fun x => by
 rw [zKq h.rep (Nat.le_refl _) x, hN]
 have h0 := h.now0
 refine ⟨fun ⟨h1, h2, h3, h4⟩ => ⟨h1, h2, fun e => ?_⟩, fun ⟨h1, h2, h3⟩ => ?_⟩
 ·rcases h.w x h1 (by omega) with g | g
  ·omega
  ·omega
 ·rcases h.w x h1 (by omega) with g | g
  ·exact absurd g.1 h3
  ·rcases h.rep.list x h1 (by omega) with g' | g'
   ·have := g.2.2
    have := zGj (now := s.now) (at_ := g0 s.when_ x)
    omega
   ·exact ⟨h1, h2, g'.1, by omega⟩
theorem byWhen_all {s : WS} {q : Int → List Int} (h : zEc s q) {N : Nat} (hN : s.n = N) : zLg (g0 s.when_) (zGw q 128) = allM s.when_ N := byWhen_eq (catQ_nodup h.rep (Nat.le_refl _)) (catQ_all h hN)
def kF (q : Int → List Int) : Nat := if zGw q 32 ≠ [] then 0 else if zGw q 64 ≠ [] then 1 else if zGw q 96 ≠ [] then 2 else if zGw q 128 ≠ [] then 3 else 4
theorem catQ_mono {q : Int → List Int} {i : Nat} : ∀ (d : Nat), zGw q (i + d) = [] → zGw q i = [] := by
 intro d
 induction d with
 | zero => exact id
 | succ d ih => intro h; exact ih (List.append_eq_nil_iff.1 (show zGw q (i + d) ++ q _ = [] from h)).1
theorem kF_lt {q : Int → List Int} {r : Nat} (hr : r < 5) : decide (kF q < r) = true ↔ zGw q (32 * r) ≠ [] := by
 have m1 : zGw q 64 = [] → zGw q 32 = [] := catQ_mono 32
 have m2 : zGw q 96 = [] → zGw q 64 = [] := catQ_mono 32
 have m3 : zGw q 128 = [] → zGw q 96 = [] := catQ_mono 32
 have m0 : zGw q (32 * 0) = [] := rfl
 rw [decide_eq_true_eq]
 unfold kF
 by_cases h1 : zGw q 32 = [] <;> by_cases h2 : zGw q 64 = [] <;> by_cases h3 : zGw q 96 = [] <;> by_cases h4 : zGw q 128 = [] <;>
  first
  | exact absurd (m1 h2) h1
  | exact absurd (m2 h3) h2
  | exact absurd (m3 h4) h3
  | (rcases (show r = 0 ∨ r = 1 ∨ r = 2 ∨ r = 3 ∨ r = 4 by omega) with rfl | rfl | rfl | rfl | rfl <;> simp [h1, h2, h3, h4, m0])
theorem kF_le {q : Int → List Int} {r : Nat} (hr : r < 4) : decide (kF q ≤ r) = true ↔ zGw q (32 * r + 32) ≠ [] := by
 have := kF_lt (q := q) (r := r + 1) (by omega)
 rw [decide_eq_true_eq] at this ⊢
 rw [show 32 * (r + 1) = 32 * r + 32 by omega] at this
 rw [← this]
 omega
theorem kF_in {q : Int → List Int} : kF q ≤ 4 := by
 unfold kF
 split
 ·omega
 ·split
  ·omega
  ·split
   ·omega
   ·split <;> omega
theorem run_W (k : Nat) (h : k ≤ 4) : runW k = true := by
 rcases (show k = 0 ∨ k = 1 ∨ k = 2 ∨ k = 3 ∨ k = 4 by omega) with rfl | rfl | rfl | rfl | rfl
 ·exact run_W0
 ·exact run_W1
 ·exact run_W2
 ·exact run_W3
 ·exact run_W4
section
variable {s : WS} {q : Int → List Int} {N : Nat}
def lenQ (q : Int → List Int) (i : Nat) : Int := ((zGw q i).length : Nat)
def sc0F (s : WS) : List Int := [s.n, s.now, s.c 0, s.c 1, s.c 2, s.c 3, 0]
def scxF (q : Int → List Int) : List Int := [lenQ q 32, lenQ q 64, lenQ q 96, lenQ q 128]
def tb0F (s : WS) : List TT := [s.when_, s.k.N, s.k.B, s.k.L, s.k.C, zT]
def tbxF (s : WS) (q : Int → List Int) (N : Nat) : List TT := [zAs (zGw q 32), zAs (zGw q 64), zAs (zGw q 96), zAs (zGw q 128), zAs (allM s.when_ N)]
def zHl (s : WS) (q : Int → List Int) (N : Nat) : Nat → Int := zCb (sc0F s ++ scxF q) (tb0F s ++ tbxF s q N)
theorem catQ_mid (h : zEc s q) {i : Nat} (hi : i ≤ 128) : ∀ y ∈ zGw q i, In64 y := fun y hy => by
 have := (zKq h.rep hi y).1 hy
 have hn := h.rep.n1
 exact i64s (by omega) (by omega)
theorem lenQ_in (h : zEc s q) {i : Nat} (hi : i ≤ 128) : 0 ≤ lenQ q i ∧ lenQ q i ≤ 4096 := by
 have := catQ_len h.rep hi
 unfold lenQ
 omega
theorem all_midM (h : zEc s q) (hN : s.n = N) : ∀ y ∈ allM s.when_ N, In64 y := fun y hy => by
 have := zNg.1 hy
 have hn := h.rep.n1
 exact i64s (by omega) (by omega)
theorem midF (h : zEc s q) (hm : zEh s) (hN : s.n = N) : zCr In64 (sc0F s ++ scxF q) ∧ zCr zDc (tb0F s ++ tbxF s q N) := by
 have hn := h.rep.n1; have h0 := h.now0; have h1 := hm.now
 have c0 := h.c_in (r := 0) (by omega); have c1 := h.c_in (r := 1) (by omega); have c2 := h.c_in (r := 2) (by omega); have c3 := h.c_in (r := 3) (by omega)
 have l1 := lenQ_in h (i := 32) (by omega); have l2 := lenQ_in h (i := 64) (by omega); have l3 := lenQ_in h (i := 96) (by omega); have l4 := lenQ_in h (i := 128) (by omega)
 have big : ∀ x : Int, 0 ≤ x → x ≤ 999000000 → In64 x := fun x a b => by unfold In64; omega
 exact ⟨⟨big _ (by omega) (by omega), big _ (by omega) (by omega), big _ c0.1 (by omega), big _ c1.1 (by omega), big _ c2.1 (by omega), big _ c3.1 (by omega), big _ (by omega) (by omega), big _ l1.1 (by omega), big _ l2.1 (by omega), big _ l3.1 (by omega), big _ l4.1 (by omega), trivial⟩,
  ⟨hm.w, hm.k.N, hm.k.B, hm.k.L, hm.k.C, zT_mid, zBf (catQ_mid h (by omega)), zBf (catQ_mid h (by omega)), zBf (catQ_mid h (by omega)), zBf (catQ_mid h (by omega)), zBf (all_midM h hN), trivial⟩⟩
theorem oneF {i : Nat} {x : Int} (h : (sc0F s ++ scxF q)[i]? = some x) (hi : i < 128) : zHl s q N i = x := zAu h hi
theorem wseqF : zDg (wsE (zHl s q N) (v 0) (v 1) c4 (.tab 128) k4) s := by
 refine ⟨show zHl s q N 0 = s.n from oneF rfl (by decide), show zHl s q N 1 = s.now from oneF rfl (by decide), zHj rfl (by decide) (by decide), ⟨zHj rfl (by decide) (by decide), zHj rfl (by decide) (by decide), zHj rfl (by decide) (by decide), zHj rfl (by decide) (by decide)⟩, fun r hr => ?_⟩
 rcases (show r = 0 ∨ r = 1 ∨ r = 2 ∨ r = 3 by omega) with rfl | rfl | rfl | rfl
 ·exact show zHl s q N 2 = s.c 0 from oneF rfl (by decide)
 ·exact show zHl s q N 3 = s.c 1 from oneF rfl (by decide)
 ·exact show zHl s q N 4 = s.c 2 from oneF rfl (by decide)
 ·exact show zHl s q N 5 = s.c 3 from oneF rfl (by decide)
theorem mI_ev {r : Nat} (hr : r < 4) : (mI r).eval (zHl s q N) = lenQ q (32 * r + 32) := by
 rcases (show r = 0 ∨ r = 1 ∨ r = 2 ∨ r = 3 by omega) with rfl | rfl | rfl | rfl <;> exact zDb rfl (by decide)
theorem tI_ev {r : Nat} (hr : r < 4) : zAg (zAw (zHl s q N) (tI r)) (zAs (zGw q (32 * r + 32))) := by
 rcases (show r = 0 ∨ r = 1 ∨ r = 2 ∨ r = 3 by omega) with rfl | rfl | rfl | rfl <;> exact zHj rfl (by decide) (by decide)
theorem pl_at (h : zEc s q) (hm : zEh s) {r : Nat} (hr : r < 4) [F : Facts] [V : zAc] (hV : V.env = zHl s q N) : zGd Tryz.prog [] (plOne PG (kF q) r) := by
 refine pl_proof (s := s) (q := q) h hm hr ?_ ?_ ?_ ?_ ?_ (kF_lt (by omega)) (kF_le hr)
 all_goals rw [hV]
 ·exact wseqF
 ·unfold mP
  split
  ·rename_i e; subst e; rfl
  ·rw [mI_ev (by omega), show 32 * (r - 1) + 32 = 32 * r by omega]; rfl
 ·exact mI_ev hr
 ·unfold tPr
  split
  ·rename_i e
   subst e
   rw [show zGw q (32 * 0) = [] from rfl, zMl]
   exact zAg.refl _
  ·have := tI_ev (s := s) (q := q) (N := N) (r := r - 1) (by omega)
   rw [show 32 * (r - 1) + 32 = 32 * r by omega] at this
   exact this
 ·exact tI_ev hr
theorem sl_at (h : zEc s q) (hm : zEh s) (hN : s.n = N) [F : Facts] [V : zAc] (hV : V.env = zHl s q N) : ∀ S ∈ slF PG (kF q), zAj Tryz.prog [] S := fun S hS => by
 simp only [slF, List.mem_cons, List.not_mem_nil, or_false] at hS
 subst hS
 have hn := h.rep.n1; have h0 := h.now0; have h1 := hm.now
 have w := wseqF (s := s) (q := q) (N := N)
 have mid := midF h hm hN
 have hmid : ∀ j, In64 (zHl s q N j) := zEp mid.1 mid.2
 have e10 : (v 10).eval (zHl s q N) = lenQ q 128 := mI_ev (r := 3) (by omega)
 have mf : ∀ e ∈ fP (v 0) (v 1) c4 (L 0) (v 10), In64 (e.eval V.env) := fun e he => by
  rw [hV]
  simp only [fP, c4, List.mem_cons, List.not_mem_nil, or_false] at he
  rcases he with rfl | rfl | rfl | rfl | rfl | rfl | rfl | rfl | rfl
  all_goals first | exact hmid _ | exact i64s (x := 0) (by omega) (by omega)
 have row : ∀ {a : Nat} {T : TT}, (tb0F s ++ tbxF s q N)[a - 128]? = some T → 128 ≤ a → a < 256 → zDc (zAw (zHl s q N) (.tab a)) := fun {a T} e h1 h2 => (mid.2.mem T (List.mem_of_getElem? e)).of (zHj e h1 h2)
 have mg : ∀ e ∈ gP (.tab 128) k4 (.tab 137), zDc (zAw V.env e) := fun e he => by
  rw [hV]
  simp only [gP, k4, List.mem_cons, List.not_mem_nil, or_false] at he
  rcases he with rfl | rfl | rfl | rfl | rfl | rfl
  all_goals exact row rfl (by decide) (by decide)
 by_cases hk : kF q < 4
 ·rw [decide_eq_true hk]
  have hne : zGw q 128 ≠ [] := (kF_lt (q := q) (r := 4) (by omega)).1 (decide_eq_true hk)
  have hH : g0 (zAw (zHl s q N) (.tab 128)) = g0 s.when_ := funext fun x => w.w.g x
  refine slice_ok (l := zGw q 128) (k := N - 1) ?_ ?_ (List.length_pos_iff.2 hne) (catQ_len h.rep (Nat.le_refl _)) (fun x hx => ?_) (by omega) ?_ ?_ mf mg
  ·rw [hV, show ((N - 1 + 1 : Nat) : Int) = s.n by omega]; exact w.n
  ·rw [hV]; exact e10
  ·have := (zKq h.rep (Nat.le_refl 128) x).1 hx
   omega
  ·rw [hV]; exact tI_ev (r := 3) (by omega)
  ·rw [hV, hH, byWhen_all h hN]; exact zHj rfl (by decide) (by decide)
 ·rw [decide_eq_false hk]
  exact slice_ok0 mf mg (by rw [hV]; exact row rfl (by decide) (by decide))
end
theorem wall_proof [F : Facts] [V : zAc] {s : WS} {q : Int → List Int} {N : Nat} (h : zEc s q) (hm : zEh s) (hN : s.n = N) {n now m w T : SE} {c : C4} {K : K4} (hs : zDg (wsE V.env n now c w K) s)
  (hl : m.eval V.env = (allM s.when_ N).length) (hT : zAg (zAw V.env T) (zAs (allM s.when_ N))) {b : Bool} (hb : b = true ↔ allM s.when_ N ≠ []) : zAj Tryz.prog [] (wallS zDh PG n now c m w K T b) := by
 have hall := byWhen_all h hN
 have hlen : (allM s.when_ N).length = (zGw q 128).length := by rw [← hall, byWhen_len]
 have hne : allM s.when_ N ≠ [] ↔ zGw q 128 ≠ [] := by
  rw [← List.length_pos_iff, ← List.length_pos_iff, hlen]
 have hkb : b = decide (kF q < 4) := by
  have := kF_lt (q := q) (r := 4) (by omega)
  cases hb' : b with
  | true => exact (this.2 (hne.1 (hb.1 hb'))).symm
  | false =>
   cases hd : decide (kF q < 4) with
   | false => rfl
   | true =>
    have := hb.2 (hne.2 (this.1 hd))
    rw [hb'] at this; cases this
 have hj : (if kF q < 4 then 2 else 1 : Nat) = if b then 2 else 1 := by
  rw [hkb]
  by_cases hk : kF q < 4
  ·rw [if_pos hk, decide_eq_true hk]; rfl
  ·rw [if_neg hk, decide_eq_false hk]; rfl
 have mid := midF h hm hN
 have sc0 : s.c 0 = c.a.eval V.env := (hs.c 0 (by omega)).symm
 have sc1 : s.c 1 = c.b.eval V.env := (hs.c 1 (by omega)).symm
 have sc2 : s.c 2 = c.c.eval V.env := (hs.c 2 (by omega)).symm
 have sc3 : s.c 3 = c.d.eval V.env := (hs.c 3 (by omega)).symm
 have w0 := wseqF (s := s) (q := q) (N := N)
 have hn := h.rep.n1; have h0 := h.now0; have h1 := hm.now
 have m1 : zCr In64 [s.n, s.now, s.c 0, s.c 1, s.c 2, s.c 3, lenQ q 128] := by
  obtain ⟨a0, a1, a2, a3, a4, a5, a6, a7, a8, a9, a10, _⟩ := mid.1
  exact ⟨a0, a1, a2, a3, a4, a5, a10, trivial⟩
 have q1 : zCr zDc [s.when_, s.k.N, s.k.B, s.k.L, s.k.C, zAs (allM s.when_ N)] := by
  obtain ⟨a0, a1, a2, a3, a4, a5, a6, a7, a8, a9, a10, _⟩ := mid.2
  exact ⟨a0, a1, a2, a3, a4, a10, trivial⟩
 have hm1 : m.eval V.env = lenQ q 128 := by rw [hl, hlen]; rfl
 have run := run_W (kF q) kF_in
 have hpl : ∀ (k : Nat), k = kF q → ∀ F' : Facts, ∀ V' : @zAc F', @zAc.env F' V' = zHl s q N → ∀ S ∈ plAll PG k, @zGd F' V' Tryz.prog [] S := fun k hk F' V' hV' S hS => by
  rw [hk] at hS
  simp only [plAll, List.mem_cons, List.not_mem_nil, or_false] at hS
  rcases hS with rfl | rfl | rfl | rfl
  ·exact @pl_at s q N h hm 0 (by omega) F' V' hV'
  ·exact @pl_at s q N h hm 1 (by omega) F' V' hV'
  ·exact @pl_at s q N h hm 2 (by omega) F' V' hV'
  ·exact @pl_at s q N h hm 3 (by omega) F' V' hV'
 have hsl : ∀ (k : Nat), k = kF q → ∀ F' : Facts, ∀ V' : @zAc F', @zAc.env F' V' = zHl s q N → ∀ S ∈ slF PG k, @zAj F' V' Tryz.prog [] S := fun k hk F' V' hV' => by
  rw [hk]
  exact @sl_at s q N h hm hN F' V' hV'
 obtain ⟨k, hk⟩ : ∃ k, k = kF q := ⟨_, rfl⟩
 rw [← hk] at run hj
 obtain ⟨E, hE⟩ : ∃ E, E = zHl s q N := ⟨_, rfl⟩
 have e6 : (v 10).eval E = lenQ q 128 := by rw [hE]; exact mI_ev (r := 3) (by omega)
 have ev1 : Ev E [v 0, v 1, v 2, v 3, v 4, v 5, v 10] [s.n, s.now, s.c 0, s.c 1, s.c 2, s.c 3, lenQ q 128] := by
  rw [hE] at e6 ⊢
  exact ⟨w0.n, w0.now, w0.c 0 (by omega), w0.c 1 (by omega), w0.c 2 (by omega), w0.c 3 (by omega), e6, trivial⟩
 have rw1 : Rw E [.tab 128, .tab 129, .tab 130, .tab 131, .tab 132, .tab 138] [s.when_, s.k.N, s.k.B, s.k.L, s.k.C, zAs (allM s.when_ N)] := by
  rw [hE]
  exact ⟨w0.w, w0.k.N, w0.k.B, w0.k.L, w0.k.C, zHj rfl (by decide) (by decide), trivial⟩
 have ha0 : Ev V.env (fF n now c (L 0)) (sc0F s) := ⟨hs.n, hs.now, sc0.symm, sc1.symm, sc2.symm, sc3.symm, rfl, trivial⟩
 have ha1 : Rw V.env (gP w K zS) (tb0F s) := ⟨hs.w, hs.k.N, hs.k.B, hs.k.L, hs.k.C, zAg.refl _, trivial⟩
 have hz0 : Ev V.env (fF n now c m) [s.n, s.now, s.c 0, s.c 1, s.c 2, s.c 3, lenQ q 128] := ⟨hs.n, hs.now, sc0.symm, sc1.symm, sc2.symm, sc3.symm, hm1, trivial⟩
 have hz1 : Rw V.env (gP w K T) [s.when_, s.k.N, s.k.B, s.k.L, s.k.C, zAs (allM s.when_ N)] := ⟨hs.w, hs.k.N, hs.k.B, hs.k.L, hs.k.C, hT, trivial⟩
 have fx : Fx E pcW := by
  rw [hE]
  have e0 : zHl s q N 0 = s.n := w0.n
  have e1 : zHl s q N 1 = s.now := w0.now
  refine pcW_ok (by omega) (by omega) (by unfold most; omega) fun i h2 h6 => ?_
  obtain ⟨r, rfl⟩ : ∃ r, i = 2 + r := ⟨i - 2, by omega⟩
  have : zHl s q N (2 + r) = s.c r := by
   rcases (show r = 0 ∨ r = 1 ∨ r = 2 ∨ r = 3 by omega) with rfl | rfl | rfl | rfl
   ·exact w0.c 0 (by omega)
   ·exact w0.c 1 (by omega)
   ·exact w0.c 2 (by omega)
   ·exact w0.c 3 (by omega)
  rw [this]
  exact h.c_in (by omega)
 exact zIl (wallS zDh PG n now c m w K T b) fxF (av := [.ptr PG 0]) (o := ⟨.ret, if b then 2 else 1, fF n now c m, gP w K T⟩) rfl rfl (goodF b) rfl rfl 7 6 (by decide) (by decide) upsF rfl rfl rfl rfl (csF PG k) hj (callP (csF PG k).pc [] (plAll PG k) (slF PG k)) (E := E) (sc0 := sc0F s) (scx := scxF q) (sc1 := [s.n, s.now, s.c 0, s.c 1, s.c 2, s.c 3, lenQ q 128]) (tb0 := tb0F s) (tbx := tbxF s q N) (tb1 := [s.when_, s.k.N, s.k.B, s.k.L, s.k.C, zAs (allM s.when_ N)]) hE
  (fun B V' hV' => callP_ok B V' (fun S hS => by cases hS) (hpl k hk _ V' (hV'.trans hE)) (hsl k hk _ V' (hV'.trans hE))) run fx mid.1 mid.2 m1 q1 rfl rfl ev1 rw1 ha0 ha1 hz0 hz1
end Go.Proofs.YtaliacnncemneaaGreat.wheels
end
