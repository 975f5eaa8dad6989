/- What the wheel's parts come to. Conditions: those that each theorem names. -/
import Derived.Test.YtaliacnncemneaaGreatSWheelPlain
import Derived.Test.YtaliacnncemneaaGreatRows
import Derived.KernelRfl
import Derived.Sort.Grow
import Derived.Sort.Row
open Go
noncomputable section
namespace Go.Proofs.YtaliacnncemneaaGreat.wheels
open Go.Abs Go.Proofs.Wheels
abbrev zCw : Nat := 26
abbrev zBy : Nat := 13
abbrev zJf : Nat := 27
abbrev zDe : Nat := 15
abbrev fAct : Nat := 8
abbrev zDh : Nat := 16
abbrev fPush : Nat := 55
abbrev fRem : Nat := 52
abbrev fPop : Nat := 50
abbrev fIn : Nat := 39
abbrev fOut : Nat := 37
abbrev zOs : Nat := 35
abbrev zGc : Nat := 40
abbrev fTick : Nat := 19
abbrev zLp : Nat := 38
abbrev fWNew : Nat := 6
abbrev zKw : Nat := 22
abbrev fWAdd : Nat := 21
abbrev fSkip : Nat := 18
noncomputable abbrev PG : Nat := Tryz.prog.globals.size
noncomputable def fns : Fns := ⟨PG, fPush, fRem, fPop, fIn, fOut, zOs, zGc, fTick, zLp⟩
def fuel : Nat := 100000
def deep : Nat := 60
def NN : Nat := 1000000000
noncomputable def zCg (pc : List (SB × Bool)) (fs : List zAi) : Tgt → List AV → M AV := letI : Facts := ⟨pc⟩; letI := noLoops; callN Tryz.prog (cfgF (fun _ => none) PG [] fs fuel) deep
noncomputable def zJk (pc : List (SB × Bool)) (ls : List zAd) (fs : List zAi) : Tgt → List AV → M AV := letI : Facts := ⟨pc⟩; letI := manyLoops PG [] ls; callN Tryz.prog (cfgF (fun _ => none) PG [] fs fuel) deep
noncomputable def zEf (fn key : Nat) : Code := ((zBm key (subs (((Tryz.prog.funcs[fn]?).bind (·.body)).getD .skip))).head?).getD .skip
noncomputable def runF (g : Nat) (xs : List AV) (shapes : Nat → Shape) (stay : Nat) (c : Case) (fs : List zAi) : Bool :=
 ((zCg c.pc fs) (.f g) xs ((shapes 0).heap PG [])).every NN (@Case.chkF ⟨c.pc⟩ PG stay (shapes c.to) c)
noncomputable def zFp (fn key nt : Nat) (shapes : Nat → Shape) (stay i : Nat) (c : Case) (fs : List zAi) : Bool :=
 (@code ⟨c.pc⟩ Tryz.prog noLoops (zCg c.pc fs) none fn fuel (zEf fn key) ⟨tmps (shapes i).t, nt, [.rest]⟩ ((shapes i).heap PG [])).every NN (@Case.chk ⟨c.pc⟩ PG nt stay (shapes c.to) c)
noncomputable def abK : Code × Code := (((Tryz.prog.funcs[fTick]?).bind (·.body)).bind rfCode).getD (.skip, .skip)
set_option maxRecDepth 1000000
theorem run_push : runF fPush [.ptr PG 0, X 6, X 7] (shPush PG) 5 csPush [] = true := by kernel_rfl
theorem run_rem : runF fRem [.ptr PG 0, X 7] (shRem PG) 5 csRem [] = true := by kernel_rfl
theorem run_pop : runF fPop [.ptr PG 0, X 6] (shPop PG) 5 csPop [] = true := by kernel_rfl
theorem run_in0 : runF fIn [.ptr PG 0, X 6] (shIn PG) 7 (csIn 0) [pushS fns (v 0) (placeS 0 w6) (v 6) K0 K1] = true := by kernel_rfl
theorem run_in1 : runF fIn [.ptr PG 0, X 6] (shIn PG) 7 (csIn 1) [pushS fns (v 0) (placeS 1 w6) (v 6) K0 K1] = true := by kernel_rfl
theorem run_in2 : runF fIn [.ptr PG 0, X 6] (shIn PG) 7 (csIn 2) [pushS fns (v 0) (placeS 2 w6) (v 6) K0 K1] = true := by kernel_rfl
theorem run_in3 : runF fIn [.ptr PG 0, X 6] (shIn PG) 7 (csIn 3) [pushS fns (v 0) (placeS 3 w6) (v 6) K0 K1] = true := by kernel_rfl
theorem run_out0 : runF fOut [.ptr PG 0, X 6] (shIn PG) 7 (csOut 0) [remS fns (v 0) (v 6) K0 K1] = true := by kernel_rfl
theorem run_out1 : runF fOut [.ptr PG 0, X 6] (shIn PG) 7 (csOut 1) [remS fns (v 0) (v 6) K0 K1] = true := by kernel_rfl
theorem run_out2 : runF fOut [.ptr PG 0, X 6] (shIn PG) 7 (csOut 2) [remS fns (v 0) (v 6) K0 K1] = true := by kernel_rfl
theorem run_out3 : runF fOut [.ptr PG 0, X 6] (shIn PG) 7 (csOut 3) [remS fns (v 0) (v 6) K0 K1] = true := by kernel_rfl
theorem run_dn1 : zFp zOs 3 44 (shDn PG 1) 7 0 (csDn 1) (dnFuns fns 1) = true := by kernel_rfl
theorem run_dn2 : zFp zOs 3 44 (shDn PG 2) 7 0 (csDn 2) (dnFuns fns 2) = true := by kernel_rfl
theorem run_dn3 : zFp zOs 3 44 (shDn PG 3) 7 0 (csDn 3) (dnFuns fns 3) = true := by kernel_rfl
theorem run_dnE1 : zFp zOs 3 44 (shDn PG 1) 7 0 csDnE [] = true := by kernel_rfl
theorem run_dnE2 : zFp zOs 3 44 (shDn PG 2) 7 0 csDnE [] = true := by kernel_rfl
theorem run_dnE3 : zFp zOs 3 44 (shDn PG 3) 7 0 csDnE [] = true := by kernel_rfl
theorem run_a0 : zFp zGc 3 39 (shA fns abK) 7 0 (csA0 PG) [] = true := by kernel_rfl
theorem run_a1 : zFp zGc 3 39 (shA fns abK) 7 1 (csA1 PG) [] = true := by kernel_rfl
theorem run_aE0 : zFp zGc 3 39 (shA fns abK) 7 0 (csAE 2) [] = true := by kernel_rfl
theorem run_aE1 : zFp zGc 3 39 (shA fns abK) 7 1 (csAE 3) [] = true := by kernel_rfl
theorem run_k : zFp fTick 15 69 (shK PG) 9 0 csK (kFuns fns) = true := by kernel_rfl
theorem run_kE : zFp fTick 15 69 (shK PG) 9 0 csKE [] = true := by kernel_rfl
theorem zNf {pc : List (SB × Bool)} {fs : List zAi} (B : Nat) (V : @zAc ⟨pc⟩) (h : ∀ S ∈ fs, @zAj ⟨pc⟩ V Tryz.prog [] S) : @zCe ⟨pc⟩ V Tryz.prog B (zCg pc fs) := by
 letI F : Facts := ⟨pc⟩
 letI := noLoops
 exact zKr (zIk (base := fun _ => none) ⟨zNt, (fun _ _ e => by cases e), fun _ _ e => by cases e⟩ h) (fun _ h => zEu h) deep
theorem zOa {pc : List (SB × Bool)} (B : Nat) (V : @zAc ⟨pc⟩) : @zCe ⟨pc⟩ V Tryz.prog B (zCg pc []) := zNf B V fun _ h => by cases h
def zBk (G : Nat) (sh : Shape) : Bool := sh.t.all (fun p => AV.fit (G + sh.bl.length) p.2) && sh.bl.all (fun x => x.fixed || Blk.fit (G + sh.bl.length) x)
theorem zCa {S : zAd} {G : Nat} {o : zBp} (ho : S.outs = [o]) (h : zBk G (S.shapes o.j) = true) : S.good G = true := by
 unfold zAd.good
 rw [ho]
 simp only [List.all_cons, List.all_nil, Bool.and_true]
 exact h
theorem zOj {env : Nat → Int} (h1 : 1 ≤ env 0) (h2 : env 0 ≤ 4096) : Fx env pcN := .cons rfl (.cons (zKv h1) (.cons (zKv h2) .nil))
theorem pcW_ok {env : Nat → Int} (h1 : 1 ≤ env 0) (h2 : env 0 ≤ 4096) (h3 : 0 ≤ env 1 ∧ env 1 ≤ most) (h4 : ∀ i, 2 ≤ i → i < 6 → 0 ≤ env i ∧ env i ≤ 4096) : Fx env pcW :=
 .app (zOj h1 h2) (.app (zAv h3.1 h3.2) (.app (zAv (h4 2 (by omega) (by omega)).1 (h4 2 (by omega) (by omega)).2) (.app (zAv (h4 3 (by omega) (by omega)).1 (h4 3 (by omega) (by omega)).2) (.app (zAv (h4 4 (by omega) (by omega)).1 (h4 4 (by omega) (by omega)).2) (zAv (h4 5 (by omega) (by omega)).1 (h4 5 (by omega) (by omega)).2)))))
theorem zFe : ∀ p ∈ ([] : List (Nat × List Value)), p.1 < Tryz.prog.globals.size := fun p hp => by cases hp
set_option maxRecDepth 100000
theorem fxPush : zAl (shPush PG) 5 [false, false, false, false, false] := fun i => by rcases i with _ | i <;> exact ⟨Nat.le_refl _, rfl, rfl⟩
theorem fxRem : zAl (shRem PG) 5 [false, false, false, false, false] := fun i => by rcases i with _ | i <;> exact ⟨Nat.le_refl _, rfl, rfl⟩
theorem fxPop : zAl (shPop PG) 5 [false, false, false, false, false] := fun i => by rcases i with _ | i <;> exact ⟨Nat.le_refl _, rfl, rfl⟩
theorem goodPush : zBk PG (shPush PG 1) = true := by kernel_rfl
theorem goodRem : zBk PG (shRem PG 1) = true := by kernel_rfl
theorem goodPop : zBk PG (shPop PG 1) = true := by kernel_rfl
theorem upsPush : ∀ i, (shPush PG i).ups 8 5 = true := fun i => by rcases i with _ | i <;> kernel_rfl
theorem upsRem : ∀ i, (shRem PG i).ups 8 5 = true := fun i => by rcases i with _ | i <;> kernel_rfl
theorem upsPop : ∀ i, (shPop PG i).ups 8 5 = true := fun i => by rcases i with _ | i <;> kernel_rfl
section
variable [F : Facts] [V : zAc]
theorem LK_rows {K : K4} (h : zEg (lkE V.env K)) : ∀ e ∈ K.list, zDc (zAw V.env e) := fun e he => by
 simp only [K4.list, List.mem_cons, List.not_mem_nil, or_false] at he
 rcases he with rfl | rfl | rfl | rfl
 ·exact h.N
 ·exact h.B
 ·exact h.L
 ·exact h.C
theorem mid_zero : zDc (zAw V.env (.const (L 0))) := fun r c _ => by
 show In64 (0 : Int)
 unfold In64; omega
theorem in64_0 : In64 ((L 0).eval V.env) := by
 show In64 (0 : Int)
 unfold In64; omega
theorem gL_mid {K : K4} (h : zEg (lkE V.env K)) : ∀ e ∈ gL K, zDc (zAw V.env e) := fun e he => by
 rcases List.mem_cons.1 he with rfl | he
 ·exact mid_zero
 ·exact LK_rows h e he
theorem fL_mid {n l t : SE} (hn : In64 (n.eval V.env)) (hl : In64 (l.eval V.env)) (ht : In64 (t.eval V.env)) : ∀ e ∈ fL n l t, In64 (e.eval V.env) := fun e he => by
 simp only [fL, List.mem_cons, List.not_mem_nil, or_false] at he
 rcases he with rfl | rfl | rfl | rfl | rfl | rfl | rfl | rfl
 ·exact hn
 ·exact in64_0
 ·exact in64_0
 ·exact in64_0
 ·exact in64_0
 ·exact in64_0
 ·exact hl
 ·exact ht
omit F V in
theorem zGf {f : List SE} {g0 g1 : List SE} {K : K4} {env : Nat → Int} {a : Nat} (h : g0.length + 128 = a) (ha : a + 4 ≤ 256) : zEi (lkT (inE f (g0 ++ (K.list ++ g1)) env) a) (lkE env K) := by
 have key : ∀ i e, (K.list ++ g1)[i]? = some e → (g0 ++ (K.list ++ g1))[a + i - 128]? = some e := fun i e he => by
  rw [List.getElem?_append_right (by omega), show a + i - 128 - g0.length = i by omega]; exact he
 exact ⟨zDd (key 0 K.a rfl) (by omega) (by omega), zDd (key 1 K.b rfl) (by omega) (by omega), zDd (key 2 K.c rfl) (by omega) (by omega), zDd (key 3 K.d rfl) (by omega) (by omega)⟩
omit F V in
theorem len_pos {n : Int} {k : LK} {q : Int → List Int} (h : Rep n k q) {t : Int} (ht : 0 ≤ t ∧ t < n) (hL : g0 k.L t ≠ -1) : 1 ≤ g0 k.C (g0 k.L t) ∧ g0 k.C (g0 k.L t) ≤ 4096 := by
 obtain ⟨l0, l1, hm⟩ := (h.list t ht.1 ht.2).resolve_left hL
 rw [h.cnt _ l0 l1]
 have := List.length_pos_of_mem hm
 have := h.len l0 l1
 omega
theorem push_proof {n l t : SE} {K K' : K4} {q : Int → List Int} (hR : Rep (n.eval V.env) (lkE V.env K) q) (hl : 0 ≤ l.eval V.env ∧ l.eval V.env < 128) (ht : 0 ≤ t.eval V.env ∧ t.eval V.env < n.eval V.env) (hL : g0 (lkE V.env K).L (t.eval V.env) = -1)
  (hM : zEg (lkE V.env K)) (hK' : zEi (lkE V.env K') ((lkE V.env K).push (n.eval V.env) (l.eval V.env) (t.eval V.env))) : zAj Tryz.prog [] (pushS fns n l t K K') := by
 have hn := hR.n1
 have hlen := hR.len hl.1 hl.2
 have hcnt := hR.cnt _ hl.1 hl.2
 obtain ⟨p1, p2, p3⟩ := hR.place hl.1 hl.2
 have i64 : ∀ {x : Int}, -1 ≤ x → x ≤ 10000 → In64 x := fun h1 h2 => by unfold In64; omega
 have hM' : zEg (lkE V.env K') := (hM.push (n := n.eval V.env) (i64 (by omega) (by omega)) (i64 (by omega) (by omega)) (by rw [hcnt]; exact i64 (by omega) (by omega))).of hK'
 have hf := fL_mid (V := V) (n := n) (l := l) (t := t) (i64 (by omega) (by omega)) (i64 (by omega) (by omega)) (i64 (by omega) (by omega))
 have hk : zEi (lkT (inE (fL n l t) (gL K) V.env) 129) (lkE V.env K) := zGf (g0 := [.const (L 0)]) (g1 := []) rfl (by decide)
 have hk' : zEi (lkT (inE (fL n l t) (gL K') V.env) 129) (lkE V.env K') := zGf (g0 := [.const (L 0)]) (g1 := []) rfl (by decide)
 have e1 : plE.eval (inE (fL n l t) (gL K) V.env) = g0 (lkE V.env K).B (n.eval V.env + l.eval V.env) := inE_sel (e := K.b) rfl (by decide) (by decide)
 have e2 : afE.eval (inE (fL n l t) (gL K) V.env) = g0 (lkE V.env K).N (g0 (lkE V.env K).B (n.eval V.env + l.eval V.env)) := by
  rw [← e1]; exact inE_sel (e := K.a) rfl (by decide) (by decide)
 have e3 : (sel 131 (v 7)).eval (inE (fL n l t) (gL K) V.env) = g0 (lkE V.env K).L (t.eval V.env) := inE_sel (e := K.c) rfl (by decide) (by decide)
 have e4 : (sel 132 (v 6)).eval (inE (fL n l t) (gL K) V.env) = g0 (lkE V.env K).C (l.eval V.env) := inE_sel (e := K.d) rfl (by decide) (by decide)
 have e6 : (v 6).eval (inE (fL n l t) (gL K) V.env) = l.eval V.env := zAx rfl (by decide)
 have e7 : (v 7).eval (inE (fL n l t) (gL K) V.env) = t.eval V.env := zAx rfl (by decide)
 refine zFi (N := NN) (av := [.ptr PG 0, X 6, X 7]) (pushS fns n l t K K') zFe fxPush (zCa rfl goodPush) rfl rfl (σ := Nat → Int) id 8 5 (by decide) upsPush (Nat.le_refl _) (Nat.le_refl _) csPush (zCg csPush.pc [])
  (inE (fL n l t) (gL K) V.env) (inE (fL n l t) (gL K') V.env)
  (fun B V' _ => zOa B V') run_push ?_ (by decide) (by decide) (zCh V.mid hf (gL_mid hM)) (zCh V.mid hf (gL_mid hM')) ?_ (zCc _ _ _) (o := ⟨.ret, 1, fL n l t, gL K'⟩) (k := 0) rfl ⟨rfl, rfl, Nat.le_refl _, Nat.le_refl _, zCc _ _ _⟩
 ·show Fx (inE (fL n l t) (gL K) V.env) pcPush
  refine .app (zOj hn.1 hn.2) (.app (zAv hl.1 (Int.le_sub_one_of_lt hl.2)) (.app (zAv ht.1 ?_) (.app (zEb (eq_ok ?_)) (.app (zAv ?_ ?_) (.app (zAv ?_ ?_) (zAv ?_ ?_))))))
  ·show t.eval V.env ≤ n.eval V.env + (-1); omega
  ·exact e3.trans hL
  ·rw [e1]; exact p1
  ·rw [e1]; show _ ≤ n.eval V.env + 127; omega
  ·rw [e2, p3]; show 0 ≤ _; omega
  ·rw [e2, p3]; show _ ≤ n.eval V.env + 127; omega
  ·rw [e4, hcnt]; show (0 : Int) ≤ _; omega
  ·rw [e4, hcnt]; show _ ≤ (4096 : Int); omega
 ·refine zBg (by decide) (by decide) (fun i hi => inE_same (by omega)) (fun a h1 h2 => ?_)
  rcases (show a = 128 ∨ a = 129 ∨ a = 130 ∨ a = 131 ∨ a = 132 by omega) with rfl | rfl | rfl | rfl | rfl
  ·exact (zDd (e := .const (L 0)) rfl (by decide) (by decide)).trans (zDd (e := .const (L 0)) rfl (by decide) (by decide)).symm
  ·rw [show csPush.gv 129 = .upd (.upd (.tab 129) plE 0 (v 7)) (v 7) 0 afE from rfl, zFa, zFa]
   exact (zEd (zEd hk.N e1 e7) e7 e2).trans (hK'.N.symm.trans hk'.N.symm)
  ·rw [show csPush.gv 130 = .upd (.upd (.tab 130) (v 7) 0 plE) afE 0 (v 7) from rfl, zFa, zFa]
   exact (zEd (zEd hk.B e7 e1) e2 e7).trans (hK'.B.symm.trans hk'.B.symm)
  ·rw [show csPush.gv 131 = .upd (.tab 131) (v 7) 0 (v 6) from rfl, zFa]
   exact (zEd hk.L e7 e6).trans (hK'.L.symm.trans hk'.L.symm)
  ·rw [show csPush.gv 132 = .upd (.tab 132) (v 6) 0 (add (sel 132 (v 6)) (L 1)) from rfl, zFa]
   have e5 : (add (sel 132 (v 6)) (L 1)).eval (inE (fL n l t) (gL K) V.env) = g0 (lkE V.env K).C (l.eval V.env) + 1 := by rw [← e4]; rfl
   exact (zEd hk.C e6 e5).trans (hK'.C.symm.trans hk'.C.symm)
omit F V in
theorem k_sel {env : Nat → Int} {k : LK} (hk : zEi (lkT env 129) k) (e : SE) : (sel 129 e).eval env = g0 k.N (e.eval env) ∧ (sel 130 e).eval env = g0 k.B (e.eval env) ∧ (sel 131 e).eval env = g0 k.L (e.eval env) ∧ (sel 132 e).eval env = g0 k.C (e.eval env) :=
 ⟨(zBv env 129 e).trans (hk.N.g _), (zBv env 130 e).trans (hk.B.g _), (zBv env 131 e).trans (hk.L.g _), (zBv env 132 e).trans (hk.C.g _)⟩
omit F V in
theorem thing_ok {env : Nat → Int} {k : LK} (hk : zEi (lkT env 129) k) {n T : Int} {q : Int → List Int} (hR : Rep n k q) (h0 : env 0 = n) {te : SE} (hT : te.eval env = T) (ht : 0 ≤ T ∧ T < n) (hL : g0 k.L T ≠ -1) : Fx env (pcThing te) := by
 obtain ⟨s1, s2, s3, _⟩ := k_sel hk te
 have s4 := (k_sel hk (sel 131 te)).2.2.2
 rw [hT] at s1 s2 s3
 rw [s3] at s4
 obtain ⟨l1, l2, l3, _⟩ := hR.remove ht hL
 obtain ⟨c1, c2⟩ := len_pos hR ht hL
 refine .app (zAv ?_ ?_) (.app (zAv ?_ ?_) (.app (zAv ?_ ?_) (.app (zAv ?_ ?_) (zAv ?_ ?_))))
 ·rw [hT]; exact ht.1
 ·rw [hT]; show T ≤ env 0 + (-1); omega
 ·rw [s3]; exact l1.1
 ·rw [s3]; show _ ≤ (127 : Int); omega
 ·rw [s2]; exact l2.1
 ·rw [s2]; show _ ≤ env 0 + 127; omega
 ·rw [s1]; exact l3.1
 ·rw [s1]; show _ ≤ env 0 + 127; omega
 ·rw [s4]; exact c1
 ·rw [s4]; exact c2
omit F V in
theorem rem_rows {env : Nat → Int} {k : LK} (hk : zEi (lkT env 129) k) {T : Int} {te : SE} (hT : te.eval env = T) :
  zAg (zAw env (.upd (.tab 129) (sel 130 te) 0 (sel 129 te))) (k.remove T).N ∧ zAg (zAw env (.upd (.tab 130) (sel 129 te) 0 (sel 130 te))) (k.remove T).B ∧ zAg (zAw env (.upd (.tab 131) te 0 (L (-1)))) (k.remove T).L ∧
   zAg (zAw env (.upd (.tab 132) (sel 131 te) 0 (add (sel 132 (sel 131 te)) (L (-1))))) (k.remove T).C := by
 obtain ⟨s1, s2, s3, _⟩ := k_sel hk te
 have s4 := (k_sel hk (sel 131 te)).2.2.2
 rw [hT] at s1 s2 s3
 rw [s3] at s4
 refine ⟨?_, ?_, ?_, ?_⟩
 ·rw [zFa]; exact zEd hk.N s2 s1
 ·rw [zFa]; exact zEd hk.B s1 s2
 ·rw [zFa]; exact zEd hk.L hT rfl
 ·rw [zFa]
  refine zEd hk.C s3 ?_
  show (sel 132 (sel 131 te)).eval env + -1 = _
  rw [s4]; rfl
theorem rem_proof {n t : SE} {K K' : K4} {q : Int → List Int} (hR : Rep (n.eval V.env) (lkE V.env K) q) (ht : 0 ≤ t.eval V.env ∧ t.eval V.env < n.eval V.env) (hL : g0 (lkE V.env K).L (t.eval V.env) ≠ -1)
  (hM : zEg (lkE V.env K)) (hK' : zEi (lkE V.env K') ((lkE V.env K).remove (t.eval V.env))) : zAj Tryz.prog [] (remS fns n t K K') := by
 have hn := hR.n1
 obtain ⟨c1, c2⟩ := len_pos hR ht hL
 have i64 : ∀ {x : Int}, -1 ≤ x → x ≤ 10000 → In64 x := fun h1 h2 => by unfold In64; omega
 have hM' : zEg (lkE V.env K') := (hM.remove (t := t.eval V.env) (i64 (by omega) (by omega))).of hK'
 have hf := fL_mid (V := V) (n := n) (l := L 0) (t := t) (i64 (by omega) (by omega)) in64_0 (i64 (by omega) (by omega))
 have hk : zEi (lkT (inE (fL n (L 0) t) (gL K) V.env) 129) (lkE V.env K) := zGf (g0 := [.const (L 0)]) (g1 := []) rfl (by decide)
 have hk' : zEi (lkT (inE (fL n (L 0) t) (gL K') V.env) 129) (lkE V.env K') := zGf (g0 := [.const (L 0)]) (g1 := []) rfl (by decide)
 have e0 : inE (fL n (L 0) t) (gL K) V.env 0 = n.eval V.env := zAx rfl (by decide)
 have e7 : (v 7).eval (inE (fL n (L 0) t) (gL K) V.env) = t.eval V.env := zAx rfl (by decide)
 obtain ⟨r1, r2, r3, r4⟩ := rem_rows hk e7
 refine zFi (N := NN) (av := [.ptr PG 0, X 7]) (remS fns n t K K') zFe fxRem (zCa rfl goodRem) rfl rfl (σ := Nat → Int) id 8 5 (by decide) upsRem (Nat.le_refl _) (Nat.le_refl _) csRem (zCg csRem.pc [])
  (inE (fL n (L 0) t) (gL K) V.env) (inE (fL n (L 0) t) (gL K') V.env)
  (fun B V' _ => zOa B V') run_rem ?_ (by decide) (by decide) (zCh V.mid hf (gL_mid hM)) (zCh V.mid hf (gL_mid hM')) ?_ (zCc _ _ _) (o := ⟨.ret, 1, fL n (L 0) t, gL K'⟩) (k := 0) rfl ⟨rfl, rfl, Nat.le_refl _, Nat.le_refl _, zCc _ _ _⟩
 ·show Fx (inE (fL n (L 0) t) (gL K) V.env) pcRem
  exact .app (zOj (by rw [e0]; exact hn.1) (by rw [e0]; exact hn.2)) (thing_ok hk hR e0 e7 ht hL)
 ·refine zBg (by decide) (by decide) (fun i hi => inE_same (by omega)) (fun a h1 h2 => ?_)
  rcases (show a = 128 ∨ a = 129 ∨ a = 130 ∨ a = 131 ∨ a = 132 by omega) with rfl | rfl | rfl | rfl | rfl
  ·exact (zDd (e := .const (L 0)) rfl (by decide) (by decide)).trans (zDd (e := .const (L 0)) rfl (by decide) (by decide)).symm
  ·exact r1.trans (hK'.N.symm.trans hk'.N.symm)
  ·exact r2.trans (hK'.B.symm.trans hk'.B.symm)
  ·exact r3.trans (hK'.L.symm.trans hk'.L.symm)
  ·exact r4.trans (hK'.C.symm.trans hk'.C.symm)
theorem pop_proof {n l t : SE} {K K' : K4} {q : Int → List Int} (hR : Rep (n.eval V.env) (lkE V.env K) q) (hl : 0 ≤ l.eval V.env ∧ l.eval V.env < 128) (hq : q (l.eval V.env) ≠ []) (ht : t.eval V.env = g0 (lkE V.env K).N (n.eval V.env + l.eval V.env))
  (hM : zEg (lkE V.env K)) (hK' : zEi (lkE V.env K') ((lkE V.env K).remove (t.eval V.env))) : zAj Tryz.prog [] (popS fns n l t K K') := by
 have hn := hR.n1
 obtain ⟨x, r, hx⟩ : ∃ x r, q (l.eval V.env) = x :: r := by
  cases h : q (l.eval V.env) with
  | nil => exact absurd h hq
  | cons x r => exact ⟨x, r, rfl⟩
 have hseg := hR.seg _ hl.1 hl.2
 have hth := hR.thing _ hl.1 hl.2 x (by rw [hx]; exact .head _)
 rw [hx] at hseg
 have htx : t.eval V.env = x := ht.trans hseg.1
 have ht' : 0 ≤ t.eval V.env ∧ t.eval V.env < n.eval V.env := by rw [htx]; exact ⟨hth.1, hth.2.1⟩
 have hLt : g0 (lkE V.env K).L (t.eval V.env) = l.eval V.env := by rw [htx]; exact hth.2.2
 have hL : g0 (lkE V.env K).L (t.eval V.env) ≠ -1 := by omega
 obtain ⟨c1, c2⟩ := len_pos hR ht' hL
 have i64 : ∀ {x : Int}, -1 ≤ x → x ≤ 10000 → In64 x := fun h1 h2 => by unfold In64; omega
 have hM' : zEg (lkE V.env K') := (hM.remove (t := t.eval V.env) (i64 (by omega) (by omega))).of hK'
 have hf := fL_mid (V := V) (n := n) (l := l) (t := L 0) (i64 (by omega) (by omega)) (i64 (by omega) (by omega)) in64_0
 have hf' := fL_mid (V := V) (n := n) (l := l) (t := t) (i64 (by omega) (by omega)) (i64 (by omega) (by omega)) (i64 (by omega) (by omega))
 have hk : zEi (lkT (inE (fL n l (L 0)) (gL K) V.env) 129) (lkE V.env K) := zGf (g0 := [.const (L 0)]) (g1 := []) rfl (by decide)
 have hk' : zEi (lkT (inE (fL n l t) (gL K') V.env) 129) (lkE V.env K') := zGf (g0 := [.const (L 0)]) (g1 := []) rfl (by decide)
 have e0 : inE (fL n l (L 0)) (gL K) V.env 0 = n.eval V.env := zAx rfl (by decide)
 have e6 : (v 6).eval (inE (fL n l (L 0)) (gL K) V.env) = l.eval V.env := zAx rfl (by decide)
 have etop : topE.eval (inE (fL n l (L 0)) (gL K) V.env) = t.eval V.env := by
  rw [ht]
  refine ((k_sel hk (add (v 0) (v 6))).1).trans ?_
  show g0 (lkE V.env K).N (inE (fL n l (L 0)) (gL K) V.env 0 + (v 6).eval (inE (fL n l (L 0)) (gL K) V.env)) = _
  rw [e0, e6]
 have e4 : (sel 132 (v 6)).eval (inE (fL n l (L 0)) (gL K) V.env) = g0 (lkE V.env K).C (l.eval V.env) := by rw [← e6]; exact (k_sel hk (v 6)).2.2.2
 rw [hLt] at c1 c2
 obtain ⟨r1, r2, r3, r4⟩ := rem_rows hk etop
 refine zFi (N := NN) (av := [.ptr PG 0, X 6]) (popS fns n l t K K') zFe fxPop (zCa rfl goodPop) rfl rfl (σ := Nat → Int) id 8 5 (by decide) upsPop (Nat.le_refl _) (Nat.le_refl _) csPop (zCg csPop.pc [])
  (inE (fL n l (L 0)) (gL K) V.env) (inE (fL n l t) (gL K') V.env)
  (fun B V' _ => zOa B V') run_pop ?_ (by decide) (by decide) (zCh V.mid hf (gL_mid hM)) (zCh V.mid hf' (gL_mid hM')) ?_ (zCc _ _ _) (o := ⟨.ret, 1, fL n l t, gL K'⟩) (k := 0) rfl ⟨rfl, rfl, Nat.le_refl _, Nat.le_refl _, zCc _ _ _⟩
 ·show Fx (inE (fL n l (L 0)) (gL K) V.env) pcPop
  refine .app (zOj (by rw [e0]; exact hn.1) (by rw [e0]; exact hn.2)) (.app (zAv ?_ ?_) (.app (zAv ?_ ?_) (thing_ok hk hR e0 etop ht' hL)))
  ·rw [e6]; exact hl.1
  ·rw [e6]; show _ ≤ (127 : Int); omega
  ·rw [e4]; exact c1
  ·rw [e4]; exact c2
 ·refine zBg (by decide) (by decide) (fun i hi => ?_) (fun a h1 h2 => ?_)
  ·rcases (show i = 0 ∨ i = 1 ∨ i = 2 ∨ i = 3 ∨ i = 4 ∨ i = 5 ∨ i = 6 ∨ i = 7 by omega) with rfl | rfl | rfl | rfl | rfl | rfl | rfl | rfl
   ·exact (show inE (fL n l (L 0)) (gL K) V.env 0 = (n).eval V.env from zAx rfl (by decide)).trans (show inE (fL n l t) (gL K') V.env 0 = (n).eval V.env from zAx rfl (by decide)).symm
   ·exact (show inE (fL n l (L 0)) (gL K) V.env 1 = (L 0).eval V.env from zAx rfl (by decide)).trans (show inE (fL n l t) (gL K') V.env 1 = (L 0).eval V.env from zAx rfl (by decide)).symm
   ·exact (show inE (fL n l (L 0)) (gL K) V.env 2 = (L 0).eval V.env from zAx rfl (by decide)).trans (show inE (fL n l t) (gL K') V.env 2 = (L 0).eval V.env from zAx rfl (by decide)).symm
   ·exact (show inE (fL n l (L 0)) (gL K) V.env 3 = (L 0).eval V.env from zAx rfl (by decide)).trans (show inE (fL n l t) (gL K') V.env 3 = (L 0).eval V.env from zAx rfl (by decide)).symm
   ·exact (show inE (fL n l (L 0)) (gL K) V.env 4 = (L 0).eval V.env from zAx rfl (by decide)).trans (show inE (fL n l t) (gL K') V.env 4 = (L 0).eval V.env from zAx rfl (by decide)).symm
   ·exact (show inE (fL n l (L 0)) (gL K) V.env 5 = (L 0).eval V.env from zAx rfl (by decide)).trans (show inE (fL n l t) (gL K') V.env 5 = (L 0).eval V.env from zAx rfl (by decide)).symm
   ·exact (show inE (fL n l (L 0)) (gL K) V.env 6 = (l).eval V.env from zAx rfl (by decide)).trans (show inE (fL n l t) (gL K') V.env 6 = (l).eval V.env from zAx rfl (by decide)).symm
   ·exact etop.trans (show inE (fL n l t) (gL K') V.env 7 = t.eval V.env from zAx rfl (by decide)).symm
  ·rcases (show a = 128 ∨ a = 129 ∨ a = 130 ∨ a = 131 ∨ a = 132 by omega) with rfl | rfl | rfl | rfl | rfl
   ·exact (zDd (e := .const (L 0)) rfl (by decide) (by decide)).trans (zDd (e := .const (L 0)) rfl (by decide) (by decide)).symm
   ·exact r1.trans (hK'.N.symm.trans hk'.N.symm)
   ·exact r2.trans (hK'.B.symm.trans hk'.B.symm)
   ·exact r3.trans (hK'.L.symm.trans hk'.L.symm)
   ·exact r4.trans (hK'.C.symm.trans hk'.C.symm)
end
def wsE (env : Nat → Int) (n now : SE) (c : C4) (w : SE) (K : K4) : WS := ⟨n.eval env, now.eval env, zAw env w, lkE env K, cE env c⟩
theorem tdiv_pos {a b : Int} (h : 0 ≤ a) : a.tdiv b = a / b := Int.tdiv_eq_ediv_of_nonneg h
theorem tmod_pos {a b : Int} (h : 0 ≤ a) : a.tmod b = a % b := Int.tmod_eq_emod_of_nonneg h
theorem q_eval {env : Nat → Int} {e : SE} (r : Nat) (h : 0 ≤ e.eval env) : (qS r e).eval env = e.eval env / pw r := tdiv_pos h
theorem pw_pos {r : Nat} : 0 < pw r := by
 unfold pw
 split <;> omega
theorem place_eval {env : Nat → Int} {e : SE} {r : Nat} (h : 0 ≤ e.eval env) : (placeS r e).eval env = placeOf r (e.eval env) := by
 have h1 : 0 ≤ e.eval env / pw r := Int.ediv_nonneg h (Int.le_of_lt pw_pos)
 have h2 : ((qS r e).eval env).tmod 32 = e.eval env / pw r % 32 := by rw [q_eval r h, tmod_pos h1]
 unfold Wheels.placeS placeOf
 by_cases hr : r = 0
 ·subst hr
  rw [if_pos rfl]
  show ((qS 0 e).eval env).tmod 32 = _
  rw [h2]
  simp
 ·rw [if_neg hr]
  show ((qS r e).eval env).tmod 32 + (32 * r : Int) = _
  rw [h2]
  omega
theorem bumpF_get {r i : Nat} {d : Int} (hr : r < 4) (hi : i < 7) : (bumpF r d)[i]? = some (if i = 2 + r then add (.var (2 + r)) (L d) else .var i) := by
 rcases (show r = 0 ∨ r = 1 ∨ r = 2 ∨ r = 3 by omega) with rfl | rfl | rfl | rfl <;> rcases (show i = 0 ∨ i = 1 ∨ i = 2 ∨ i = 3 ∨ i = 4 ∨ i = 5 ∨ i = 6 by omega) with rfl | rfl | rfl | rfl | rfl | rfl | rfl <;> rfl
theorem row_facts {env : Nat → Int} {e : SE} {at_ now : Int} (h0 : 0 ≤ at_) (h1 : 0 ≤ now) (he : e.eval env = at_) (hn : env 1 = now) : Fx env (pcRow e (rowOf now at_)) := by
 have q1 : ∀ r, (qS r e).eval env = at_ / pw r := fun r => by rw [q_eval r (by rw [he]; exact h0), he]
 have q2 : ∀ r, (qS r (v 1)).eval env = now / pw r := fun r => by
  have : (v 1).eval env = now := hn
  rw [q_eval r (by rw [this]; exact h1), this]
 rcases zIr (now := now) (at_ := at_) with ⟨g, g1⟩ | ⟨g, g1, g2⟩ | ⟨g, g1, g2, g3⟩ | ⟨g, g1, g2, g3⟩ <;> rw [g]
 ·exact zEb (eq_ok (by rw [q1, q2]; exact g1))
 ·exact .cons (ne_ok (by rw [q1, q2]; exact g1)) (zEb (eq_ok (by rw [q1, q2]; exact g2)))
 ·exact .cons (ne_ok (by rw [q1, q2]; exact g1)) (.cons (ne_ok (by rw [q1, q2]; exact g2)) (zEb (eq_ok (by rw [q1, q2]; exact g3))))
 ·exact .cons (ne_ok (by rw [q1, q2]; exact g1)) (.cons (ne_ok (by rw [q1, q2]; exact g2)) (zEb (ne_ok (by rw [q1, q2]; exact g3))))
set_option maxRecDepth 100000
theorem fxIn : zAl (shIn PG) 7 [false, false, false, false, false, false, false] := fun i => by rcases i with _ | i <;> exact ⟨Nat.le_refl _, rfl, rfl⟩
theorem goodIn : zBk PG (shIn PG 1) = true := by kernel_rfl
theorem upsIn : ∀ i, (shIn PG i).ups 7 9 = true := fun i => by rcases i with _ | i <;> kernel_rfl
theorem run_inn {r : Nat} (hr : r < 4) : runF fIn [.ptr PG 0, X 6] (shIn PG) 7 (csIn r) [pushS fns (v 0) (placeS r w6) (v 6) K0 K1] = true := by
 rcases (show r = 0 ∨ r = 1 ∨ r = 2 ∨ r = 3 by omega) with rfl | rfl | rfl | rfl
 ·exact run_in0
 ·exact run_in1
 ·exact run_in2
 ·exact run_in3
theorem run_out {r : Nat} (hr : r < 4) : runF fOut [.ptr PG 0, X 6] (shIn PG) 7 (csOut r) [remS fns (v 0) (v 6) K0 K1] = true := by
 rcases (show r = 0 ∨ r = 1 ∨ r = 2 ∨ r = 3 by omega) with rfl | rfl | rfl | rfl
 ·exact run_out0
 ·exact run_out1
 ·exact run_out2
 ·exact run_out3
section
variable [F : Facts] [V : zAc] {n now t w : SE} {c c' : C4} {K K' : K4} {q : Int → List Int}
omit F V in
theorem zLi {f : List SE} {g1 : List SE} {env : Nat → Int} (hf : f.take 6 = [n, now, c.a, c.b, c.c, c.d]) :
  inE f (gW w K ++ g1) env 0 = n.eval env ∧ inE f (gW w K ++ g1) env 1 = now.eval env ∧ (∀ r, r < 4 → inE f (gW w K ++ g1) env (2 + r) = cE env c r) ∧ zAg (zFl (inE f (gW w K ++ g1) env) 128) (zAw env w) ∧ zEi (lkT (inE f (gW w K ++ g1) env) 129) (lkE env K) := by
 have key : ∀ i e, ([n, now, c.a, c.b, c.c, c.d] : List SE)[i]? = some e → i < 6 → inE f (gW w K ++ g1) env i = e.eval env := fun i e he hi => by
  refine zAx ?_ (by omega)
  rw [← hf, List.getElem?_take, if_pos hi] at he
  exact he
 refine ⟨key 0 n rfl (by decide), key 1 now rfl (by decide), fun r hr => ?_, zDd (e := w) rfl (by decide) (by decide), ?_⟩
 ·rcases (show r = 0 ∨ r = 1 ∨ r = 2 ∨ r = 3 by omega) with rfl | rfl | rfl | rfl
  ·exact key 2 c.a rfl (by decide)
  ·exact key 3 c.b rfl (by decide)
  ·exact key 4 c.c rfl (by decide)
  ·exact key 5 c.d rfl (by decide)
 ·exact zGf (g0 := [w]) (g1 := g1) rfl (by decide)
theorem c_mid (h : ∀ r, r < 4 → In64 (cE V.env c r)) : ∀ e ∈ c.list, In64 (e.eval V.env) := fun e he => by
 simp only [C4.list, List.mem_cons, List.not_mem_nil, or_false] at he
 rcases he with rfl | rfl | rfl | rfl
 ·exact h 0 (by decide)
 ·exact h 1 (by decide)
 ·exact h 2 (by decide)
 ·exact h 3 (by decide)
theorem fW_mid (hn : In64 (n.eval V.env)) (hnow : In64 (now.eval V.env)) (hc : ∀ r, r < 4 → In64 (cE V.env c r)) (ht : In64 (t.eval V.env)) : ∀ e ∈ fW n now c t, In64 (e.eval V.env) := fun e he => by
 simp only [fW, List.mem_cons, List.not_mem_nil, or_false] at he
 rcases he with rfl | rfl | he
 ·exact hn
 ·exact hnow
 ·rcases he with he | he | he | he | rfl
  ·exact c_mid hc e (by simp [C4.list, he])
  ·exact c_mid hc e (by simp [C4.list, he])
  ·exact c_mid hc e (by simp [C4.list, he])
  ·exact c_mid hc e (by simp [C4.list, he])
  ·exact ht
theorem gW_mid (hw : zDc (zAw V.env w)) (hK : zEg (lkE V.env K)) (hK' : zEg (lkE V.env K')) : ∀ e ∈ gW w K ++ K'.list, zDc (zAw V.env e) := fun e he => by
 rcases List.mem_append.1 he with he | he
 ·rcases List.mem_cons.1 he with rfl | he
  ·exact hw
  ·exact LK_rows hK e he
 ·exact LK_rows hK' e he
omit F V in
theorem zDw {env : Nat → Int} {s : WS} (h : WBase s q) (hm : zEh s) (h0 : env 0 = s.n) (h1 : env 1 = s.now) (hc : ∀ r, r < 4 → env (2 + r) = s.c r) : Fx env pcW := by
 have hn := h.rep.n1
 have hnow := h.now0
 have := hm.now
 refine pcW_ok (by omega) (by omega) (by unfold most; omega) fun i h2 h6 => ?_
 obtain ⟨r, rfl⟩ : ∃ r, i = 2 + r := ⟨i - 2, by omega⟩
 rw [hc r (by omega)]
 exact h.c_in (by omega)
omit F V in
theorem ws_agree {f : List SE} {env : Nat → Int} {cs : Case} {s0 : Nat → Int} (h0 : zAg (zAw s0 (cs.gv 128)) (zAw env w)) (hk : zEi ⟨zAw s0 (cs.gv 129), zAw s0 (cs.gv 130), zAw s0 (cs.gv 131), zAw s0 (cs.gv 132)⟩ (lkE env K')) (hr : zEi ⟨zAw s0 (cs.gv 133), zAw s0 (cs.gv 134), zAw s0 (cs.gv 135), zAw s0 (cs.gv 136)⟩ (lkE env K')) :
  ∀ a, 128 ≤ a → a < 128 + 9 → zAg (zAw s0 (cs.gv a)) (zFl (inE f (gW w K' ++ K'.list) env) a) := fun a h1 h2 => by
 have e1 : zEi (lkT (inE f (gW w K' ++ K'.list) env) 129) (lkE env K') := zGf (g0 := [w]) (g1 := K'.list) rfl (by decide)
 have e2 : zEi (lkT (inE f (gW w K' ++ (K'.list ++ [])) env) 133) (lkE env K') := zGf (g0 := gW w K') (g1 := []) rfl (by decide)
 rw [List.append_nil] at e2
 rcases (show a = 128 ∨ a = 129 ∨ a = 130 ∨ a = 131 ∨ a = 132 ∨ a = 133 ∨ a = 134 ∨ a = 135 ∨ a = 136 by omega) with rfl | rfl | rfl | rfl | rfl | rfl | rfl | rfl | rfl
 ·exact h0.trans (show zAg (zFl (inE f (gW w K' ++ K'.list) env) 128) (zAw env w) from zDd rfl (by decide) (by decide)).symm
 ·exact hk.N.trans e1.N.symm
 ·exact hk.B.trans e1.B.symm
 ·exact hk.L.trans e1.L.symm
 ·exact hk.C.trans e1.C.symm
 ·exact hr.N.trans e2.N.symm
 ·exact hr.B.trans e2.B.symm
 ·exact hr.L.trans e2.L.symm
 ·exact hr.C.trans e2.C.symm
theorem in_proof (h : WBase (wsE V.env n now c w K) q) (hm : zEh (wsE V.env n now c w K)) (ht : 0 ≤ t.eval V.env ∧ t.eval V.env < n.eval V.env) (hL : g0 (lkE V.env K).L (t.eval V.env) = -1) (hw : 0 ≤ g0 (zAw V.env w) (t.eval V.env) ∧ g0 (zAw V.env w) (t.eval V.env) ≤ most)
  (hc' : ∀ r, r < 4 → cE V.env c' r = ((wsE V.env n now c w K).inn (t.eval V.env)).c r) (hK' : zEi (lkE V.env K') ((wsE V.env n now c w K).inn (t.eval V.env)).k) : zAj Tryz.prog [] (inS fns n now c c' t w K K') := by
 obtain ⟨s, hs⟩ : ∃ s, s = wsE V.env n now c w K := ⟨_, rfl⟩
 rw [← hs] at h hm hc' hK'
 have sn : s.n = n.eval V.env := by rw [hs]; rfl
 have snow : s.now = now.eval V.env := by rw [hs]; rfl
 have sw : s.when_ = zAw V.env w := by rw [hs]; rfl
 have sk : s.k = lkE V.env K := by rw [hs]; rfl
 have sc : ∀ r, s.c r = cE V.env c r := fun r => by rw [hs]; rfl
 have hn := h.rep.n1
 have hnow := h.now0
 have hmost := hm.now
 obtain ⟨at_, hat⟩ : ∃ x, x = g0 s.when_ (t.eval V.env) := ⟨_, rfl⟩
 rw [← sw, ← hat] at hw
 obtain ⟨r, hr⟩ : ∃ r, r = rowOf s.now at_ := ⟨_, rfl⟩
 have hr4 : r < 4 := by rw [hr]; exact rowOf_lt
 have hloc : zCp s.now at_ = placeOf r at_ := by rw [hr]; rfl
 obtain ⟨l0, l1, _⟩ := zGj (now := s.now) (at_ := at_)
 have i64 : ∀ {x : Int}, -1 ≤ x → x ≤ 1000000000 → In64 x := fun h1 h2 => by unfold In64; omega
 have cmid : ∀ r, r < 4 → In64 (cE V.env c r) := fun r hr => by
  have := h.c_in hr
  rw [← sc r]; exact i64 (by omega) (by omega)
 have cmid' : ∀ r, r < 4 → In64 (cE V.env c' r) := fun r hr => by
  rw [hc' r hr]
  have := h.c_in hr
  show In64 (bump s.c _ 1 r)
  unfold bump
  split
  ·exact i64 (by omega) (by omega)
  ·exact i64 (by omega) (by omega)
 have hMk : zEg (lkE V.env K') := by
  have hcn := h.rep.cnt _ l0 l1
  have := h.rep.len l0 l1
  refine (zEg.push (n := s.n) (l := zCp s.now at_) (t := t.eval V.env) hm.k (i64 (by omega) (by omega)) (i64 (by omega) (by omega)) (by rw [hcn]; exact i64 (by omega) (by omega))).of ?_
  rw [hat]; exact hK'
 have hfm := fW_mid (V := V) (n := n) (now := now) (c := c) (t := t) (i64 (by omega) (by omega)) (i64 (by omega) (by omega)) cmid (i64 (by omega) (by omega))
 have hfm' := fW_mid (V := V) (n := n) (now := now) (c := c') (t := t) (i64 (by omega) (by omega)) (i64 (by omega) (by omega)) cmid' (i64 (by omega) (by omega))
 have hgm := gW_mid (V := V) (w := w) (K := K) (K' := K') (by rw [← sw]; exact hm.w) (by rw [← sk]; exact hm.k) hMk
 have hgm' := gW_mid (V := V) (w := w) (K := K') (K' := K') (by rw [← sw]; exact hm.w) hMk hMk
 obtain ⟨s0, hs0⟩ : ∃ s0, s0 = inE (fW n now c t) (gW w K ++ K'.list) V.env := ⟨_, rfl⟩
 obtain ⟨a0, a1, a2, a3, a4⟩ := zLi (n := n) (now := now) (c := c) (w := w) (K := K) (f := fW n now c t) (g1 := K'.list) (env := V.env) rfl
 have a5 : zEi (lkT (inE (fW n now c t) (gW w K ++ (K'.list ++ [])) V.env) 133) (lkE V.env K') := zGf (g0 := gW w K) (g1 := []) rfl (by decide)
 rw [List.append_nil] at a5
 have a6 : inE (fW n now c t) (gW w K ++ K'.list) V.env 6 = t.eval V.env := zAx rfl (by decide)
 rw [← hs0] at a0 a1 a2 a3 a4 a5 a6
 have e6 : (v 6).eval s0 = t.eval V.env := a6
 have ew : w6.eval s0 = at_ := by
  rw [hat, sw]
  refine (zBv s0 128 (v 6)).trans ?_
  rw [e6]; exact a3.g _
 have epl : (placeS r w6).eval s0 = zCp s.now at_ := by rw [place_eval (by rw [ew]; exact hw.1), ew, hloc]
 refine zFi (N := NN) (av := [.ptr PG 0, X 6]) (inS fns n now c c' t w K K') zFe fxIn (zCa rfl goodIn) rfl rfl (σ := Nat → Int) id 7 9 (by decide) upsIn (Nat.le_refl _) (Nat.le_refl _) (csIn r) (zCg (csIn r).pc [pushS fns (v 0) (placeS r w6) (v 6) K0 K1])
  s0 (inE (fW n now c' t) (gW w K' ++ K'.list) V.env)
  (fun B V' hV' => zNf B V' fun S hS => ?_) (run_inn hr4) ?_ ?_ (Nat.le_of_ble_eq_true rfl) (by rw [hs0]; exact zCh V.mid hfm hgm) (zCh V.mid hfm' hgm') ?_ (by rw [hs0]; exact zCc _ _ _) (o := ⟨.ret, 1, fW n now c' t, gW w K' ++ K'.list⟩) (k := 0) rfl ⟨rfl, rfl, Nat.le_refl _, Nat.le_refl _, zCc _ _ _⟩
 ·have hS : S = pushS fns (v 0) (placeS r w6) (v 6) K0 K1 := by simpa using hS
  subst hS
  have hV' : V'.env = s0 := hV'
  refine @push_proof ⟨(csIn r).pc⟩ V' (v 0) (placeS r w6) (v 6) K0 K1 q ?_ ?_ ?_ ?_ ?_ ?_
  all_goals rw [hV']
  ·show Rep (s0 0) (lkT s0 129) q
   rw [a0, ← sn]
   exact h.rep.of (by rw [sk]; exact a4)
  ·rw [epl]; exact ⟨l0, l1⟩
  ·show 0 ≤ (v 6).eval s0 ∧ (v 6).eval s0 < s0 0
   rw [e6, a0]; exact ht
  ·rw [e6]; exact (a4.L.g _).trans hL
  ·exact (show zEg (lkE V.env K) by rw [← sk]; exact hm.k).of a4
  ·rw [epl, e6]
   show zEi (lkT s0 133) ((lkT s0 129).push (s0 0) _ _)
   refine (a5.trans hK').trans ?_
   show zEi (s.k.push s.n (zCp s.now (g0 s.when_ (t.eval V.env))) (t.eval V.env)) _
   rw [← hat]
   exact push_eq (by rw [sk]; exact a4.symm) (by rw [a0, sn]) rfl rfl
 ·show Fx s0 (pcIn r)
  refine .app (zDw h hm (by rw [a0, sn]) (by rw [a1, snow]) fun r hr => by rw [a2 r hr, sc]) (.app (zAv ?_ ?_) (.app (zAv ?_ ?_) ?_))
  ·rw [e6]; exact ht.1
  ·rw [e6]; show _ ≤ s0 0 + (-1); rw [a0]; omega
  ·rw [ew]; exact hw.1
  ·rw [ew]; exact hw.2
  ·rw [hr]; exact row_facts hw.1 hnow ew (by rw [a1, snow])
 ·show (bumpF r 1).length ≤ 7
  simp [bumpF]
 ·show zCq 7 9 (zBb (csIn r).fv (csIn r).gv s0) (inE (fW n now c' t) (gW w K' ++ K'.list) V.env)
  obtain ⟨b0, b1, b2, _, _⟩ := zLi (n := n) (now := now) (c := c') (w := w) (K := K') (f := fW n now c' t) (g1 := K'.list) (env := V.env) rfl
  refine zBg (by decide) (by decide) (fun i hi => ?_) (ws_agree (a3) a5 a5)
  have hg : (csIn r).fv i = if i = 2 + r then add (.var (2 + r)) (L 1) else .var i := by
   show ((bumpF r 1)[i]?).getD (.var i) = _
   rw [bumpF_get hr4 hi]; rfl
  rw [hg]
  by_cases hin : 2 ≤ i ∧ i < 6
  ·obtain ⟨j, rfl⟩ : ∃ j, i = 2 + j := ⟨i - 2, by omega⟩
   rw [b2 j (by omega), hc' j (by omega)]
   show _ = bump s.c (rowOf s.now (g0 s.when_ (t.eval V.env))) 1 j
   rw [← hat, ← hr]
   unfold bump
   by_cases e : j = r
   ·subst e
    rw [if_pos rfl, if_pos rfl]
    show s0 (2 + j) + 1 = _
    rw [a2 j hr4, sc]
   ·rw [if_neg (by omega), if_neg e]
    show s0 (2 + j) = _
    rw [a2 j (by omega), sc]
  ·rw [if_neg (by omega)]
   show s0 i = _
   rcases (show i = 0 ∨ i = 1 ∨ i = 6 by omega) with rfl | rfl | rfl
   ·rw [a0, b0]
   ·rw [a1, b1]
   ·rw [a6]; exact (show inE (fW n now c' t) (gW w K' ++ K'.list) V.env 6 = t.eval V.env from zAx rfl (by decide)).symm
theorem out_proof (h : WBase (wsE V.env n now c w K) q) (hm : zEh (wsE V.env n now c w K)) (ht : 0 ≤ t.eval V.env ∧ t.eval V.env < n.eval V.env) (hL : g0 (lkE V.env K).L (t.eval V.env) ≠ -1)
  (hc' : ∀ r, r < 4 → cE V.env c' r = ((wsE V.env n now c w K).out (t.eval V.env)).c r) (hK' : zEi (lkE V.env K') ((wsE V.env n now c w K).out (t.eval V.env)).k) : zAj Tryz.prog [] (outS fns n now c c' t w K K') := by
 obtain ⟨s, hs⟩ : ∃ s, s = wsE V.env n now c w K := ⟨_, rfl⟩
 rw [← hs] at h hm hc' hK'
 have sn : s.n = n.eval V.env := by rw [hs]; rfl
 have snow : s.now = now.eval V.env := by rw [hs]; rfl
 have sw : s.when_ = zAw V.env w := by rw [hs]; rfl
 have sk : s.k = lkE V.env K := by rw [hs]; rfl
 have sc : ∀ r, s.c r = cE V.env c r := fun r => by rw [hs]; rfl
 have hn := h.rep.n1
 have hnow := h.now0
 have hmost := hm.now
 rw [← sk] at hL
 obtain ⟨⟨l0, l1⟩, _, _, _⟩ := h.rep.remove (by rw [sn]; exact ht) hL
 obtain ⟨k1, k2⟩ := len_pos h.rep (by rw [sn]; exact ht) hL
 obtain ⟨l, hl⟩ : ∃ x, x = g0 s.k.L (t.eval V.env) := ⟨_, rfl⟩
 rw [← hl] at l0 l1 k1 k2
 obtain ⟨r, hr⟩ : ∃ r, r = (l / 32).toNat := ⟨_, rfl⟩
 have hr4 : r < 4 := by omega
 have i64 : ∀ {x : Int}, -1 ≤ x → x ≤ 1000000000 → In64 x := fun h1 h2 => by unfold In64; omega
 have cmid : ∀ r, r < 4 → In64 (cE V.env c r) := fun r hr => by
  have := h.c_in hr
  rw [← sc r]; exact i64 (by omega) (by omega)
 have cmid' : ∀ r, r < 4 → In64 (cE V.env c' r) := fun r hr => by
  rw [hc' r hr]
  have := h.c_in hr
  show In64 (bump s.c _ (-1) r)
  unfold bump
  split
  ·exact i64 (by omega) (by omega)
  ·exact i64 (by omega) (by omega)
 have hMk : zEg (lkE V.env K') := by
  refine (zEg.remove (t := t.eval V.env) hm.k (by rw [← hl]; exact i64 (by omega) (by omega))).of hK'
 have hfm := fW_mid (V := V) (n := n) (now := now) (c := c) (t := t) (i64 (by omega) (by omega)) (i64 (by omega) (by omega)) cmid (i64 (by omega) (by omega))
 have hfm' := fW_mid (V := V) (n := n) (now := now) (c := c') (t := t) (i64 (by omega) (by omega)) (i64 (by omega) (by omega)) cmid' (i64 (by omega) (by omega))
 have hgm := gW_mid (V := V) (w := w) (K := K) (K' := K') (by rw [← sw]; exact hm.w) (by rw [← sk]; exact hm.k) hMk
 have hgm' := gW_mid (V := V) (w := w) (K := K') (K' := K') (by rw [← sw]; exact hm.w) hMk hMk
 obtain ⟨s0, hs0⟩ : ∃ s0, s0 = inE (fW n now c t) (gW w K ++ K'.list) V.env := ⟨_, rfl⟩
 obtain ⟨a0, a1, a2, a3, a4⟩ := zLi (n := n) (now := now) (c := c) (w := w) (K := K) (f := fW n now c t) (g1 := K'.list) (env := V.env) rfl
 have a5 : zEi (lkT (inE (fW n now c t) (gW w K ++ (K'.list ++ [])) V.env) 133) (lkE V.env K') := zGf (g0 := gW w K) (g1 := []) rfl (by decide)
 rw [List.append_nil] at a5
 have a6 : inE (fW n now c t) (gW w K ++ K'.list) V.env 6 = t.eval V.env := zAx rfl (by decide)
 rw [← hs0] at a0 a1 a2 a3 a4 a5 a6
 have e6 : (v 6).eval s0 = t.eval V.env := a6
 have el : l6.eval s0 = l := by
  rw [hl, sk]
  refine (zBv s0 131 (v 6)).trans ?_
  rw [e6]; exact a4.L.g _
 refine zFi (N := NN) (av := [.ptr PG 0, X 6]) (outS fns n now c c' t w K K') zFe fxIn (zCa rfl goodIn) rfl rfl (σ := Nat → Int) id 7 9 (by decide) upsIn (Nat.le_refl _) (Nat.le_refl _) (csOut r) (zCg (csOut r).pc [remS fns (v 0) (v 6) K0 K1])
  s0 (inE (fW n now c' t) (gW w K' ++ K'.list) V.env)
  (fun B V' hV' => zNf B V' fun S hS => ?_) ?_ ?_ ?_ (Nat.le_of_ble_eq_true rfl) (by rw [hs0]; exact zCh V.mid hfm hgm) (zCh V.mid hfm' hgm') ?_ (by rw [hs0]; exact zCc _ _ _) (o := ⟨.ret, 1, fW n now c' t, gW w K' ++ K'.list⟩) (k := 0) rfl ⟨rfl, rfl, Nat.le_refl _, Nat.le_refl _, zCc _ _ _⟩
 ·have hS : S = remS fns (v 0) (v 6) K0 K1 := by simpa using hS
  subst hS
  have hV' : V'.env = s0 := hV'
  refine @rem_proof ⟨(csOut r).pc⟩ V' (v 0) (v 6) K0 K1 q ?_ ?_ ?_ ?_ ?_
  all_goals rw [hV']
  ·show Rep (s0 0) (lkT s0 129) q
   rw [a0, ← sn]
   exact h.rep.of (by rw [sk]; exact a4)
  ·show 0 ≤ (v 6).eval s0 ∧ (v 6).eval s0 < s0 0
   rw [e6, a0]; exact ht
  ·rw [e6]
   refine fun e => hL ?_
   rw [sk, ← a4.L.g]; exact e
  ·exact (show zEg (lkE V.env K) by rw [← sk]; exact hm.k).of a4
  ·rw [e6]
   show zEi (lkT s0 133) ((lkT s0 129).remove _)
   refine (a5.trans hK').trans ?_
   exact zMe (by show zEi s.k _; rw [sk]; exact a4.symm) rfl
 ·have := run_out hr4
  exact this
 ·show Fx s0 (pcOut r)
  refine .app (zDw h hm (by rw [a0, sn]) (by rw [a1, snow]) fun r hr => by rw [a2 r hr, sc]) (.app (zAv ?_ ?_) (.app (zAv ?_ ?_) (zEb (eq_ok ?_))))
  ·rw [e6]; exact ht.1
  ·rw [e6]; show _ ≤ s0 0 + (-1); rw [a0]; omega
  ·rw [el]; show (32 * r : Int) ≤ l; omega
  ·rw [el]; show l ≤ (32 * r + 31 : Int); omega
  ·show (l6.eval s0).tdiv 32 = (r : Int)
   rw [el, tdiv_pos l0]; omega
 ·show (bumpF r (-1)).length ≤ 7
  simp [bumpF]
 ·show zCq 7 9 (zBb (csOut r).fv (csOut r).gv s0) (inE (fW n now c' t) (gW w K' ++ K'.list) V.env)
  obtain ⟨b0, b1, b2, _, _⟩ := zLi (n := n) (now := now) (c := c') (w := w) (K := K') (f := fW n now c' t) (g1 := K'.list) (env := V.env) rfl
  refine zBg (by decide) (by decide) (fun i hi => ?_) (ws_agree (a3) a5 a5)
  have hg : (csOut r).fv i = if i = 2 + r then add (.var (2 + r)) (L (-1)) else .var i := by
   show ((bumpF r (-1))[i]?).getD (.var i) = _
   rw [bumpF_get hr4 hi]; rfl
  rw [hg]
  by_cases hin : 2 ≤ i ∧ i < 6
  ·obtain ⟨j, rfl⟩ : ∃ j, i = 2 + j := ⟨i - 2, by omega⟩
   rw [b2 j (by omega), hc' j (by omega)]
   show _ = bump s.c (g0 s.k.L (t.eval V.env) / 32).toNat (-1) j
   rw [← hl, ← hr]
   unfold bump
   by_cases e : j = r
   ·subst e
    rw [if_pos rfl, if_pos rfl]
    show s0 (2 + j) + -1 = _
    rw [a2 j hr4, sc]
   ·rw [if_neg (by omega), if_neg e]
    show s0 (2 + j) = _
    rw [a2 j (by omega), sc]
  ·rw [if_neg (by omega)]
   show s0 i = _
   rcases (show i = 0 ∨ i = 1 ∨ i = 6 by omega) with rfl | rfl | rfl
   ·rw [a0, b0]
   ·rw [a1, b1]
   ·rw [a6]; exact (show inE (fW n now c' t) (gW w K' ++ K'.list) V.env 6 = t.eval V.env from zAx rfl (by decide)).symm
end
theorem isDown : ((Tryz.prog.funcs[zOs]?).bind (·.body)).map (fun c => zBm 3 (subs c)) = some [zEf zOs 3] := by kernel_rfl
theorem run_dn {r : Nat} (h1 : 1 ≤ r) (h4 : r < 4) : zFp zOs 3 44 (shDn PG r) 7 0 (csDn r) (dnFuns fns r) = true := by
 rcases (show r = 1 ∨ r = 2 ∨ r = 3 by omega) with rfl | rfl | rfl
 ·exact run_dn1
 ·exact run_dn2
 ·exact run_dn3
theorem run_dnE {r : Nat} (h1 : 1 ≤ r) (h4 : r < 4) : zFp zOs 3 44 (shDn PG r) 7 0 csDnE [] = true := by
 rcases (show r = 1 ∨ r = 2 ∨ r = 3 by omega) with rfl | rfl | rfl
 ·exact run_dnE1
 ·exact run_dnE2
 ·exact run_dnE3
theorem fxDn (r : Nat) : zAl (shDn PG r) 7 [false, false, false, false, false, false, false] := fun i => by rcases i with _ | i <;> exact ⟨Nat.le_refl _, rfl, rfl⟩
set_option maxRecDepth 100000
theorem goodDn (r : Nat) : zBk PG (shDn PG r 1) = true := by
 show zBk PG ⟨[], zDr PG⟩ = true
 kernel_rfl
theorem upsDn {r : Nat} (h1 : 1 ≤ r) (h4 : r < 4) : ∀ i, (shDn PG r i).ups 9 5 = true := fun i => by
 rcases (show r = 1 ∨ r = 2 ∨ r = 3 by omega) with rfl | rfl | rfl <;> rcases i with _ | i <;> kernel_rfl
def nxT (r m : Nat) (x : WS × Nat) : Int := if x.2 < m then x.1.top r else 0
def nx1 (r m : Nat) (x : WS × Nat) : WS := if x.2 < m then x.1.pop r else x.1
def nx2 (r m : Nat) (x : WS × Nat) : WS := if x.2 < m then x.1.dn1 r else x.1
def zJj (r : Nat) (from_ : Int) (m : Nat) (x : WS × Nat) : Nat → Int :=
 zCb ([x.1.n, x.1.now] ++ (x.1.cs ++ ([from_, m, x.2, nxT r m x] ++ (nx2 r m x).cs))) ([x.1.when_] ++ (x.1.k.list ++ ((nx1 r m x).k.list ++ (nx2 r m x).k.list)))
section
variable {r : Nat} {from_ : Int} {m : Nat} {x : WS × Nat}
theorem encD_k : zEi (lkT (zJj r from_ m x) 129) x.1.k := lk_enc (pre := [x.1.when_]) rfl (by decide)
theorem encD_k1 : zEi (lkT (zJj r from_ m x) 133) (nx1 r m x).k := by
 unfold zJj
 rw [← List.append_assoc]
 exact lk_enc (pre := [x.1.when_] ++ x.1.k.list) (by rfl) (by decide)
theorem encD_k2 : zEi (lkT (zJj r from_ m x) 137) (nx2 r m x).k := by
 unfold zJj
 rw [← List.append_assoc, ← List.append_assoc, ← List.append_nil (nx2 r m x).k.list]
 exact lk_enc (pre := ([x.1.when_] ++ x.1.k.list) ++ (nx1 r m x).k.list) (by rfl) (by decide)
theorem encD_w : zAg (zFl (zJj r from_ m x) 128) x.1.when_ := zAq rfl (by decide) (by decide)
theorem encD_0 : zJj r from_ m x 0 = x.1.n := zAu rfl (by decide)
theorem encD_1 : zJj r from_ m x 1 = x.1.now := zAu rfl (by decide)
theorem encD_c {i : Nat} (hi : i < 4) : zJj r from_ m x (2 + i) = x.1.c i := by
 rcases (show i = 0 ∨ i = 1 ∨ i = 2 ∨ i = 3 by omega) with rfl | rfl | rfl | rfl <;> exact zAu rfl (by decide)
theorem encD_6 : zJj r from_ m x 6 = from_ := zAu rfl (by decide)
theorem encD_7 : zJj r from_ m x 7 = m := zAu rfl (by decide)
theorem encD_8 : zJj r from_ m x 8 = x.2 := zAu rfl (by decide)
theorem encD_9 : zJj r from_ m x 9 = nxT r m x := zAu rfl (by decide)
theorem encD_d {i : Nat} (hi : i < 4) : zJj r from_ m x (10 + i) = (nx2 r m x).c i := by
 rcases (show i = 0 ∨ i = 1 ∨ i = 2 ∨ i = 3 by omega) with rfl | rfl | rfl | rfl <;> exact zAu rfl (by decide)
end
structure DnInv (r m : Nat) (fin : WS) (x : WS × Nat) : Prop where
 i : x.2 ≤ m
 q : ∃ q, WDn x.1 q (r + 1) ∧ (q (placeOf r x.1.now)).length = m - x.2
 mid : zEh x.1
 fin : WS.dnK r (m - x.2) x.1 = fin
theorem DnInv.go {r m : Nat} {fin : WS} {x : WS × Nat} (h : DnInv r m fin x) (hr1 : 1 ≤ r) (hr4 : r < 4) (hlt : x.2 < m) :
  ∃ q l, WDn x.1 q (r + 1) ∧ q (placeOf r x.1.now) = x.1.top r :: l ∧ (0 ≤ x.1.top r ∧ x.1.top r < x.1.n ∧ g0 x.1.k.L (x.1.top r) = placeOf r x.1.now) ∧ x.1.pop r = x.1.out (x.1.top r) ∧ WBase (x.1.pop r) (fun m => (q m).erase (x.1.top r)) ∧ zEh (x.1.pop r) ∧ zEh (x.1.dn1 r) ∧
   (1 ≤ x.1.c r ∧ x.1.c r ≤ 4096) ∧ (x.1.now ≤ g0 x.1.when_ (x.1.top r) ∧ g0 x.1.when_ (x.1.top r) ≤ x.1.now + 65534) ∧ DnInv r m fin (x.1.dn1 r, x.2 + 1) ∧ WBase (x.1.dn1 r) (fun m => if m = zCp x.1.now (g0 x.1.when_ (x.1.top r)) then (q m).erase (x.1.top r) ++ [x.1.top r] else (q m).erase (x.1.top r)) := by
 obtain ⟨q, h1, h2⟩ := h.q
 cases hq : q (placeOf r x.1.now) with
 | nil => rw [hq] at h2; simp at h2; omega
 | cons y l =>
  obtain ⟨e1, e2, e3, e4⟩ := h1.toWBase.top hr4 hq
  obtain ⟨p0, p1, p2⟩ := zBa (at_ := x.1.now) hr4
  have hL : g0 x.1.k.L y ≠ -1 := by omega
  have hp := pop_eq h1.toWBase hr4 hq
  have ho := h1.toWBase.out ⟨e2, e3⟩ hL
  have hmo := h.mid.out h1.toWBase ⟨e2, e3⟩ hL
  rw [← hp] at ho hmo
  have hLo : g0 (x.1.pop r).k.L y = -1 := by rw [hp]; exact zBn e2
  have hi := ho.inn ⟨e2, e3⟩ hLo
  have hmi := hmo.inn ho (t := y) ⟨e2, e3⟩
  obtain ⟨q', g1, g2⟩ := h1.step hr1 hr4 hq
  rw [e1]
  have ed : x.1.dn1 r = (x.1.pop r).inn y := by unfold WS.dn1; rw [e1]
  have hx : x.1.now ≤ g0 x.1.when_ y ∧ g0 x.1.when_ y ≤ x.1.now + 65534 := by
   rcases h1.w y e2 e3 with ⟨_, hx⟩ | ⟨g1, g2, _⟩
   ·omega
   ·exact ⟨g1, g2⟩
  have hc : 1 ≤ x.1.c r ∧ x.1.c r ≤ 4096 := by
   have := h1.toWBase.c_in hr4
   refine ⟨?_, this.2⟩
   rw [h1.c r hr4]
   have h0 := (zKp (p := zHe x.1.k.L r) (n := x.1.n.toNat)).1
   rcases Int.lt_or_eq_of_le h0 with g | g
   ·exact g
   ·have := cntP_zero g.symm y.toNat (by omega)
    rw [Int.toNat_of_nonneg e2] at this
    unfold zHe at this
    rw [e4, decide_eq_true p0, decide_eq_true p2] at this
    cases this
  refine ⟨q, l, h1, hq, ⟨e2, e3, e4⟩, hp, ho, hmo, by rw [ed]; exact hmi, hc, hx, ⟨hlt, ⟨q', g1, ?_⟩, by show zEh (x.1.dn1 r); rw [ed]; exact hmi, ?_⟩, by rw [ed]; exact hi⟩
  ·have hk := dn1_keep (s := x.1) (r := r)
   show (q' (placeOf r (x.1.dn1 r).now)).length = m - (x.2 + 1)
   rw [hk.2.1, g2]
   rw [hq] at h2
   simp at h2
   omega
  ·show WS.dnK r (m - (x.2 + 1)) (x.1.dn1 r) = fin
   have := h.fin
   rw [show m - x.2 = (m - (x.2 + 1)) + 1 by omega] at this
   exact this
theorem i64 {x : Int} (h1 : -1 ≤ x) (h2 : x ≤ 1000000000) : In64 x := by unfold In64; omega
theorem encD_mid {r m : Nat} {fin : WS} {x : WS × Nat} {from_ : Int} (h : DnInv r m fin x) (hr1 : 1 ≤ r) (hr4 : r < 4) (hf : 0 ≤ from_ ∧ from_ < 128) (hm : m ≤ 4096) : ∀ j, In64 (zJj r from_ m x j) := by
 obtain ⟨q, h1, _⟩ := h.q
 have hn := h1.rep.n1
 have hnow := h1.now0
 have hnow' := h.mid.now
 have hi := h.i
 obtain ⟨k1, k2, k3, k4⟩ : In64 (nxT r m x) ∧ (∀ y ∈ (nx2 r m x).cs, In64 y) ∧ zEg (nx1 r m x).k ∧ zEg (nx2 r m x).k := by
  unfold nxT nx1 nx2
  by_cases hlt : x.2 < m
  ·obtain ⟨q, l, _, _, ⟨g1, g2, _⟩, _, _, g4, g5, _, _, _, g6⟩ := h.go hr1 hr4 hlt
   rw [if_pos hlt, if_pos hlt, if_pos hlt]
   exact ⟨i64 (by omega) (by omega), g6.cs_mid, g4.k, g5.k⟩
  ·rw [if_neg hlt, if_neg hlt, if_neg hlt]
   exact ⟨i64 (by omega) (by omega), h1.toWBase.cs_mid, h.mid.k, h.mid.k⟩
 refine zMv (fun y hy => ?_) (fun T hT => ?_)
 ·rcases List.mem_append.1 hy with hy | hy
  ·simp only [List.mem_cons, List.not_mem_nil, or_false] at hy
   rcases hy with rfl | rfl
   ·exact i64 (by omega) (by omega)
   ·exact i64 (by omega) (by omega)
  ·rcases List.mem_append.1 hy with hy | hy
   ·exact h1.toWBase.cs_mid y hy
   ·rcases List.mem_append.1 hy with hy | hy
    ·simp only [List.mem_cons, List.not_mem_nil, or_false] at hy
     rcases hy with rfl | rfl | rfl | rfl
     ·exact i64 (by omega) (by omega)
     ·exact i64 (by omega) (by omega)
     ·exact i64 (by omega) (by omega)
     ·exact k1
    ·exact k2 y hy
 ·rcases List.mem_append.1 hT with hT | hT
  ·simp only [List.mem_cons, List.not_mem_nil, or_false] at hT
   subst hT
   exact h.mid.w
  ·rcases List.mem_append.1 hT with hT | hT
   ·exact LK.list_mid h.mid.k T hT
   ·rcases List.mem_append.1 hT with hT | hT
    ·exact LK.list_mid k3 T hT
    ·exact LK.list_mid k4 T hT
theorem zDo (B : Nat) (pc : List (SB × Bool)) (env : Nat → Int) (fs : List zAi) (h : ∀ V : @zAc ⟨pc⟩, V.env = env → ∀ S ∈ fs, @zAj ⟨pc⟩ V Tryz.prog [] S) : Rnd Tryz.prog B pc env noLoops (zCg pc fs) :=
 ⟨fun _ _ => noTame, fun V _ => @zNt ⟨pc⟩ V _ _, fun V hV => zNf B V (h V hV)⟩
theorem dn_funs {r m : Nat} {fin : WS} {x : WS × Nat} {from_ : Int} (h : DnInv r m fin x) (hr1 : 1 ≤ r) (hr4 : r < 4) (hf : from_ = placeOf r x.1.now) (hlt : x.2 < m) {pc : List (SB × Bool)} (V : @zAc ⟨pc⟩) (hV : V.env = zJj r from_ m x) : ∀ S ∈ dnFuns fns r, @zAj ⟨pc⟩ V Tryz.prog [] S := by
 obtain ⟨q, l, d1, d2, ⟨d3, d4, d5⟩, d6, d7, d8, d9, d10, d11, d12, d13⟩ := h.go hr1 hr4 hlt
 obtain ⟨p0, p1, _⟩ := zBa (at_ := x.1.now) hr4
 have eT : nxT r m x = x.1.top r := if_pos hlt
 have e1 : nx1 r m x = x.1.pop r := if_pos hlt
 have e2 : nx2 r m x = x.1.dn1 r := if_pos hlt
 have k1 := encD_k (r := r) (from_ := from_) (m := m) (x := x)
 have k2 := encD_k1 (r := r) (from_ := from_) (m := m) (x := x)
 have k3 := encD_k2 (r := r) (from_ := from_) (m := m) (x := x)
 rw [e1] at k2
 rw [e2] at k3
 have kw := encD_w (r := r) (from_ := from_) (m := m) (x := x)
 have v9 : (v 9).eval (zJj r from_ m x) = x.1.top r := encD_9.trans eT
 have v6 : (v 6).eval (zJj r from_ m x) = placeOf r x.1.now := encD_6.trans hf
 have v0 : (v 0).eval (zJj r from_ m x) = x.1.n := encD_0
 have v1 : (v 1).eval (zJj r from_ m x) = x.1.now := encD_1
 have hmid := h.mid
 have hpop : zDg (wsE (zJj r from_ m x) (v 0) (v 1) (C1 r) (.tab 128) K1) (x.1.pop r) := by
  refine ⟨v0, v1, kw, k2, fun i hi => ?_⟩
  show cE (zJj r from_ m x) (C1 r) i = bump x.1.c r (-1) i
  have hc := fun j (hj : j < 4) => encD_c (r := r) (from_ := from_) (m := m) (x := x) hj
  unfold bump
  rcases (show r = 1 ∨ r = 2 ∨ r = 3 by omega) with rfl | rfl | rfl <;> rcases (show i = 0 ∨ i = 1 ∨ i = 2 ∨ i = 3 by omega) with rfl | rfl | rfl | rfl
  all_goals first
   | exact hc 0 (by decide)
   | exact hc 1 (by decide)
   | exact hc 2 (by decide)
   | exact hc 3 (by decide)
   | exact congrArg (· + (-1)) (hc 1 (by decide))
   | exact congrArg (· + (-1)) (hc 2 (by decide))
   | exact congrArg (· + (-1)) (hc 3 (by decide))
 intro S hS
 simp only [dnFuns, List.mem_cons, List.not_mem_nil, or_false] at hS
 rcases hS with rfl | rfl
 ·refine @pop_proof ⟨pc⟩ V (v 0) (v 6) (v 9) K0 K1 q ?_ ?_ ?_ ?_ ?_ ?_
  all_goals rw [hV]
  ·rw [v0]; exact d1.rep.of k1
  ·rw [v6]; exact ⟨p0, p1⟩
  ·rw [v6, d2]; simp
  ·rw [v9, v0, v6]
   exact (k1.N.g _).symm
  ·exact hmid.k.of k1
  ·rw [v9]
   refine k2.trans ?_
   rw [d6]
   exact zMe k1.symm rfl
 ·refine @in_proof ⟨pc⟩ V (v 0) (v 1) (v 9) (.tab 128) (C1 r) C2 K1 K2 (fun m => (q m).erase (x.1.top r)) ?_ ?_ ?_ ?_ ?_ ?_ ?_
  all_goals rw [hV]
  ·exact d7.of hpop
  ·exact d8.of hpop
  ·rw [v9, v0]; exact ⟨d3, d4⟩
  ·rw [v9]
   refine (k2.L.g _).trans ?_
   rw [d6]
   exact zBn d3
  ·rw [v9]
   have := kw.g (x.1.top r)
   have hn := hmid.now
   have h0 := d1.now0
   refine ⟨?_, ?_⟩
   ·show 0 ≤ g0 (zFl (zJj r from_ m x) 128) (x.1.top r); omega
   ·show g0 (zFl (zJj r from_ m x) 128) (x.1.top r) ≤ most
    have e : g0 (zFl (zJj r from_ m x) 128) (x.1.top r) = g0 x.1.when_ (x.1.top r) := this
    rw [e]
    unfold most
    omega
  ·intro i hi
   rw [v9, (inn_eq hpop rfl).c i hi]
   have := encD_d (r := r) (from_ := from_) (m := m) (x := x) hi
   rw [e2] at this
   rcases (show i = 0 ∨ i = 1 ∨ i = 2 ∨ i = 3 by omega) with rfl | rfl | rfl | rfl <;> exact this
  ·rw [v9]
   exact k3.trans (inn_eq hpop rfl).k.symm
theorem dn_facts {r m : Nat} {fin : WS} {x : WS × Nat} {from_ : Int} (h : DnInv r m fin x) (hr1 : 1 ≤ r) (hr4 : r < 4) (hf : from_ = placeOf r x.1.now) (hm : m ≤ 4096) (hlt : x.2 < m) : Fx (zJj r from_ m x) (csDn r).pc := by
 obtain ⟨q, l, d1, d2, ⟨d3, d4, d5⟩, d6, d7, d8, d9, d10, d11, d12, d13⟩ := h.go hr1 hr4 hlt
 obtain ⟨p0, p1, _⟩ := zBa (at_ := x.1.now) hr4
 have eT : nxT r m x = x.1.top r := if_pos hlt
 have v9 : (v 9).eval (zJj r from_ m x) = x.1.top r := encD_9.trans eT
 have v6 : (v 6).eval (zJj r from_ m x) = placeOf r x.1.now := encD_6.trans hf
 have v7 : (v 7).eval (zJj r from_ m x) = m := encD_7
 have v8 : (v 8).eval (zJj r from_ m x) = x.2 := encD_8
 have vr : (SE.var (2 + r)).eval (zJj r from_ m x) = x.1.c r := encD_c hr4
 show Fx _ (pcDn ++ inR (L 1) (.var (2 + r)) (L 4096))
 refine .app (.app (zDw d1.toWBase h.mid encD_0 encD_1 fun i hi => encD_c hi) (.app (zAv ?_ ?_) (.app (.cons (nle_ok ?_) (.cons (zKv ?_) (.cons (zKv ?_) (.cons (zKv ?_) (.cons (zKv ?_) .nil))))) (zAv ?_ ?_)))) (zAv ?_ ?_)
 ·rw [v6]; exact p0
 ·rw [v6]; show _ ≤ (127 : Int); omega
 ·rw [v7, v8]; omega
 ·rw [v8]; show (0 : Int) ≤ _; omega
 ·rw [v8]; show _ ≤ (v 7).eval _ + (-1); rw [v7]; omega
 ·rw [v8]; show _ ≤ (4095 : Int); omega
 ·rw [v7]; show _ ≤ (4096 : Int); omega
 ·rw [v9]; exact d3
 ·rw [v9]; show _ ≤ zJj r from_ m x 0 + (-1); rw [encD_0]; omega
 ·rw [vr]; exact d10.1
 ·rw [vr]; exact d10.2
set_option maxHeartbeats 1000000 in
theorem down_proof [F : Facts] [V : zAc] {r : Nat} (hr1 : 1 ≤ r) (hr4 : r < 4) {n now w from_ m : SE} {c c' : C4} {K K' : K4} {q : Int → List Int} {s fin : WS} (hs : wsE V.env n now c w K = s) (h : WDn s q (r + 1)) (hm : zEh s)
  (hfrom : from_.eval V.env = placeOf r s.now) (hmany : m.eval V.env = s.many r) (hfin : WS.dnK r (s.many r) s = fin) (hc' : ∀ i, i < 4 → cE V.env c' i = fin.c i) (hK' : zEi (lkE V.env K') fin.k) : zAp Tryz.prog [] (dnS fns r n now c c' from_ m w K K') := by
 have hmany4 : s.many r ≤ 4096 := by
  obtain ⟨p0, p1, _⟩ := zBa (at_ := s.now) hr4
  have := h.rep.len p0 p1
  rw [h.toWBase.many hr4]
  omega
 obtain ⟨p0, p1, _⟩ := zBa (at_ := s.now) hr4
 have hkeep := dnK_keep (r := r) (m := s.many r) (s := s)
 rw [hfin] at hkeep
 have sn : n.eval V.env = s.n := by rw [← hs]; rfl
 have snow : now.eval V.env = s.now := by rw [← hs]; rfl
 have sc : ∀ i, cE V.env c i = s.c i := fun i => by rw [← hs]; rfl
 have sw : zAw V.env w = s.when_ := by rw [← hs]; rfl
 have sk : lkE V.env K = s.k := by rw [← hs]; rfl
 have E0 := fun y => @encD_0 r (placeOf r s.now) (s.many r) y
 have E1 := fun y => @encD_1 r (placeOf r s.now) (s.many r) y
 have E6 := fun y => @encD_6 r (placeOf r s.now) (s.many r) y
 have E7 := fun y => @encD_7 r (placeOf r s.now) (s.many r) y
 have E8 := fun y => @encD_8 r (placeOf r s.now) (s.many r) y
 have W := fun y => @encD_w r (placeOf r s.now) (s.many r) y
 have inv0 : DnInv r (s.many r) fin (s, 0) := ⟨Nat.zero_le _, ⟨q, h, by rw [h.toWBase.many hr4]; rfl⟩, hm, hfin⟩
 refine zFo (N := NN) (fuel := fuel) (dnS fns r n now c c' from_ m w K K') zFe (fx := [false, false, false, false, false, false, false]) (b0 := zEf zOs 3) isDown (fxDn r) (zCa rfl (goodDn r)) (σ := WS × Nat) (zJj r (placeOf r s.now) (s.many r)) 9 5 (by decide) (upsDn hr1 hr4) (Nat.le_refl _) (Nat.le_refl _)
  (I := fun μ i x => i = 0 ∧ DnInv r (s.many r) fin x ∧ μ = s.many r - x.2 ∧ x.1.n = s.n ∧ x.1.now = s.now ∧ x.1.when_ = s.when_) (Post := fun e j x => e = .exit 0 ∧ j = 1 ∧ x.2 = s.many r ∧ x.1 = fin) (fun B μ i x hI => ?_) (s.many r) (s, 0) ⟨rfl, inv0, rfl, rfl, rfl, rfl⟩ (encD_mid inv0 hr1 hr4 ⟨p0, p1⟩ hmany4) ?_ (fun e j x hp => ?_)
 ·obtain ⟨rfl, hinv, rfl, xn, xnow, xw⟩ := hI
  have hf : placeOf r s.now = placeOf r x.1.now := by rw [xnow]
  by_cases hlt : x.2 < s.many r
  ·obtain ⟨_, _, _, _, _, _, _, _, _, _, _, d12, _⟩ := hinv.go hr1 hr4 hlt
   have e2 : nx2 r (s.many r) x = x.1.dn1 r := if_pos hlt
   refine ⟨csDn r, (x.1.dn1 r, x.2 + 1), noLoops, zCg (csDn r).pc (dnFuns fns r), zDo B _ _ _ (fun V hV => dn_funs hinv hr1 hr4 hf hlt V hV), ?_, dn_facts hinv hr1 hr4 hf hmany4 hlt, Nat.le_refl _, Nat.le_refl _, encD_mid d12 hr1 hr4 ⟨p0, p1⟩ hmany4, ?_, .inl ⟨rfl, s.many r - (x.2 + 1), by omega, rfl, d12, rfl, xn, xnow, xw⟩⟩
   ·have := run_dn hr1 hr4
    exact this
   ·refine zBg (by decide) (by decide) (fun i hi => ?_) (fun a h1 h2 => ?_)
    ·have hd := fun j (hj : j < 4) => encD_d (r := r) (from_ := placeOf r s.now) (m := s.many r) (x := x) hj
     have hc := fun j (hj : j < 4) => encD_c (r := r) (from_ := placeOf r s.now) (m := s.many r) (x := (x.1.dn1 r, x.2 + 1)) hj
     rw [e2] at hd
     rcases (show i = 0 ∨ i = 1 ∨ i = 2 ∨ i = 3 ∨ i = 4 ∨ i = 5 ∨ i = 6 ∨ i = 7 ∨ i = 8 by omega) with rfl | rfl | rfl | rfl | rfl | rfl | rfl | rfl | rfl
     ·exact (E0 x).trans (E0 (x.1.dn1 r, x.2 + 1)).symm
     ·exact (E1 x).trans (E1 (x.1.dn1 r, x.2 + 1)).symm
     ·exact (hd 0 (by decide)).trans (hc 0 (by decide)).symm
     ·exact (hd 1 (by decide)).trans (hc 1 (by decide)).symm
     ·exact (hd 2 (by decide)).trans (hc 2 (by decide)).symm
     ·exact (hd 3 (by decide)).trans (hc 3 (by decide)).symm
     ·exact (E6 x).trans (E6 (x.1.dn1 r, x.2 + 1)).symm
     ·exact (E7 x).trans (E7 (x.1.dn1 r, x.2 + 1)).symm
     ·refine Eq.trans ?_ (E8 (x.1.dn1 r, x.2 + 1)).symm
      show (v 8).eval _ + 1 = ((x.2 + 1 : Nat) : Int)
      rw [show (v 8).eval (zJj r (placeOf r s.now) (s.many r) x) = x.2 from encD_8]
      omega
    ·have k2 := encD_k2 (r := r) (from_ := placeOf r s.now) (m := s.many r) (x := x)
     rw [e2] at k2
     have k := encD_k (r := r) (from_ := placeOf r s.now) (m := s.many r) (x := (x.1.dn1 r, x.2 + 1))
     rcases (show a = 128 ∨ a = 129 ∨ a = 130 ∨ a = 131 ∨ a = 132 by omega) with rfl | rfl | rfl | rfl | rfl
     ·rw [show (csDn r).gv 128 = .tab 128 from rfl, zFb]
      exact (W x).trans (W (x.1.dn1 r, x.2 + 1)).symm
     ·rw [show (csDn r).gv 129 = .tab 137 from rfl, zFb]
      exact k2.N.trans k.N.symm
     ·rw [show (csDn r).gv 130 = .tab 138 from rfl, zFb]
      exact k2.B.trans k.B.symm
     ·rw [show (csDn r).gv 131 = .tab 139 from rfl, zFb]
      exact k2.L.trans k.L.symm
     ·rw [show (csDn r).gv 132 = .tab 140 from rfl, zFb]
      exact k2.C.trans k.C.symm
  ·have hi := hinv.i
   have hx2 : x.2 = s.many r := by omega
   refine ⟨csDnE, x, noLoops, zCg csDnE.pc [], zDo B _ _ _ (fun V hV S hS => by cases hS), ?_, ?_, Nat.zero_le _, Nat.zero_le _, encD_mid hinv hr1 hr4 ⟨p0, p1⟩ hmany4, ?_, .inr ⟨by simp [csDnE], rfl, rfl, hx2, ?_⟩⟩
   ·have := run_dnE hr1 hr4
    exact this
   ·obtain ⟨q, d1, _⟩ := hinv.q
    show Fx (zJj r (placeOf r s.now) (s.many r) x) (pcW ++ [le (v 7) (v 8)])
    refine .app (zDw d1.toWBase hinv.mid encD_0 encD_1 fun i hi => encD_c hi) (zEb (zKv ?_))
    rw [show (v 7).eval (zJj r (placeOf r s.now) (s.many r) x) = s.many r from encD_7, show (v 8).eval (zJj r (placeOf r s.now) (s.many r) x) = x.2 from encD_8]
    omega
   ·exact zBg (by decide) (by decide) (fun i hi => rfl) (fun a h1 h2 => zAg.refl _)
   ·have := hinv.fin
    rw [hx2, Nat.sub_self] at this
    exact this
 ·obtain ⟨a0, a1, a2, a3, a4⟩ := zLi (n := n) (now := now) (c := c) (w := w) (K := K) (f := fD n now c from_ m (L 0)) (g1 := []) (env := V.env) rfl
  have k := encD_k (r := r) (from_ := placeOf r s.now) (m := s.many r) (x := (s, 0))
  have hc := fun j (hj : j < 4) => encD_c (r := r) (from_ := placeOf r s.now) (m := s.many r) (x := (s, 0)) hj
  refine zBg (by decide) (by decide) (fun i hi => ?_) (fun a h1 h2 => ?_)
  ·rcases (show i = 0 ∨ i = 1 ∨ i = 2 ∨ i = 3 ∨ i = 4 ∨ i = 5 ∨ i = 6 ∨ i = 7 ∨ i = 8 by omega) with rfl | rfl | rfl | rfl | rfl | rfl | rfl | rfl | rfl
   ·exact sn.trans (E0 (s, 0)).symm
   ·exact snow.trans (E1 (s, 0)).symm
   ·exact (sc 0).trans (hc 0 (by decide)).symm
   ·exact (sc 1).trans (hc 1 (by decide)).symm
   ·exact (sc 2).trans (hc 2 (by decide)).symm
   ·exact (sc 3).trans (hc 3 (by decide)).symm
   ·exact hfrom.trans (E6 (s, 0)).symm
   ·exact hmany.trans (E7 (s, 0)).symm
   ·exact Eq.trans (show (L 0).eval V.env = ((0 : Nat) : Int) from rfl) (E8 (s, 0)).symm
  ·rcases (show a = 128 ∨ a = 129 ∨ a = 130 ∨ a = 131 ∨ a = 132 by omega) with rfl | rfl | rfl | rfl | rfl
   ·exact (show zAg (zAw V.env w) s.when_ by rw [sw]; exact .refl _).trans (W (s, 0)).symm
   ·exact (show zAg (lkE V.env K).N s.k.N by rw [sk]; exact .refl _).trans k.N.symm
   ·exact (show zAg (lkE V.env K).B s.k.B by rw [sk]; exact .refl _).trans k.B.symm
   ·exact (show zAg (lkE V.env K).L s.k.L by rw [sk]; exact .refl _).trans k.L.symm
   ·exact (show zAg (lkE V.env K).C s.k.C by rw [sk]; exact .refl _).trans k.C.symm
 ·obtain ⟨rfl, rfl, hx2, hx1⟩ := hp
  refine ⟨0, ⟨.exit 0, 1, fD n now c' from_ m m, gW w K'⟩, rfl, rfl, rfl, Nat.le_refl _, Nat.le_refl _, zEa ?_⟩
  have k := encD_k (r := r) (from_ := placeOf r s.now) (m := s.many r) (x := x)
  have hc := fun j (hj : j < 4) => encD_c (r := r) (from_ := placeOf r s.now) (m := s.many r) (x := x) hj
  have hw := encD_w (r := r) (from_ := placeOf r s.now) (m := s.many r) (x := x)
  rw [hx1] at k hc hw
  refine zBg (by decide) (by decide) (fun i hi => ?_) (fun a h1 h2 => ?_)
  ·rcases (show i = 0 ∨ i = 1 ∨ i = 2 ∨ i = 3 ∨ i = 4 ∨ i = 5 ∨ i = 6 ∨ i = 7 ∨ i = 8 by omega) with rfl | rfl | rfl | rfl | rfl | rfl | rfl | rfl | rfl
   ·exact (sn.trans (hkeep.1.symm.trans (by rw [hx1]))).trans (E0 x).symm
   ·exact (snow.trans (hkeep.2.1.symm.trans (by rw [hx1]))).trans (E1 x).symm
   ·exact (hc' 0 (by decide)).trans (hc 0 (by decide)).symm
   ·exact (hc' 1 (by decide)).trans (hc 1 (by decide)).symm
   ·exact (hc' 2 (by decide)).trans (hc 2 (by decide)).symm
   ·exact (hc' 3 (by decide)).trans (hc 3 (by decide)).symm
   ·exact hfrom.trans (E6 x).symm
   ·exact hmany.trans (E7 x).symm
   ·exact (hmany.trans (by rw [hx2])).trans (E8 x).symm
  ·rcases (show a = 128 ∨ a = 129 ∨ a = 130 ∨ a = 131 ∨ a = 132 by omega) with rfl | rfl | rfl | rfl | rfl
   ·exact (show zAg (zAw V.env w) fin.when_ by rw [sw, hkeep.2.2]; exact .refl _).trans hw.symm
   ·exact hK'.N.trans k.N.symm
   ·exact hK'.B.trans k.B.symm
   ·exact hK'.L.trans k.L.symm
   ·exact hK'.C.trans k.C.symm
end Go.Proofs.YtaliacnncemneaaGreat.wheels
namespace Go.Proofs.Wheels
def zAs (l : List Int) : TT := fun r c => if c = 0 then (l[r]?).getD 0 else 0
theorem zBf {l : List Int} (h : ∀ x ∈ l, Abs.In64 x) : zDc (zAs l) := fun r c _ => by
 have z : Abs.In64 0 := by unfold Abs.In64; omega
 unfold zAs
 split
 ·cases e : l[r]? with
  | none => exact z
  | some x => exact h x (List.mem_of_getElem? e)
 ·exact z
theorem zMl : zAs [] = fun _ _ => 0 := by
 funext r c
 unfold zAs
 split <;> rfl
def plc (l : List Int) (b : Int) (i : Nat) : Int := ((l ++ [b])[i]?).getD 0
theorem plc_in {l : List Int} {b : Int} {i : Nat} (h : i < l.length) : l[i]? = some (plc l b i) := by
 unfold plc
 rw [List.getElem?_append_left h, List.getElem?_eq_getElem h]
 rfl
theorem plc_end {l : List Int} {b : Int} : plc l b l.length = b := by
 unfold plc
 rw [List.getElem?_append_right (Nat.le_refl _), Nat.sub_self]
 rfl
theorem seg_plc {N B : TT} : ∀ {l : List Int} {a b : Int}, Seg N B a l b → g0 N a = plc l b 0 ∧ ∀ i, i < l.length → g0 N (plc l b i) = plc l b (i + 1) := by
 intro l
 induction l with
 | nil => intro a b h; exact ⟨h.1, fun i hi => by simp at hi⟩
 | cons x l ih =>
  intro a b h
  obtain ⟨h1, h2, h3⟩ := h
  obtain ⟨g1, g2⟩ := ih h3
  refine ⟨h1, fun i hi => ?_⟩
  cases i with
  | zero => exact g1
  | succ i => exact g2 i (by simpa using hi)
theorem take_more {l : List Int} {b : Int} {i : Nat} (h : i < l.length) : l.take (i + 1) = l.take i ++ [plc l b i] := by
 rw [List.take_add_one, plc_in (b := b) h]
 rfl
theorem zKn {l : List Int} {x : Int} : zAs (l ++ [x]) = fun (r c : Nat) => if (r : Int) < l.length then zAs l r c else (if (r : Int) - l.length = 0 ∧ c = 0 then x else 0) := by
 funext r c
 unfold zAs
 by_cases hr : (r : Int) < l.length
 ·rw [if_pos hr, List.getElem?_append_left (by omega)]
 ·rw [if_neg hr]
  by_cases hc : c = 0
  ·rw [if_pos hc, List.getElem?_append_right (by omega)]
   by_cases e : (r : Int) - l.length = 0
   ·rw [if_pos ⟨e, hc⟩, show r - l.length = 0 by omega]; rfl
   ·rw [if_neg (fun h => e h.1), List.getElem?_eq_none (by simp; omega)]; rfl
  ·rw [if_neg hc, if_neg (fun h => hc h.2)]
end Go.Proofs.Wheels
namespace Go.Proofs.YtaliacnncemneaaGreat.wheels
open Go.Abs Go.Proofs.Wheels
theorem isAll : ((Tryz.prog.funcs[zGc]?).bind (·.body)).map (fun c => zBm 3 (subs c)) = some [zEf zGc 3] := by kernel_rfl
theorem fxA : zAl (shA fns abK) 7 [true, true, true, true, false, false, false] := fun i => by
 rcases i with _ | _ | _ | i <;> exact ⟨by show (7 : Nat) ≤ _; first | exact Nat.le_refl 7 | exact Nat.le_succ 7, rfl, rfl⟩
set_option maxRecDepth 100000
theorem goodA2 : zBk PG (shA fns abK 2) = true := by kernel_rfl
theorem goodA3 : zBk PG (shA fns abK 3) = true := by kernel_rfl
theorem upsA : ∀ i, (shA fns abK i).ups 9 6 = true := fun i => by rcases i with _ | _ | _ | i <;> kernel_rfl
def zT : TT := fun _ _ => 0
def zLr (n l : Int) (N : TT) (ql : List Int) (i : Nat) : Nat → Int := zCb [n, 0, 0, 0, 0, 0, l, i, plc ql (n + l) i] [zT, N, zT, zT, zT, zAs (ql.take i)]
section
variable {n l : Int} {N : TT} {ql : List Int}
theorem encA_N (i : Nat) : zAg (zFl (zLr n l N ql i) 129) N := zAq rfl (by decide) (by decide)
theorem encA_T (i : Nat) : zAg (zFl (zLr n l N ql i) 133) (zAs (ql.take i)) := zAq rfl (by decide) (by decide)
theorem zLe (i : Nat) {a : Nat} (h : a = 128 ∨ a = 130 ∨ a = 131 ∨ a = 132) : zAg (zFl (zLr n l N ql i) a) zT := by
 rcases h with rfl | rfl | rfl | rfl <;> exact zAq rfl (by decide) (by decide)
theorem encA_0 (i : Nat) : zLr n l N ql i 0 = n := zAu rfl (by decide)
theorem encA_6 (i : Nat) : zLr n l N ql i 6 = l := zAu rfl (by decide)
theorem encA_7 (i : Nat) : zLr n l N ql i 7 = i := zAu rfl (by decide)
theorem encA_8 (i : Nat) : zLr n l N ql i 8 = plc ql (n + l) i := zAu rfl (by decide)
theorem zJg (i : Nat) {j : Nat} (h : 1 ≤ j ∧ j ≤ 5) : zLr n l N ql i j = 0 := by
 rcases (show j = 1 ∨ j = 2 ∨ j = 3 ∨ j = 4 ∨ j = 5 by omega) with rfl | rfl | rfl | rfl | rfl <;> exact zAu rfl (by decide)
end
structure zOf (n l : Int) (N : TT) (ql : List Int) : Prop where
 hn : 1 ≤ n ∧ n ≤ 4096
 hl : 0 ≤ l ∧ l < 128
 seg : ∀ i, i < ql.length → g0 N (plc ql (n + l) i) = plc ql (n + l) (i + 1)
 th : ∀ t ∈ ql, 0 ≤ t ∧ t < n
 len : ql.length ≤ 4096
 mid : zDc N
section
variable {n l : Int} {N : TT} {ql : List Int}
theorem zOf.at_ (h : zOf n l N ql) {i : Nat} (hi : i ≤ ql.length) : (i < ql.length → 0 ≤ plc ql (n + l) i ∧ plc ql (n + l) i < n) ∧ (i = ql.length → Wheels.plc ql (n + l) i = n + l) := by
 refine ⟨fun hlt => h.th _ (List.mem_of_getElem? (plc_in (b := n + l) hlt)), fun e => by rw [e]; exact plc_end⟩
theorem zOf.encM (h : zOf n l N ql) {i : Nat} (hi : i ≤ ql.length) : ∀ j, In64 (zLr n l N ql i j) := by
 have hn := h.hn; have hl := h.hl; have hlen := h.len
 have hp := h.at_ hi
 have z : In64 0 := i64 (by omega) (by omega)
 refine zMv (fun y hy => ?_) (fun T hT => ?_)
 ·simp only [List.mem_cons, List.not_mem_nil, or_false] at hy
  rcases hy with rfl | rfl | rfl | rfl | rfl | rfl | rfl | rfl | rfl
  ·exact i64 (by omega) (by omega)
  ·exact z
  ·exact z
  ·exact z
  ·exact z
  ·exact z
  ·exact i64 (by omega) (by omega)
  ·exact i64 (by omega) (by omega)
  ·by_cases e : i < ql.length
   ·have := hp.1 e; exact i64 (by omega) (by omega)
   ·rw [hp.2 (by omega)]; exact i64 (by omega) (by omega)
 ·simp only [List.mem_cons, List.not_mem_nil, or_false] at hT
  have hz : zDc zT := fun _ _ _ => z
  rcases hT with rfl | rfl | rfl | rfl | rfl | rfl
  ·exact hz
  ·exact h.mid
  ·exact hz
  ·exact hz
  ·exact hz
  ·exact zBf fun y hy => by
    have := h.th y (List.mem_of_mem_take hy)
    exact i64 (by omega) (by omega)
theorem zOf.facts (h : zOf n l N ql) {i : Nat} (hi : i < ql.length) : Fx (zLr n l N ql i) (pcA ++ [ne (v 8) endA]) := by
 have hn := h.hn; have hl := h.hl; have hlen := h.len
 have hp := (h.at_ (Nat.le_of_lt hi)).1 hi
 have e0 := encA_0 (n := n) (l := l) (N := N) (ql := ql) i
 have e6 : (v 6).eval (zLr n l N ql i) = l := encA_6 i
 have e7 : (v 7).eval (zLr n l N ql i) = i := encA_7 i
 have e8 : (v 8).eval (zLr n l N ql i) = plc ql (n + l) i := encA_8 i
 refine .app (.app (zOj (by omega) (by omega)) (.app (zAv ?_ ?_) (.app (zAv ?_ ?_) (zAv ?_ ?_)))) (zEb (ne_ok ?_))
 ·rw [e6]; exact hl.1
 ·rw [e6]; show _ ≤ (127 : Int); omega
 ·rw [e7]; show (0 : Int) ≤ _; omega
 ·rw [e7]; show _ ≤ (4095 : Int); omega
 ·rw [e8]; exact hp.1
 ·rw [e8]; show _ ≤ zLr n l N ql i 0 + 127; omega
 ·rw [e8]; show _ ≠ zLr n l N ql i 0 + (v 6).eval _; rw [e6]; omega
theorem zOf.factsE (h : zOf n l N ql) : Fx (zLr n l N ql ql.length) pcAE := by
 have hn := h.hn; have hl := h.hl
 have e0 := encA_0 (n := n) (l := l) (N := N) (ql := ql) ql.length
 have e6 : (v 6).eval (zLr n l N ql ql.length) = l := encA_6 _
 have e8 : (v 8).eval (zLr n l N ql ql.length) = plc ql (n + l) ql.length := encA_8 _
 refine .app (zOj (by omega) (by omega)) (.app (zAv ?_ ?_) (zEb (eq_ok ?_)))
 ·rw [e6]; exact hl.1
 ·rw [e6]; show _ ≤ (127 : Int); omega
 ·rw [e8, plc_end]; show _ = zLr n l N ql ql.length 0 + (v 6).eval _; rw [e6, e0]
theorem zOf.x (h : zOf n l N ql) {i : Nat} (hi : i < ql.length) : (sel 129 (v 8)).eval (zLr n l N ql i) = plc ql (n + l) (i + 1) := by
 refine (zBv _ 129 (v 8)).trans ?_
 rw [show (v 8).eval (zLr n l N ql i) = plc ql (n + l) i from encA_8 i, (encA_N i).g]
 exact h.seg i hi
theorem oneE_row (env : Nat → Int) (x : SE) : zAw env (oneE x) = fun (r c : Nat) => if (r : Int) = 0 ∧ c = 0 then x.eval env else 0 := rfl
theorem zOf.step (h : zOf n l N ql) {i : Nat} (hi : i < ql.length) {c : Case} (hf : c.f = [.var 0, .var 1, .var 2, .var 3, .var 4, .var 5, .var 6, add (v 7) (L 1), sel 129 (v 8)] ∨ (i = 0 ∧ c.f = [.var 0, .var 1, .var 2, .var 3, .var 4, .var 5, .var 6, L 1, sel 129 (v 8)]))
  (hg : c.g = [.tab 128, .tab 129, .tab 130, .tab 131, .tab 132, .cat (.tab 133) (v 7) (oneE (v 8))] ∨ (i = 0 ∧ c.g = [.tab 128, .tab 129, .tab 130, .tab 131, .tab 132, oneE (v 8)])) : zCq 9 6 (c.next (zLr n l N ql i)) (zLr n l N ql (i + 1)) := by
 have e7 : (v 7).eval (zLr n l N ql i) = i := encA_7 i
 have e8 : (v 8).eval (zLr n l N ql i) = plc ql (n + l) i := encA_8 i
 refine zBg (by decide) (by decide) (fun j hj => ?_) (fun a h1 h2 => ?_)
 ·have key : ∀ e, c.f[j]? = some e → (c.fv j) = e := fun e he => by unfold Case.fv; rw [he]; rfl
  have f7 : (c.fv 7).eval (zLr n l N ql i) = ((i + 1 : Nat) : Int) := by
   rcases hf with hf | ⟨rfl, hf⟩
   ·rw [show c.fv 7 = add (v 7) (L 1) by unfold Case.fv; rw [hf]; rfl]
    show (v 7).eval _ + 1 = _
    rw [e7]; omega
   ·rw [show c.fv 7 = L 1 by unfold Case.fv; rw [hf]; rfl]
    rfl
  have fj : ∀ e, ([.var 0, .var 1, .var 2, .var 3, .var 4, .var 5, .var 6] : List SE)[j]? = some e → c.fv j = e := fun e he => by
   refine key e ?_
   have hj7 : j < 7 := by
    have := (List.getElem?_eq_some_iff.1 he).1
    simpa using this
   rcases hf with hf | ⟨_, hf⟩ <;> rw [hf] <;> rw [← he] <;> rcases (show j = 0 ∨ j = 1 ∨ j = 2 ∨ j = 3 ∨ j = 4 ∨ j = 5 ∨ j = 6 by omega) with rfl | rfl | rfl | rfl | rfl | rfl | rfl <;> rfl
  rcases (show j = 0 ∨ (1 ≤ j ∧ j ≤ 5) ∨ j = 6 ∨ j = 7 ∨ j = 8 by omega) with rfl | hj | rfl | rfl | rfl
  ·rw [fj _ rfl]; exact (encA_0 i).trans (encA_0 (i + 1)).symm
  ·have : c.fv j = .var j := by
    rcases (show j = 1 ∨ j = 2 ∨ j = 3 ∨ j = 4 ∨ j = 5 by omega) with rfl | rfl | rfl | rfl | rfl <;> exact fj _ rfl
   rw [this]
   exact (zJg i hj).trans (zJg (i + 1) hj).symm
  ·rw [fj _ rfl]; exact (encA_6 i).trans (encA_6 (i + 1)).symm
  ·exact f7.trans (encA_7 (i + 1)).symm
  ·have : c.fv 8 = sel 129 (v 8) := by
    refine key _ ?_
    rcases hf with hf | ⟨_, hf⟩ <;> rw [hf] <;> rfl
   rw [this, h.x hi]
   exact (encA_8 (i + 1)).symm
 ·have gj : ∀ k, k < 5 → c.gv (128 + k) = .tab (128 + k) := fun k hk => by
   unfold Case.gv
   rcases hg with hg | ⟨_, hg⟩ <;> rw [hg] <;> rcases (show k = 0 ∨ k = 1 ∨ k = 2 ∨ k = 3 ∨ k = 4 by omega) with rfl | rfl | rfl | rfl | rfl <;> rfl
  rcases (show a = 129 ∨ (a = 128 ∨ a = 130 ∨ a = 131 ∨ a = 132) ∨ a = 133 by omega) with rfl | ha | rfl
  ·rw [gj 1 (by decide)]
   exact (encA_N i).trans (encA_N (i + 1)).symm
  ·have : c.gv a = .tab a := by
    rcases ha with rfl | rfl | rfl | rfl
    ·exact gj 0 (by decide)
    ·exact gj 2 (by decide)
    ·exact gj 3 (by decide)
    ·exact gj 4 (by decide)
   rw [this]
   exact (zLe i ha).trans (zLe (i + 1) ha).symm
  ·refine zAg.trans ?_ (encA_T (i + 1)).symm
   rw [take_more (b := n + l) hi, zKn, List.length_take, Nat.min_eq_left (Nat.le_of_lt hi)]
   rcases hg with hg | ⟨rfl, hg⟩
   ·rw [show c.gv 133 = .cat (.tab 133) (v 7) (oneE (v 8)) by unfold Case.gv; rw [hg]; rfl]
    intro r cc hcc
    show (if (r : Int) < (v 7).eval (zLr n l N ql i) then zFl (zLr n l N ql i) 133 r cc else (if (r : Int) - (v 7).eval (zLr n l N ql i) = 0 ∧ cc = 0 then (v 8).eval (zLr n l N ql i) else 0)) = _
    rw [e7, e8, encA_T i r cc hcc]
   ·rw [show c.gv 133 = oneE (v 8) by unfold Case.gv; rw [hg]; rfl, oneE_row]
    intro r cc hcc
    rw [e8]
    show (if (r : Int) = 0 ∧ cc = 0 then plc ql (n + l) 0 else 0) = if (r : Int) < ((0 : Nat) : Int) then zAs (List.take 0 ql) r cc else if (r : Int) - ((0 : Nat) : Int) = 0 ∧ cc = 0 then plc ql (n + l) 0 else 0
    rw [if_neg (show ¬ (r : Int) < ((0 : Nat) : Int) by omega)]
    simp
end
theorem all_proof [F : Facts] [V : zAc] {n l x m N T : SE} {some_ : Bool} {ql : List Int} (h : zOf (n.eval V.env) (l.eval V.env) (zAw V.env N) ql) (hx : x.eval V.env = plc ql (n.eval V.env + l.eval V.env) 0) (hm : m.eval V.env = ql.length)
  (hT : zAg (zAw V.env T) (zAs ql)) (hs : some_ = true ↔ ql ≠ []) : zAp Tryz.prog [] (allS fns abK n l x m N T some_) := by
 obtain ⟨E, hE⟩ : ∃ E, E = zLr (n.eval V.env) (l.eval V.env) (zAw V.env N) ql := ⟨_, rfl⟩
 have hsj : (bif some_ then 3 else 2 : Nat) = if ql.length = 0 then 2 else 3 := by
  cases hb : some_ with
  | true =>
   have := hs.1 hb
   rw [if_neg (by simpa using this)]; rfl
  | false =>
   have : ql = [] := by
    apply Classical.byContradiction
    intro hne
    have := hs.2 hne
    rw [hb] at this; cases this
   rw [this]; rfl
 have hgood : (allS fns abK n l x m N T some_).good Tryz.prog.globals.size = true := by
  refine zCa (o := ⟨.exit 0, bif some_ then 3 else 2, fA n l m (add n l), gA N T⟩) rfl ?_
  cases some_
  ·exact goodA2
  ·exact goodA3
 refine zFo (N := NN) (fuel := fuel) (allS fns abK n l x m N T some_) zFe (fx := [true, true, true, true, false, false, false]) (b0 := zEf zGc 3) isAll fxA hgood (σ := Nat) E 9 6 (by decide) upsA (Nat.le_refl _) (Nat.le_refl _)
  (I := fun μ j i => ((j = 0 ∧ i = 0) ∨ (j = 1 ∧ 1 ≤ i ∧ i ≤ ql.length)) ∧ μ = ql.length - i) (Post := fun e j i => e = .exit 0 ∧ i = ql.length ∧ j = if ql.length = 0 then 2 else 3) (fun B μ j i hI => ?_) ql.length 0 ⟨.inl ⟨rfl, rfl⟩, rfl⟩ (by rw [hE]; exact h.encM (Nat.zero_le _)) ?_ (fun e j i hp => ?_)
 ·subst hE
  obtain ⟨hj, rfl⟩ := hI
  have hi : i ≤ ql.length := by rcases hj with ⟨_, rfl⟩ | ⟨_, _, hi⟩ <;> omega
  by_cases hlt : i < ql.length
  ·rcases hj with ⟨rfl, rfl⟩ | ⟨rfl, h1, _⟩
   ·refine ⟨csA0 PG, 1, noLoops, zCg (csA0 PG).pc [], zDo B _ _ _ (fun V hV S hS => by cases hS), ?_, h.facts hlt, Nat.le_refl _, Nat.le_refl _, h.encM hlt, h.step hlt (.inr ⟨rfl, rfl⟩) (.inr ⟨rfl, rfl⟩), .inl ⟨rfl, ql.length - 1, by omega, .inr ⟨rfl, Nat.le_refl _, hlt⟩, rfl⟩⟩
    have := run_a0
    exact this
   ·refine ⟨csA1 PG, i + 1, noLoops, zCg (csA1 PG).pc [], zDo B _ _ _ (fun V hV S hS => by cases hS), ?_, h.facts hlt, Nat.le_refl _, Nat.le_refl _, h.encM hlt, h.step hlt (.inl rfl) (.inl rfl), .inl ⟨rfl, ql.length - (i + 1), by omega, .inr ⟨rfl, by omega, hlt⟩, rfl⟩⟩
    have := run_a1
    exact this
  ·have hie : i = ql.length := by omega
   subst hie
   rcases hj with ⟨rfl, h0⟩ | ⟨rfl, h1, _⟩
   ·refine ⟨csAE 2, ql.length, noLoops, zCg (csAE 2).pc [], zDo B _ _ _ (fun V hV S hS => by cases hS), ?_, h.factsE, Nat.zero_le _, Nat.zero_le _, h.encM (Nat.le_refl _), zBg (by decide) (by decide) (fun i hi => rfl) (fun a h1 h2 => zAg.refl _), .inr ⟨by simp [csAE], rfl, rfl, by rw [if_pos h0]; rfl⟩⟩
    have := run_aE0
    exact this
   ·refine ⟨csAE 3, ql.length, noLoops, zCg (csAE 3).pc [], zDo B _ _ _ (fun V hV S hS => by cases hS), ?_, h.factsE, Nat.zero_le _, Nat.zero_le _, h.encM (Nat.le_refl _), zBg (by decide) (by decide) (fun i hi => rfl) (fun a h1 h2 => zAg.refl _), .inr ⟨by simp [csAE], rfl, rfl, by rw [if_neg (by omega)]; rfl⟩⟩
    have := run_aE1
    exact this
 ·subst hE
  refine zBg (by decide) (by decide) (fun i hi => ?_) (fun a h1 h2 => ?_)
  ·rcases (show i = 0 ∨ i = 1 ∨ i = 2 ∨ i = 3 ∨ i = 4 ∨ i = 5 ∨ i = 6 ∨ i = 7 ∨ i = 8 by omega) with rfl | rfl | rfl | rfl | rfl | rfl | rfl | rfl | rfl
   ·exact (encA_0 0).symm
   ·exact (zJg 0 (by decide)).symm
   ·exact (zJg 0 (by decide)).symm
   ·exact (zJg 0 (by decide)).symm
   ·exact (zJg 0 (by decide)).symm
   ·exact (zJg 0 (by decide)).symm
   ·exact (encA_6 0).symm
   ·exact (encA_7 0).symm
   ·exact hx.trans (encA_8 0).symm
  ·rcases (show a = 128 ∨ a = 129 ∨ a = 130 ∨ a = 131 ∨ a = 132 ∨ a = 133 by omega) with rfl | rfl | rfl | rfl | rfl | rfl
   ·exact (zLe 0 (.inl rfl)).symm
   ·exact (encA_N 0).symm
   ·exact (zLe 0 (.inr (.inl rfl))).symm
   ·exact (zLe 0 (.inr (.inr (.inl rfl)))).symm
   ·exact (zLe 0 (.inr (.inr (.inr rfl)))).symm
   ·refine zAg.trans ?_ (encA_T 0).symm
    rw [List.take_zero, zMl]
    exact zAg.refl _
 ·subst hE
  obtain ⟨rfl, rfl, rfl⟩ := hp
  refine ⟨0, ⟨.exit 0, bif some_ then 3 else 2, fA n l m (add n l), gA N T⟩, rfl, rfl, hsj, Nat.le_refl _, Nat.le_refl _, zEa ?_⟩
  refine zBg (by decide) (by decide) (fun i hi => ?_) (fun a h1 h2 => ?_)
  ·rcases (show i = 0 ∨ i = 1 ∨ i = 2 ∨ i = 3 ∨ i = 4 ∨ i = 5 ∨ i = 6 ∨ i = 7 ∨ i = 8 by omega) with rfl | rfl | rfl | rfl | rfl | rfl | rfl | rfl | rfl
   ·exact (encA_0 _).symm
   ·exact (zJg _ (by decide)).symm
   ·exact (zJg _ (by decide)).symm
   ·exact (zJg _ (by decide)).symm
   ·exact (zJg _ (by decide)).symm
   ·exact (zJg _ (by decide)).symm
   ·exact (encA_6 _).symm
   ·exact hm.trans (encA_7 _).symm
   ·exact (show n.eval V.env + l.eval V.env = plc ql (n.eval V.env + l.eval V.env) ql.length from plc_end.symm).trans (encA_8 _).symm
  ·rcases (show a = 128 ∨ a = 129 ∨ a = 130 ∨ a = 131 ∨ a = 132 ∨ a = 133 by omega) with rfl | rfl | rfl | rfl | rfl | rfl
   ·exact (zLe _ (.inl rfl)).symm
   ·exact (encA_N _).symm
   ·exact (zLe _ (.inr (.inl rfl))).symm
   ·exact (zLe _ (.inr (.inr (.inl rfl)))).symm
   ·exact (zLe _ (.inr (.inr (.inr rfl)))).symm
   ·refine hT.trans (zAg.symm ?_)
    have := encA_T (n := n.eval V.env) (l := l.eval V.env) (N := zAw V.env N) (ql := ql) ql.length
    rw [List.take_length] at this
    exact this
theorem isWake : ((Tryz.prog.funcs[fTick]?).bind (·.body)).map (fun c => zBm 15 (subs c)) = some [zEf fTick 15] := by kernel_rfl
theorem fxK : zAl (shK PG) 9 [false, false, false, false, false, false, false, false, false] := fun i => by rcases i with _ | i <;> exact ⟨Nat.le_refl _, rfl, rfl⟩
set_option maxRecDepth 100000
theorem goodK : zBk PG (shK PG 1) = true := by kernel_rfl
theorem upsK : ∀ i, (shK PG i).ups 8 6 = true := fun i => by rcases i with _ | i <;> kernel_rfl
def idAt (ql : List Int) (i : Nat) : Int := (ql[i]?).getD 0
def nxO (ql : List Int) (x : WS × Nat) : WS := if x.2 < ql.length then x.1.out (idAt ql x.2) else x.1
def zNv (ql : List Int) (x : WS × Nat) : Nat → Int :=
 zCb ([x.1.n, x.1.now] ++ (x.1.cs ++ ([(ql.length : Int), x.2] ++ (nxO ql x).cs))) ([x.1.when_] ++ (x.1.k.list ++ ([zAs ql] ++ (nxO ql x).k.list)))
section
variable {ql : List Int} (x : WS × Nat)
theorem encK_k : zEi (lkT (zNv ql x) 129) x.1.k := lk_enc (pre := [x.1.when_]) rfl (by decide)
theorem encK_k1 : zEi (lkT (zNv ql x) 134) (nxO ql x).k := by
 unfold zNv
 rw [← List.append_assoc, ← List.append_assoc, ← List.append_nil (nxO ql x).k.list]
 exact lk_enc (pre := ([x.1.when_] ++ x.1.k.list) ++ [zAs ql]) (by rfl) (by decide)
theorem encK_w : zAg (zFl (zNv ql x) 128) x.1.when_ := zAq rfl (by decide) (by decide)
theorem encK_T : zAg (zFl (zNv ql x) 133) (zAs ql) := zAq rfl (by decide) (by decide)
theorem zMx : zNv ql x 0 = x.1.n := zAu rfl (by decide)
theorem encK_1 : zNv ql x 1 = x.1.now := zAu rfl (by decide)
theorem zMw {i : Nat} (hi : i < 4) : zNv ql x (2 + i) = x.1.c i := by
 rcases (show i = 0 ∨ i = 1 ∨ i = 2 ∨ i = 3 by omega) with rfl | rfl | rfl | rfl <;> exact zAu rfl (by decide)
theorem encK_6 : zNv ql x 6 = ql.length := zAu rfl (by decide)
theorem encK_7 : zNv ql x 7 = x.2 := zAu rfl (by decide)
theorem encK_d {i : Nat} (hi : i < 4) : zNv ql x (8 + i) = (nxO ql x).c i := by
 rcases (show i = 0 ∨ i = 1 ∨ i = 2 ∨ i = 3 by omega) with rfl | rfl | rfl | rfl <;> exact zAu rfl (by decide)
theorem encK_id : idK.eval (zNv ql x) = idAt ql x.2 := by
 refine (zBv _ 133 (v 7)).trans ?_
 rw [show (v 7).eval (zNv ql x) = x.2 from encK_7 x, (encK_T x).g]
 unfold g0 zAs idAt
 rw [if_pos rfl, Int.toNat_natCast]
end
structure KInv (ql : List Int) (fin : WS) (x : WS × Nat) : Prop where
 i : x.2 ≤ ql.length
 q : ∃ q, WWk x.1 q (ql.drop x.2)
 mid : zEh x.1
 fin : WS.wakes (ql.drop x.2) x.1 = fin
theorem KInv.go {ql : List Int} {fin : WS} {x : WS × Nat} (h : KInv ql fin x) (hlt : x.2 < ql.length) :
  ∃ q, WBase x.1 q ∧ (0 ≤ idAt ql x.2 ∧ idAt ql x.2 < x.1.n) ∧ g0 x.1.k.L (idAt ql x.2) ≠ -1 ∧ WBase (x.1.out (idAt ql x.2)) (fun m => (q m).erase (idAt ql x.2)) ∧ zEh (x.1.out (idAt ql x.2)) ∧ KInv ql fin (x.1.wake (idAt ql x.2), x.2 + 1) := by
 obtain ⟨q, h1⟩ := h.q
 have hd : ql.drop x.2 = idAt ql x.2 :: ql.drop (x.2 + 1) := by
  rw [List.drop_eq_getElem_cons hlt]
  unfold idAt
  rw [List.getElem?_eq_getElem hlt]
  rfl
 rw [hd] at h1
 obtain ⟨hL, h2⟩ := h1.step
 obtain ⟨t0, t1, _⟩ := (h1.mem _).1 (.head _)
 have hm := h.mid.out h1.toWBase ⟨t0, t1⟩ hL
 refine ⟨q, h1.toWBase, ⟨t0, t1⟩, hL, h1.toWBase.out ⟨t0, t1⟩ hL, hm, ⟨hlt, ⟨_, h2⟩, ⟨hm.now, hm.w.up (i64 (by omega) (by omega)), hm.k⟩, ?_⟩⟩
 have := h.fin
 rw [hd] at this
 exact this
theorem encK_mid {ql : List Int} {fin : WS} {x : WS × Nat} (h : KInv ql fin x) (hlen : ql.length ≤ 4096) (hql : ∀ t ∈ ql, In64 t) : ∀ j, In64 (zNv ql x j) := by
 obtain ⟨q, h1⟩ := h.q
 have hn := h1.rep.n1
 have hnow := h1.now0
 have hnow' := h.mid.now
 have hi := h.i
 obtain ⟨k1, k2⟩ : (∀ y ∈ (nxO ql x).cs, In64 y) ∧ zEg (nxO ql x).k := by
  unfold nxO
  by_cases hlt : x.2 < ql.length
  ·obtain ⟨q, _, _, _, g1, g2, _⟩ := h.go hlt
   rw [if_pos hlt]
   exact ⟨g1.cs_mid, g2.k⟩
  ·rw [if_neg hlt]
   exact ⟨h1.toWBase.cs_mid, h.mid.k⟩
 refine zMv (fun y hy => ?_) (fun T hT => ?_)
 ·rcases List.mem_append.1 hy with hy | hy
  ·simp only [List.mem_cons, List.not_mem_nil, or_false] at hy
   rcases hy with rfl | rfl
   ·exact i64 (by omega) (by omega)
   ·exact i64 (by omega) (by omega)
  ·rcases List.mem_append.1 hy with hy | hy
   ·exact h1.toWBase.cs_mid y hy
   ·rcases List.mem_append.1 hy with hy | hy
    ·simp only [List.mem_cons, List.not_mem_nil, or_false] at hy
     rcases hy with rfl | rfl
     ·exact i64 (by omega) (by omega)
     ·exact i64 (by omega) (by omega)
    ·exact k1 y hy
 ·rcases List.mem_append.1 hT with hT | hT
  ·simp only [List.mem_cons, List.not_mem_nil, or_false] at hT
   subst hT
   exact h.mid.w
  ·rcases List.mem_append.1 hT with hT | hT
   ·exact LK.list_mid h.mid.k T hT
   ·rcases List.mem_append.1 hT with hT | hT
    ·simp only [List.mem_cons, List.not_mem_nil, or_false] at hT
     subst hT
     exact zBf hql
    ·exact LK.list_mid k2 T hT
theorem k_funs {ql : List Int} {fin : WS} {x : WS × Nat} (h : KInv ql fin x) (hlt : x.2 < ql.length) {pc : List (SB × Bool)} (V : @zAc ⟨pc⟩) (hV : V.env = zNv ql x) : ∀ S ∈ kFuns fns, @zAj ⟨pc⟩ V Tryz.prog [] S := by
 obtain ⟨q, d1, d2, d3, d4, d5, _⟩ := h.go hlt
 have e1 : nxO ql x = x.1.out (idAt ql x.2) := if_pos hlt
 have hws : zDg (wsE (zNv ql x) (v 0) (v 1) C0 (.tab 128) K0) x.1 := by
  refine ⟨zMx (ql := ql) x, encK_1 (ql := ql) x, encK_w (ql := ql) x, encK_k (ql := ql) x, fun i hi => ?_⟩
  rcases (show i = 0 ∨ i = 1 ∨ i = 2 ∨ i = 3 by omega) with rfl | rfl | rfl | rfl
  ·exact zMw (ql := ql) x (i := 0) (by decide)
  ·exact zMw (ql := ql) x (i := 1) (by decide)
  ·exact zMw (ql := ql) x (i := 2) (by decide)
  ·exact zMw (ql := ql) x (i := 3) (by decide)
 have k1 := encK_k1 (ql := ql) x
 rw [e1] at k1
 have hid := encK_id (ql := ql) x
 intro S hS
 simp only [kFuns, List.mem_cons, List.not_mem_nil, or_false] at hS
 subst hS
 refine @out_proof ⟨pc⟩ V (v 0) (v 1) idK (.tab 128) C0 C5 K0 K5 q ?_ ?_ ?_ ?_ ?_ ?_
 all_goals rw [hV]
 ·exact d1.of hws
 ·exact h.mid.of hws
 ·rw [hid]
  exact ⟨d2.1, by show _ < zNv ql x 0; rw [zMx]; exact d2.2⟩
 ·rw [hid]
  refine fun e => d3 ?_
  rw [← (encK_k x).L.g]; exact e
 ·intro i hi
  rw [hid, (out_eq hws rfl).c i hi]
  have := encK_d (ql := ql) x hi
  rw [e1] at this
  rcases (show i = 0 ∨ i = 1 ∨ i = 2 ∨ i = 3 by omega) with rfl | rfl | rfl | rfl <;> exact this
 ·rw [hid]
  exact k1.trans (out_eq hws rfl).k.symm
theorem k_facts {ql : List Int} {fin : WS} {x : WS × Nat} (h : KInv ql fin x) (hlen : ql.length ≤ 4096) (hlt : x.2 < ql.length) : Fx (zNv ql x) csK.pc := by
 obtain ⟨q, d1, d2, _⟩ := h.go hlt
 have v6 : (v 6).eval (zNv ql x) = ql.length := encK_6 x
 have v7 : (v 7).eval (zNv ql x) = x.2 := encK_7 x
 have hid := encK_id (ql := ql) x
 show Fx _ pcK
 refine .app (zDw d1 h.mid (zMx x) (encK_1 x) fun i hi => zMw x hi) (.app (.cons (nle_ok ?_) (.cons (zKv ?_) (.cons (zKv ?_) (.cons (zKv ?_) (.cons (zKv ?_) .nil))))) (zAv ?_ ?_))
 ·rw [v6, v7]; omega
 ·rw [v7]; show (0 : Int) ≤ _; omega
 ·rw [v7]; show _ ≤ (v 6).eval _ + (-1); rw [v6]; omega
 ·rw [v7]; show _ ≤ (4095 : Int); omega
 ·rw [v6]; show _ ≤ (4096 : Int); omega
 ·rw [hid]; exact d2.1
 ·rw [hid]; show _ ≤ zNv ql x 0 + (-1); rw [zMx]; omega
set_option maxHeartbeats 1000000 in
theorem wake_proof [F : Facts] [V : zAc] {n now w w' m T : SE} {c c' : C4} {K K' : K4} {q : Int → List Int} {s fin : WS} {ql : List Int} (hs : wsE V.env n now c w K = s) (h : WWk s q ql) (hm : zEh s) (hmany : m.eval V.env = ql.length) (hT : zAg (zAw V.env T) (zAs ql))
  (hfin : WS.wakes ql s = fin) (hw' : zAg (zAw V.env w') fin.when_) (hc' : ∀ i, i < 4 → cE V.env c' i = fin.c i) (hK' : zEi (lkE V.env K') fin.k) : zAp Tryz.prog [] (wakeS fns n now c c' m w w' K K' T) := by
 have hn := h.rep.n1
 have hth : ∀ t ∈ ql, 0 ≤ t ∧ t < s.n := fun t ht => by
  have := (h.mem t).1 ht
  exact ⟨this.1, this.2.1⟩
 have hlen : ql.length ≤ 4096 := by
  have := zJu (n := s.n.toNat) h.nd fun t ht => by
   have := hth t ht
   omega
  omega
 have hql : ∀ t ∈ ql, In64 t := fun t ht => by
  have := hth t ht
  exact i64 (by omega) (by omega)
 have hkeep := wakes_keep (l := ql) (s := s)
 rw [hfin] at hkeep
 have sn : n.eval V.env = s.n := by rw [← hs]; rfl
 have snow : now.eval V.env = s.now := by rw [← hs]; rfl
 have sc : ∀ i, cE V.env c i = s.c i := fun i => by rw [← hs]; rfl
 have sw : zAw V.env w = s.when_ := by rw [← hs]; rfl
 have sk : lkE V.env K = s.k := by rw [← hs]; rfl
 have inv0 : KInv ql fin (s, 0) := ⟨Nat.zero_le _, ⟨q, h⟩, hm, hfin⟩
 refine zFo (N := NN) (fuel := fuel) (wakeS fns n now c c' m w w' K K' T) zFe (fx := [false, false, false, false, false, false, false, false, false]) (b0 := zEf fTick 15) isWake fxK (zCa rfl goodK) (σ := WS × Nat) (zNv ql) 8 6 (by decide) upsK (Nat.le_refl _) (Nat.le_refl _)
  (I := fun μ i x => i = 0 ∧ KInv ql fin x ∧ μ = ql.length - x.2 ∧ x.1.n = s.n ∧ x.1.now = s.now) (Post := fun e j x => e = .exit 4 ∧ j = 1 ∧ x.2 = ql.length ∧ x.1 = fin) (fun B μ i x hI => ?_) ql.length (s, 0) ⟨rfl, inv0, rfl, rfl, rfl⟩ (encK_mid inv0 hlen hql) ?_ (fun e j x hp => ?_)
 ·obtain ⟨rfl, hinv, rfl, xn, xnow⟩ := hI
  by_cases hlt : x.2 < ql.length
  ·obtain ⟨_, _, _, _, _, _, d12⟩ := hinv.go hlt
   have e2 : nxO ql x = x.1.out (idAt ql x.2) := if_pos hlt
   refine ⟨csK, (x.1.wake (idAt ql x.2), x.2 + 1), noLoops, zCg csK.pc (kFuns fns), zDo B _ _ _ (fun V hV => k_funs hinv hlt V hV), ?_, k_facts hinv hlen hlt, Nat.le_refl _, Nat.le_refl _, encK_mid d12 hlen hql, ?_, .inl ⟨rfl, ql.length - (x.2 + 1), by omega, rfl, d12, rfl, xn, xnow⟩⟩
   ·have := run_k
    exact this
   ·refine zBg (by decide) (by decide) (fun i hi => ?_) (fun a h1 h2 => ?_)
    ·have hd := fun j (hj : j < 4) => encK_d (ql := ql) x hj
     have hc := fun j (hj : j < 4) => zMw (ql := ql) (x.1.wake (idAt ql x.2), x.2 + 1) hj
     rw [e2] at hd
     rcases (show i = 0 ∨ i = 1 ∨ i = 2 ∨ i = 3 ∨ i = 4 ∨ i = 5 ∨ i = 6 ∨ i = 7 by omega) with rfl | rfl | rfl | rfl | rfl | rfl | rfl | rfl
     ·exact (zMx x).trans (zMx (x.1.wake (idAt ql x.2), x.2 + 1)).symm
     ·exact (encK_1 x).trans (encK_1 (x.1.wake (idAt ql x.2), x.2 + 1)).symm
     ·exact (hd 0 (by decide)).trans (hc 0 (by decide)).symm
     ·exact (hd 1 (by decide)).trans (hc 1 (by decide)).symm
     ·exact (hd 2 (by decide)).trans (hc 2 (by decide)).symm
     ·exact (hd 3 (by decide)).trans (hc 3 (by decide)).symm
     ·exact (encK_6 x).trans (encK_6 (x.1.wake (idAt ql x.2), x.2 + 1)).symm
     ·refine Eq.trans ?_ (encK_7 (x.1.wake (idAt ql x.2), x.2 + 1)).symm
      show (v 7).eval _ + 1 = ((x.2 + 1 : Nat) : Int)
      rw [show (v 7).eval (zNv ql x) = x.2 from encK_7 x]
      omega
    ·have k2 := encK_k1 (ql := ql) x
     rw [e2] at k2
     have k := encK_k (ql := ql) (x.1.wake (idAt ql x.2), x.2 + 1)
     rcases (show a = 128 ∨ a = 129 ∨ a = 130 ∨ a = 131 ∨ a = 132 ∨ a = 133 by omega) with rfl | rfl | rfl | rfl | rfl | rfl
     ·rw [show csK.gv 128 = .upd (.tab 128) idK 0 (L 0) from rfl, zFa, zFb]
      exact (zEd (encK_w x) (encK_id x) (show (L 0).eval (zNv ql x) = 0 from rfl)).trans (encK_w (x.1.wake (idAt ql x.2), x.2 + 1)).symm
     ·rw [show csK.gv 129 = .tab 134 from rfl, zFb]
      exact k2.N.trans k.N.symm
     ·rw [show csK.gv 130 = .tab 135 from rfl, zFb]
      exact k2.B.trans k.B.symm
     ·rw [show csK.gv 131 = .tab 136 from rfl, zFb]
      exact k2.L.trans k.L.symm
     ·rw [show csK.gv 132 = .tab 137 from rfl, zFb]
      exact k2.C.trans k.C.symm
     ·rw [show csK.gv 133 = .tab 133 from rfl, zFb]
      exact (encK_T x).trans (encK_T (x.1.wake (idAt ql x.2), x.2 + 1)).symm
  ·have hi := hinv.i
   have hx2 : x.2 = ql.length := by omega
   refine ⟨csKE, x, noLoops, zCg csKE.pc [], zDo B _ _ _ (fun V hV S hS => by cases hS), ?_, ?_, Nat.zero_le _, Nat.zero_le _, encK_mid hinv hlen hql, zBg (by decide) (by decide) (fun i hi => rfl) (fun a h1 h2 => zAg.refl _), .inr ⟨by simp [csKE], rfl, rfl, hx2, ?_⟩⟩
   ·have := run_kE
    exact this
   ·obtain ⟨q, d1⟩ := hinv.q
    show Fx (zNv ql x) (pcW ++ [le (v 6) (v 7)])
    refine .app (zDw d1.toWBase hinv.mid (zMx x) (encK_1 x) fun i hi => zMw x hi) (zEb (zKv ?_))
    rw [show (v 6).eval (zNv ql x) = ql.length from encK_6 x, show (v 7).eval (zNv ql x) = x.2 from encK_7 x]
    omega
   ·have := hinv.fin
    rw [hx2, List.drop_length] at this
    exact this
 ·have k := encK_k (ql := ql) (s, 0)
  have hc := fun j (hj : j < 4) => zMw (ql := ql) (s, 0) hj
  refine zBg (by decide) (by decide) (fun i hi => ?_) (fun a h1 h2 => ?_)
  ·rcases (show i = 0 ∨ i = 1 ∨ i = 2 ∨ i = 3 ∨ i = 4 ∨ i = 5 ∨ i = 6 ∨ i = 7 by omega) with rfl | rfl | rfl | rfl | rfl | rfl | rfl | rfl
   ·exact sn.trans (zMx (s, 0)).symm
   ·exact snow.trans (encK_1 (s, 0)).symm
   ·exact (sc 0).trans (hc 0 (by decide)).symm
   ·exact (sc 1).trans (hc 1 (by decide)).symm
   ·exact (sc 2).trans (hc 2 (by decide)).symm
   ·exact (sc 3).trans (hc 3 (by decide)).symm
   ·exact hmany.trans (encK_6 (s, 0)).symm
   ·exact Eq.trans (show (L 0).eval V.env = ((0 : Nat) : Int) from rfl) (encK_7 (s, 0)).symm
  ·rcases (show a = 128 ∨ a = 129 ∨ a = 130 ∨ a = 131 ∨ a = 132 ∨ a = 133 by omega) with rfl | rfl | rfl | rfl | rfl | rfl
   ·exact (show zAg (zAw V.env w) s.when_ by rw [sw]; exact .refl _).trans (encK_w (s, 0)).symm
   ·exact (show zAg (lkE V.env K).N s.k.N by rw [sk]; exact .refl _).trans k.N.symm
   ·exact (show zAg (lkE V.env K).B s.k.B by rw [sk]; exact .refl _).trans k.B.symm
   ·exact (show zAg (lkE V.env K).L s.k.L by rw [sk]; exact .refl _).trans k.L.symm
   ·exact (show zAg (lkE V.env K).C s.k.C by rw [sk]; exact .refl _).trans k.C.symm
   ·exact hT.trans (encK_T (s, 0)).symm
 ·obtain ⟨rfl, rfl, hx2, hx1⟩ := hp
  refine ⟨0, ⟨.exit 4, 1, fK n now c' m m, gK w' K' T⟩, rfl, rfl, rfl, Nat.le_refl _, Nat.le_refl _, zEa ?_⟩
  have k := encK_k (ql := ql) x
  have hc := fun j (hj : j < 4) => zMw (ql := ql) x hj
  have hw := encK_w (ql := ql) x
  rw [hx1] at k hc hw
  refine zBg (by decide) (by decide) (fun i hi => ?_) (fun a h1 h2 => ?_)
  ·rcases (show i = 0 ∨ i = 1 ∨ i = 2 ∨ i = 3 ∨ i = 4 ∨ i = 5 ∨ i = 6 ∨ i = 7 by omega) with rfl | rfl | rfl | rfl | rfl | rfl | rfl | rfl
   ·exact (sn.trans (hkeep.1.symm.trans (by rw [hx1]))).trans (zMx x).symm
   ·exact (snow.trans (hkeep.2.symm.trans (by rw [hx1]))).trans (encK_1 x).symm
   ·exact (hc' 0 (by decide)).trans (hc 0 (by decide)).symm
   ·exact (hc' 1 (by decide)).trans (hc 1 (by decide)).symm
   ·exact (hc' 2 (by decide)).trans (hc 2 (by decide)).symm
   ·exact (hc' 3 (by decide)).trans (hc 3 (by decide)).symm
   ·exact hmany.trans (encK_6 x).symm
   ·exact (hmany.trans (by rw [hx2])).trans (encK_7 x).symm
  ·rcases (show a = 128 ∨ a = 129 ∨ a = 130 ∨ a = 131 ∨ a = 132 ∨ a = 133 by omega) with rfl | rfl | rfl | rfl | rfl | rfl
   ·exact hw'.trans hw.symm
   ·exact hK'.N.trans k.N.symm
   ·exact hK'.B.trans k.B.symm
   ·exact hK'.L.trans k.L.symm
   ·exact hK'.C.trans k.C.symm
   ·exact hT.trans (encK_T x).symm
def sorted (l : List Int) : List Int := l.mergeSort fun x y => decide (x ≤ y)
def zOd (P : Program) (g : FuncId) : Prop :=
 ∀ (blk off cap : Nat) (zs : List Int) (w : World), Go.Sort.Holds (Value.int .i64) w blk off zs.toArray → blk < w.heap.size → zs.length < 4611686018427387904 →
  Calls P g #[.slice (some ⟨blk, off, none⟩) zs.length cap] w fun e w' => e = .returned (.tuple #[]) ∧ ∃ n os, w' = Go.Sort.grow (Go.Sort.putRow (Value.int .i64) (Go.Sort.ahead w n) blk off (sorted zs).toArray) os
theorem zEt (l : List Int) : (sorted l).length = l.length := List.length_mergeSort _
theorem zDx {l : List Int} {x : Int} : x ∈ sorted l ↔ x ∈ l := List.mem_mergeSort
theorem fxSo : zAl (shSo PG) 1 [false] := fun i => by rcases i with _ | i <;> exact ⟨Nat.le_refl _, rfl, rfl⟩
set_option maxRecDepth 100000
theorem goodSo : zBk PG (shSo PG 1) = true := by kernel_rfl
theorem sort_world {w : World} {blk off n : Nat} {d : Array Int} {os : Array Obj} {arr : Array Value} {el : TypeId} {fz : Nat × Nat} (h : w.heap[blk]? = some (.cells arr el fz)) :
  ∃ w1, w1 = Go.Sort.grow (Go.Sort.putRow (Value.int .i64) (Go.Sort.ahead w n) blk off d) os ∧ w1.heap[blk]? = some (.cells (Go.Sort.putCells (Value.int .i64) off d arr) el fz) ∧ w.heap.size ≤ w1.heap.size ∧ (∀ r, r < w.heap.size → r ≠ blk → w1.heap[r]? = w.heap[r]?) ∧ w1.os = w.os ∧ w1.tape = w.tape ∧ w1.output = w.output := by
 have hlt := (Array.getElem?_eq_some_iff.1 h).1
 refine ⟨_, rfl, ?_, ?_, fun r hr hne => ?_, rfl, rfl, rfl⟩
 ·show ((w.heap.modify blk _) ++ os)[blk]? = _
  rw [Array.getElem?_append_left (by simpa using hlt), Array.getElem?_modify, if_pos rfl, h]
  rfl
 ·show _ ≤ ((w.heap.modify blk _) ++ os).size
  simp
 ·show ((w.heap.modify blk _) ++ os)[r]? = _
  rw [Array.getElem?_append_left (by simpa using hr), Array.getElem?_modify, if_neg (fun e => hne e.symm)]
theorem call_of {g : FuncId} (h : ((Tryz.prog.funcs[g]?).map fun f => (f.body.isSome, f.name == "runtime.NumGoroutine")) = some (true, false)) (xs : Array Value) (w : World) : (callFunc g xs).run Tryz.prog w = .ok (.enter g xs) w := by
 cases hfn : Tryz.prog.funcs[g]? with
 | none => rw [hfn] at h; cases h
 | some fn =>
  rw [hfn] at h
  simp only [Option.map_some, Option.some.injEq, Prod.mk.injEq] at h
  obtain ⟨h1, h2⟩ := h
  cases hb : fn.body with
  | none => rw [hb] at h1; cases h1
  | some c =>
   have hname : fn.name ≠ "runtime.NumGoroutine" := by simpa using h2
   simp [callFunc, hfn, hname, h2, hb, Sem.run_bind, run_program, Sem.run_pure]
theorem call27 : ((Tryz.prog.funcs[zLp]?).map fun f => (f.body.isSome, f.name == "runtime.NumGoroutine")) = some (true, false) := by kernel_rfl
theorem sort_ok (hC : zOd Tryz.prog zLp) [F : Facts] [V : zAc] {n T T' : SE} {l : List Int} (hn : n.eval V.env = l.length) (h1 : 1 ≤ l.length) (h2 : l.length ≤ 4096) (hl : ∀ x ∈ l, In64 x)
  (hT : zAg (zAw V.env T) (zAs l)) (hT' : zAg (zAw V.env T') (zAs (sorted l))) : zAj Tryz.prog [] (sortS fns n T T') := by
 have m0 : ∀ j, In64 (inE [n] [T] V.env j) := zCh V.mid (fun e he => by
  simp only [List.mem_cons, List.not_mem_nil, or_false] at he
  subst he
  rw [hn]; exact i64 (by omega) (by omega)) (fun e he => by
  simp only [List.mem_cons, List.not_mem_nil, or_false] at he
  subst he
  exact (zBf hl).of hT)
 have m1 : ∀ j, In64 (inE [n] [T'] V.env j) := zCh V.mid (fun e he => by
  simp only [List.mem_cons, List.not_mem_nil, or_false] at he
  subst he
  rw [hn]; exact i64 (by omega) (by omega)) (fun e he => by
  simp only [List.mem_cons, List.not_mem_nil, or_false] at he
  subst he
  exact (zBf fun x hx => hl x (zDx.1 hx)).of hT')
 refine fun_ok (sortS fns n T T') zFe fxSo (zCa rfl goodSo) (Post := fun j env => j = 1 ∧ env = inE [n] [T'] V.env) (fun B Lc0 w xs kind cs hkind hp hB => ?_) (fun j env h => by obtain ⟨_, rfl⟩ := h; exact m1) (fun j env h => ?_)
 ·let q : zHi := ⟨⟨[]⟩, @zAc.mk ⟨[]⟩ (inE [n] [T] V.env) (fun _ hp => (List.not_mem_nil hp).elim) m0 []⟩
  obtain ⟨p1, p2⟩ := hp q rfl
  have e0 : q.V.env 0 = l.length := (show inE [n] [T] V.env 0 = n.eval V.env from zAx rfl (by decide)).trans hn
  have hsz : xs.size = 1 := @RE.size q.F q.V _ _ _ _ p2
  obtain ⟨_, hx⟩ := @RE.some q.F q.V _ _ _ _ p2 0 (ss PG (v 0)) (by rfl)
  obtain ⟨a, ha, hrb, hBa⟩ := @RW.blk q.F q.V _ _ _ _ p1 PG 0 (T1 128 (v 0)) (zFh (k := 0) rfl)
  have haL : a = Lc0 0 := by
   have : zHr Tryz.prog.globals.size ((sortS fns n T T').shapes 0).bl.length Lc0 (Tryz.prog.globals.size + 0) = some (Lc0 0) := zCu (show 0 < 1 from Nat.zero_lt_one)
   rw [Nat.add_zero] at this
   rw [this] at ha
   exact (Option.some.inj ha).symm
  obtain ⟨arr, el, fz, g1, g2, m, g3, g4, g5⟩ := hrb
  have hm : m = l.length := by
   have g3 : q.V.env 0 = m := g3
   omega
  subst hm
  obtain ⟨hfz, hcap⟩ := g2 rfl
  subst hfz
  obtain ⟨x0, hx0⟩ : ∃ x0, xs = #[x0] := by
   have : xs.toList.length = 1 := by simpa using hsz
   obtain ⟨y, hy⟩ := List.length_eq_one_iff.1 this
   exact ⟨y, by rw [← Array.toArray_toList (xs := xs), hy]⟩
  subst hx0
  have hx : @RV q.F q.V (zHr Tryz.prog.globals.size ((sortS fns n T T').shapes 0).bl.length Lc0) (.ss PG 1 (.lit 0) (v 0)) x0 := hx
  cases hx with | ss k1 k2 k3 k4 k5 =>
  rename_i a' mo lo o c
  rw [ha] at k1
  cases k1
  have hmo : mo = 0 := by
   have k2 : (0 : Int) = mo := k2
   omega
  have hlo : lo = l.length := by
   have k3 : q.V.env 0 = lo := k3
   omega
  subst hmo hlo
  have ho : o = a.off := by
   have := k5 (by omega)
   omega
  subst ho
  have cell : ∀ r, r < l.length → arr[a.off + r]? = some (.int .i64 ((l[r]?).getD 0)) := fun r hr => by
   obtain ⟨x, q1, q2⟩ := g5 r 0 (.i .i64) hr rfl
   have q2 : x = .int .i64 (zFl (inE [n] [T] V.env) 128 r 0) := q2
   rw [(zDd (e := T) rfl (by decide) (by decide) : zAg (zFl (inE [n] [T] V.env) 128) (zAw V.env T)) r 0 (by decide), hT r 0 (by decide)] at q2
   rw [show a.off + r = a.off + (r * 1 + 0) by omega]
   rw [show ([CK.i .i64] : List CK).length = 1 from rfl] at q1
   rw [q1, q2]
   unfold zAs
   rw [if_pos rfl]
  have hH : Go.Sort.Holds (Value.int .i64) w a.blk a.off l.toArray := fun j hj => by
   have hj : j < l.length := by simpa using hj
   have hc := cell j hj
   refine ⟨?_, ?_⟩
   ·unfold World.cell?
    simp only [g1, Option.isSome_none, Bool.false_eq_true, if_false]
    rw [hc]
    simp [List.getElem?_eq_getElem hj, hj]
   ·unfold World.frozen?
    simp only [g1]
    simp
  have hlt : a.blk < w.heap.size := (Array.getElem?_eq_some_iff.1 g1).1
  obtain ⟨e, w', fr, ⟨rfl, dn, os, hw'⟩, e1, e7, e2, e3, e4, fn, e5, e6⟩ := hC a.blk a.off c l w hH hlt (by omega) cs
  obtain ⟨w1, hw1, s1, s2, s3, s4, s5, s6⟩ := sort_world (n := dn) (d := (sorted l).toArray) (os := os) (off := a.off) g1
  have : w' = w1 := by rw [hw', hw1]
  subst this
  have hkn : kind = .normal := hkind
  subst hkn
  refine ⟨1, _, w', .tuple #[], Lc0, ⟨fun w => ?_, fr, fn, e1, e2, e3, e4, by rw [e7] at e5 ⊢; exact e5, e6, e7⟩, ⟨s4, s5, s6, s2, fun r hr hno => s3 r hr fun e => hno ⟨0, T1 128 (v 0), rfl, rfl, by rw [← haL, e]⟩, fun _ _ => rfl, fun r hr => .inr ?_⟩, ⟨rfl, rfl⟩, fun q' hq' => ?_⟩
  ·exact call_of call27 _ w
  ·obtain ⟨k, y, h3, h4, h5⟩ := hr
   exact ⟨k, y, h3, h4, h5⟩
  ·have e1' : q'.V.env 0 = l.length := by
    rw [hq']
    exact (show inE [n] [T'] V.env 0 = n.eval V.env from zAx rfl (by decide)).trans hn
   have own : ∀ (b t : Nat) (x : Blk), (((sortS fns n T T').shapes 1).heap Tryz.prog.globals.size []).h.get b = some (t, x) → b = Tryz.prog.globals.size ∧ t = 0 ∧ x = T1 128 (v 0) := fun b t x e => by
    rcases zDz (fun p hp => by cases hp) e with ⟨p, hp, _⟩ | ⟨k, hk, rfl, rfl, hx⟩
    ·cases hp
    ·have hk : k < 1 := hk
     obtain rfl : k = 0 := by omega
     have hx : some (T1 128 (v 0)) = some x := hx
     exact ⟨rfl, rfl, (Option.some.inj hx).symm⟩
   refine ⟨@RW.mk q'.F q'.V _ _ _ _ (fun b t x e => ?_) (fun b b' t t' x x' a a' e e' _ hne _ _ => ?_) (fun b t x e => ?_), @RE.mk q'.F q'.V _ _ _ _ rfl (fun i u hu => ?_)⟩
   ·obtain ⟨rfl, rfl, rfl⟩ := own b t x e
    refine ⟨Lc0 0, (zCu (k := 0) (show 0 < 1 from Nat.zero_lt_one)), ?_, fun hf => by rw [← haL]; exact hBa hf⟩
    rw [← haL]
    refine ⟨_, el, (0, 0), s1, fun _ => ⟨rfl, by
     show a.off + a.cap * 1 ≤ (Go.Sort.putCells (Value.int .i64) a.off (sorted l).toArray arr).size
     have hcap : a.off + a.cap * 1 ≤ arr.size := hcap
     unfold Go.Sort.putCells
     rw [Array.size_mapIdx]; exact hcap⟩, l.length, e1', ?_, fun r c k hr hk => ?_⟩
    ·have g4 : a.off + l.length * 1 ≤ arr.size := g4
     show a.off + l.length * 1 ≤ (Go.Sort.putCells (Value.int .i64) a.off (sorted l).toArray arr).size
     unfold Go.Sort.putCells
     rw [Array.size_mapIdx]; exact g4
    ·have hc : c = 0 := by
      have := (List.getElem?_eq_some_iff.1 hk).1
      simp at this
      exact this
     subst hc
     have hk : k = .i .i64 := by simpa using hk.symm
     subst hk
     have hsl := zEt l
     have hrs : r < (sorted l).length := by omega
     refine ⟨.int .i64 ((sorted l)[r]'hrs), ?_, ?_⟩
     ·show (Go.Sort.putCells (Value.int .i64) a.off (sorted l).toArray arr)[a.off + (r * 1 + 0)]? = _
      unfold Go.Sort.putCells
      rw [show a.off + (r * 1 + 0) = a.off + r by omega, Array.getElem?_mapIdx, cell r hr]
      simp only [Option.map_some, List.size_toArray]
      rw [if_pos ⟨by omega, by omega⟩, show a.off + r - a.off = r by omega]
      simp [hrs]
     ·show _ = Value.int .i64 (zFl q'.V.env 128 r 0)
      rw [hq', (show zAg (zFl (inE [n] [T'] V.env) 128) (zAw V.env T') from zDd rfl (by decide) (by decide)) r 0 (by decide), hT' r 0 (by decide)]
      unfold zAs
      rw [if_pos rfl, List.getElem?_eq_getElem hrs]
      rfl
   ·obtain ⟨rfl, _, _⟩ := own b t x e
    obtain ⟨rfl, _, _⟩ := own b' t' x' e'
    exact (hne rfl).elim
   ·obtain ⟨rfl, rfl, _⟩ := own b t x e
    exact ⟨by rw [zMs]; exact Nat.lt_succ_self _, Nat.zero_le _⟩
   ·have hu : (tmps [(0, void)]).get i = some u := hu
    have := zIp hu
    simp only [List.mem_cons, List.not_mem_nil, or_false, Prod.mk.injEq] at this
    obtain ⟨rfl, rfl⟩ := this
    exact ⟨Nat.zero_lt_one, @RV.tup q'.F q'.V _ _ _ (@RL.nil q'.F q'.V _)⟩
 ·obtain ⟨rfl, rfl⟩ := h
  exact ⟨0, ⟨.ret, 1, [n], [T']⟩, rfl, rfl, rfl, fun i hi => zBt hi, fun a r c h1 h2 h3 => zCj h1 h2 h3⟩
end Go.Proofs.YtaliacnncemneaaGreat.wheels
end
