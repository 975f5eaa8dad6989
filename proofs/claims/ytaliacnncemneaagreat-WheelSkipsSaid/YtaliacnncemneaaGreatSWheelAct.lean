/- What is done. Conditions: those that each theorem names. -/
import Derived.Test.YtaliacnncemneaaGreatSWheelAll
open Go
noncomputable section
namespace Go.Proofs.Wheels
open Go.Abs
def pickInts [Facts] (g G : Nat) (xs : List AV) (s : HS) : Option zAi :=
 match xs with
 | [.ss b _ _ n, _] => (match s.h.get b with
  | some (_, .arr _ (.tab a) _ _) => bif Nat.ble 128 a && (Nat.blt a 256 && (isSome (zBi (zEm (.lit 0) n)) true && isSome (zBi (zEm n (.lit 4096))) true)) then some (intsS g G n (.tab a)) else none
  | _ => none)
 | [.val (.slice none 0 0), _] => some (intsN g)
 | _ => none
end Go.Proofs.Wheels
namespace Go.Proofs.YtaliacnncemneaaGreat.wheels
open Go.Abs Go.Proofs.Wheels
theorem is_proofX [F : Facts] [V : zAc] {m : Nat} {X : TT} {n T : SE} (hl : m ≤ 4096) (hx : zDc X) (hn : n.eval V.env = m) (hT : zAg (zAw V.env T) X) : zAp Tryz.prog [] (isS zDe PG n T) := by
 obtain ⟨E, hE⟩ : ∃ E : Nat → Nat → Int, E = fun (i : Nat) => zCb ([(m : Int), (i : Int)] ++ []) ([X] ++ []) := ⟨_, rfl⟩
 have mid : ∀ i, i ≤ m → zCr In64 ([(m : Int), (i : Int)] ++ []) ∧ zCr zDc ([X] ++ []) := fun i hi => ⟨⟨zCf (by omega), zCf (by omega), trivial⟩, hx, trivial⟩
 refine zId (key := 5) (isS zDe PG n T) isIs fxIs (o := ⟨.exit 0, 1, [n, n], [T]⟩) rfl goodIs E (fun i => [(m : Int), (i : Int)]) (fun _ => []) (fun _ => [X]) (fun _ => []) (fun i => by rw [hE]) 2 1 (by decide) (by decide) upsIs rfl rfl rfl rfl
  (I := fun μ j i => j = 0 ∧ i ≤ m ∧ μ = m - i) (Post := fun i => i = m) (fun μ j i hI => mid i hI.2.1) (fun B μ j i hI => ?_) m 0 ⟨rfl, Nat.zero_le _, rfl⟩ ⟨hn, rfl, trivial⟩ ⟨hT, trivial⟩ (fun i hp => ?_)
 ·obtain ⟨rfl, hi, rfl⟩ := hI
  have e0 : (v 0).eval (E i) = m := by rw [hE]; exact zDb rfl (by decide)
  have e1 : (v 1).eval (E i) = i := by rw [hE]; exact zDb rfl (by decide)
  have t0 : zAg (zAw (E i) (.tab 128)) (X) := by rw [hE]; exact zHj rfl (by decide) (by decide)
  have base : zCr (Says (E i)) pcIs := by
   refine ⟨zEq rfl, zAm ?_, zAm ?_, zAm ?_, trivial⟩
   ·rw [e0]; show (0 : Int) ≤ _; omega
   ·rw [e0]; show _ ≤ (4096 : Int); omega
   ·rw [e1]; show (0 : Int) ≤ _; omega
  by_cases hlt : i < m
  ·have run := run_is
   refine ⟨csIs, i + 1, noLoops, zCg csIs.pc [], zDo B _ _ _ (fun V hV S hS => by cases hS), ?_, zDt (.app base ⟨zBz ?_, zAm ?_, zAm ?_, trivial⟩), .inr ⟨rfl, rfl, ⟨e0, ?_, trivial⟩, ⟨t0, trivial⟩⟩, .inl ⟨rfl, m - (i + 1), by omega, rfl, by omega, rfl⟩⟩
   ·exact run
   ·rw [e0, e1]; omega
   ·rw [e1]; show _ ≤ (4095 : Int); omega
   ·rw [e1]; show _ ≤ (v 0).eval _ + (-1); rw [e0]; omega
   ·show (v 1).eval _ + 1 = ((i + 1 : Nat) : Int); rw [e1]; omega
  ·have run := run_isE
   refine ⟨csIsE, i, noLoops, zCg csIsE.pc [], zDo B _ _ _ (fun V hV S hS => by cases hS), ?_, zDt (.app base ⟨zAm ?_, trivial⟩), .inl ⟨rfl, rfl, rfl⟩, .inr ⟨by simp [csIsE], rfl, rfl, by omega, mid i hi⟩⟩
   ·exact run
   ·rw [e0, e1]; omega
 ·subst hp
  exact ⟨⟨hn, hn, trivial⟩, hT, trivial⟩
theorem ints_proofX [F : Facts] [V : zAc] {m : Nat} {X : TT} {n T : SE} (hl : m ≤ 4096) (hx : zDc X) (hn : n.eval V.env = m) (hT : zAg (zAw V.env T) X) : zAj Tryz.prog [] (intsS zDe PG n T) := by
 obtain ⟨E, hE⟩ : ∃ E, E = zCb ([(m : Int)] ++ []) ([X] ++ []) := ⟨_, rfl⟩
 have e0 : (v 0).eval E = m := by rw [hE]; exact zDb rfl (by decide)
 have t0 : zAg (zAw E (.tab 128)) (X) := by rw [hE]; exact zHj rfl (by decide) (by decide)
 have m0 : zCr In64 [(m : Int)] := ⟨zCf (by omega), trivial⟩
 have q0 : zCr zDc [X] := ⟨hx, trivial⟩
 have run := run_isF
 refine zIl (intsS zDe PG n T) fxIsF (av := [ss PG (v 0), ss (PG + 1) (v 0)]) (o := ⟨.ret, 1, [n], [T]⟩) rfl rfl goodIsF rfl rfl 1 1 (by decide) (by decide) upsIsF rfl rfl rfl rfl csIsF rfl (zJk csIsF.pc [isS zDe PG (v 0) (.tab 128)] []) (sc0 := [(m : Int)]) (scx := []) (sc1 := [(m : Int)]) (tb0 := [X]) (tbx := []) (tb1 := [X]) hE
  (fun B V' hV' => zJc B V' (fun S hS => ?_) (fun S hS => by cases hS)) ?_ (zDt ⟨zEq rfl, zAm ?_, zAm ?_, trivial⟩) m0 q0 m0 q0 rfl rfl ⟨e0, trivial⟩ ⟨t0, trivial⟩ ⟨hn, trivial⟩ ⟨hT, trivial⟩ ⟨hn, trivial⟩ ⟨hT, trivial⟩
 ·simp only [List.mem_cons, List.not_mem_nil, or_false] at hS
  subst hS
  refine @is_proofX ⟨_⟩ V' m X (v 0) (.tab 128) hl hx ?_ ?_
  all_goals rw [hV']
  ·exact e0
  ·exact t0
 ·exact run
 ·rw [e0]; show (0 : Int) ≤ _; omega
 ·rw [e0]; show _ ≤ (4096 : Int); omega
theorem pickInts_ok [F : Facts] [V : zAc] : ∀ xs s S, pickInts zDe PG xs s = some S → S.g = zDe ∧ zAj Tryz.prog [] S := by
 intro xs s S h
 unfold pickInts at h
 split at h
 ·rename_i b z o n y
  split at h
  ·rename_i t ks a l ro _
   cases hc : (Nat.ble 128 a && (Nat.blt a 256 && (isSome (zBi (zEm (.lit 0) n)) true && isSome (zBi (zEm n (.lit 4096))) true)))
   ·rw [hc, cond_false] at h; cases h
   ·rw [hc, cond_true] at h
    cases h
    simp only [Bool.and_eq_true] at hc
    obtain ⟨h1, h2, h3, h4⟩ := hc
    have h1 := Nat.le_of_ble_eq_true h1
    have h2 := Nat.le_of_ble_eq_true h2
    have h3 := zBd (zCv h3)
    have h4 := zBd (zCv h4)
    rw [zHb] at h3 h4
    have h3 : 0 ≤ n.eval V.env := of_decide_eq_true h3
    have h4 : n.eval V.env ≤ 4096 := of_decide_eq_true h4
    obtain ⟨m, hm⟩ : ∃ m : Nat, n.eval V.env = m := ⟨(n.eval V.env).toNat, by omega⟩
    exact ⟨rfl, ints_proofX (m := m) (X := zAw V.env (.tab a)) (by omega) (fun r c _ => V.mid _) hm (zAg.refl _)⟩
  ·cases h
 ·cases h
  exact ⟨rfl, intsN_proof⟩
 ·cases h
end Go.Proofs.YtaliacnncemneaaGreat.wheels
namespace Go.Proofs.Wheels
open Go.Abs
def actB (G : Nat) : List Blk := zDr G ++ refB (G + 7)
def argA (G : Nat) : List AV := [.ptr G 0, .ptr (G + 7) 0, .agg [X 6, X 7, X 8]]
def shAc (G : Nat) : Nat → Shape
 | 0 => ⟨zHg 0 (argA G), actB G⟩
 | _ => ⟨[(0, yes)], actB G⟩
def nmAc (xs : List AV) (s : HS) : List Nat := zIo s xs.head? ++ refOf s (xs.drop 1).head?
def C9 : C4 := ⟨v 9, v 10, v 11, v 12⟩
def K134 : K4 := ⟨.tab 134, .tab 135, .tab 136, .tab 137⟩
def fAc (n now : SE) (c : C4) (ki id nn : SE) : List SE := [n, now, c.a, c.b, c.c, c.d, ki, id, nn]
def actS (g G : Nat) (n now now' : SE) (c c' : C4) (ki id nn : SE) (w w' : SE) (K K' : K4) : zAi := ⟨g, 3, shAc G, fAc n now c ki id nn, gW w K, nmAc, [⟨.ret, 1, fAc n now' c' ki id nn, gW w' K'⟩], 9⟩
def zLd (k : Int) : List (SB × Bool) := [eq (v 6) (L k)]
def w7 : SE := sel 128 (v 7)
def idIn : List (SB × Bool) := [le (L 0) (v 7), le (v 7) (add (v 0) (L (-1)))]
def csKp (pc : List (SB × Bool)) : Case := ⟨pcW ++ pc, .ret, 1, [v 0, v 1, v 2, v 3, v 4, v 5, v 6, v 7, v 8], [.tab 128, .tab 129, .tab 130, .tab 131, .tab 132], []⟩
def csCh (pc : List (SB × Bool)) (now' w' : SE) : Case := ⟨pcW ++ pc, .ret, 1, [v 0, now', v 9, v 10, v 11, v 12, v 6, v 7, v 8], [w', .tab 134, .tab 135, .tab 136, .tab 137], []⟩
def idW : Nat → List (SB × Bool)
 | 0 => [nle (L 0) (v 7)]
 | 1 => [le (L 0) (v 7), le (v 0) (v 7)]
 | _ => idIn
def nW : Nat → List (SB × Bool)
 | 0 => [le (v 8) (L 0)]
 | 1 => [nle (v 8) (L 65535)]
 | _ => inR (L 1) (v 8) (L 65535)
def wA : SE := .upd (.tab 128) (v 7) 0 (add (v 1) (v 8))
def wC : SE := .upd (.tab 128) (v 7) 0 (L 0)
def pcA1 : List (SB × Bool) := zLd 0 ++ idIn ++ nW 2 ++ [eq w7 (L 0)]
def pcA2 : List (SB × Bool) := zLd 0 ++ idIn ++ nW 2 ++ [nle w7 (L 0)]
def pcA3 (i j : Nat) : List (SB × Bool) := zLd 0 ++ idW i ++ nW j
def pcC1 : List (SB × Bool) := zLd 1 ++ idIn ++ [nle w7 (L 0)]
def pcC2 : List (SB × Bool) := zLd 1 ++ idIn ++ [eq w7 (L 0)]
def pcC3 (i : Nat) : List (SB × Bool) := zLd 1 ++ idW i
def pcT (b : Bool) : List (SB × Bool) := zLd 2 ++ (if b then inR (L 1) (v 13) (L 4096) else [])
def fsT (f : Fns) (b : Bool) : List zAi := [tickS f (v 0) (v 1) (add (v 1) (L 1)) C0 C9 (v 13) (.tab 128) (.tab 133) K0 K134 (.tab 138) b, mtickS 26 f.G (v 0) (v 1) (add (v 1) (L 1)) (v 13) (.tab 128) (.tab 133) (.tab 138) b]
def kE (b : Bool) : SE := if b then andC 64 3000 (v 8) else v 8
def lsA : List SE := (List.range 61).map fun i => v (20 + i)
def tsA : List SE := (List.range 61).map fun i => .tab (140 + i)
def skA (f : Fns) (j : Nat) (k : SE) : List zAd := [skS 18 f j (v 0) (v 1) (add (v 1) k) C0 C9 k (v 14) (.tab 128) (.tab 133) K0 K134 lsA tsA, msS 27 f.G j (v 0) (v 1) (add (v 1) k) k (v 15) (.tab 128) (.tab 133) lsA tsA]
def pcS (b : Bool) (j : Nat) : List (SB × Bool) := zLd 3 ++ (if b then [nle (v 8) (L 3000), le (v 8) (L 9223372036854775807)] ++ inR (L 1) (kE true) (L 3000) else inR (L 1) (v 8) (L 3000)) ++ ((List.range j).map fun i => inR (L 1) (v (20 + i)) (L 4096)).flatten
def pcS0 (b : Bool) : List (SB × Bool) := zLd 3 ++ (if b then [nle (v 8) (L 3000), le (v 8) (L 9223372036854775807), eq (kE true) (L 0)] else [le (v 8) (L 0)])
end Go.Proofs.Wheels
namespace Go.Proofs.YtaliacnncemneaaGreat.wheels
open Go.Abs Go.Proofs.Wheels
noncomputable def callK (pc : List (SB × Bool)) (ls : List zAd) (fs : List zAi) : Tgt → List AV → M AV := letI : Facts := ⟨pc⟩; letI := manyLoops PG [] ls; callN Tryz.prog (cfgPick zDe PG [] (pickInts zDe PG) (cfgF (fun _ => none) PG [] fs fuel)) deep
theorem callK_ok {pc : List (SB × Bool)} {ls : List zAd} {fs : List zAi} (B : Nat) (V : @zAc ⟨pc⟩) (hl : ∀ S ∈ ls, @zAp ⟨pc⟩ V Tryz.prog [] S) (hf : ∀ S ∈ fs, @zAj ⟨pc⟩ V Tryz.prog [] S) : @zCe ⟨pc⟩ V Tryz.prog B (callK pc ls fs) := by
 letI F : Facts := ⟨pc⟩
 letI := manyLoops PG [] ls
 letI := zDm hl
 exact zKr (pick_known (zIk (base := fun _ => none) ⟨zEw hl B, (fun _ _ e => by cases e), fun _ _ e => by cases e⟩ hf) pickInts_ok) (fun _ h => zEu h) deep
theorem fxAc : zAl (shAc PG) 9 [false, false, false, false, false, false, false, false, false] := fun i => by rcases i with _ | i <;> exact ⟨Nat.le_refl 9, rfl, rfl⟩
set_option maxRecDepth 1000000
theorem goodAc : zBk PG (shAc PG 1) = true := by kernel_rfl
theorem upsAc : ∀ i, (shAc PG i).ups 9 5 = true := fun i => by rcases i with _ | i <;> kernel_rfl
noncomputable def runA (c : Case) (ls : List zAd) (fs : List zAi) : Bool := ((callK c.pc ls fs) (.f fAct) (argA PG) ((shAc PG 0).heap PG [])).every NN (@Case.chkF ⟨c.pc⟩ PG 9 (shAc PG c.to) c)
theorem run_A1 : runA (csCh pcA1 (v 1) wA) [] [zKx fWAdd fns (v 0) (v 1) C0 C9 (v 7) (v 8) (.tab 128) wA K0 K134] = true := by kernel_rfl
theorem run_A2 : runA (csKp pcA2) [] [] = true := by kernel_rfl
theorem run_A3 : (List.range 3).all (fun i => (List.range 2).all fun j => runA (csKp (pcA3 i j)) [] []) = true := by kernel_rfl
theorem run_A4 : (List.range 2).all (fun i => runA (csKp (pcA3 i 2)) [] []) = true := by kernel_rfl
theorem run_C1 : runA (csCh pcC1 (v 1) wC) [] [outS fns (v 0) (v 1) C0 C9 (v 7) (.tab 128) K0 K134] = true := by kernel_rfl
theorem run_C2 : runA (csKp pcC2) [] [] = true := by kernel_rfl
theorem run_C3 : (List.range 2).all (fun i => runA (csKp (pcC3 i)) [] []) = true := by kernel_rfl
theorem run_Tf : runA (csCh (pcT false) (add (v 1) (L 1)) (.tab 133)) [] (fsT fns false) = true := by kernel_rfl
theorem run_Tt : runA (csCh (pcT true) (add (v 1) (L 1)) (.tab 133)) [] (fsT fns true) = true := by kernel_rfl
theorem run_O1 : runA (csKp [nle (L 0) (v 6)]) [] [] = true := by kernel_rfl
theorem run_O2 : runA (csKp [nle (v 6) (L 3)]) [] [] = true := by kernel_rfl
theorem run_S0f : runA (csKp (pcS0 false)) [] [] = true := by kernel_rfl
theorem run_S0t : runA (csKp (pcS0 true)) [] [] = true := by kernel_rfl
noncomputable def runS (b : Bool) (j : Nat) : Bool := runA (csCh (pcS b j) (add (v 1) (kE b)) (.tab 133)) (skA fns j (kE b)) []
end Go.Proofs.YtaliacnncemneaaGreat.wheels
namespace Go.Proofs.Wheels
open Go.Abs Go.Proofs.YtaliacnncemneaaGreat.wheels
theorem cancel_inv {s : WS} {q : Int → List Int} (h : zEc s q) {t : Int} (t0 : 0 ≤ t) (t1 : t < s.n) (hw : g0 s.when_ t ≠ 0) : g0 s.k.L t ≠ -1 ∧ ∃ q', zEc (s.wake t) q' := by
 have hL : g0 s.k.L t ≠ -1 := by
  rcases h.w t t0 t1 with ⟨g, _⟩ | ⟨_, _, g⟩
  ·exact absurd g hw
  ·have := (zGj (now := s.now) (at_ := g0 s.when_ t)).1
   omega
 have ho := h.toWBase.out ⟨t0, t1⟩ hL
 refine ⟨hL, _, ⟨ho.rep, ho.now0, ho.c⟩, fun x x0 x1 => ?_⟩
 have x1 : x < s.n := x1
 show (g0 (up s.when_ t 0) x = 0 ∧ g0 (up s.k.L t (-1)) x = -1) ∨ (s.now < g0 (up s.when_ t 0) x ∧ g0 (up s.when_ t 0) x ≤ s.now + 65535 ∧ g0 (up s.k.L t (-1)) x = zCp s.now (g0 (up s.when_ t 0) x))
 by_cases e : x = t
 ·subst e
  rw [zBn x0, zBn x0]
  exact .inl ⟨rfl, rfl⟩
 ·rw [zCx x0 e, zCx x0 e]
  exact h.w x x0 x1
theorem add_wait {s : WS} {t a : Int} (t0 : 0 ≤ t) (t1 : t < s.n) : (s.add t a).wait ≤ s.wait + 1 := by
 unfold WS.wait
 have e : (s.add t a).n.toNat = s.n.toNat := rfl
 rw [e]
 obtain ⟨i, rfl⟩ : ∃ i : Nat, t = i := ⟨t.toNat, by omega⟩
 have := zNd (p := fun x => !decide (g0 s.when_ x = 0)) (p' := fun x => !decide (g0 (s.add (i : Int) a).when_ x = 0)) (t := i) (n := s.n.toNat) (by omega) (fun x _ hx => by
  show (!decide (g0 (up s.when_ (i : Int) (s.now + a)) (x : Int) = 0)) = _
  rw [zCx (by omega) (by omega)])
 rw [this]
 have b : ∀ b : Bool, 0 ≤ b2i b ∧ b2i b ≤ 1 := fun b => by cases b <;> exact ⟨by decide, by decide⟩
 have b1 := b (!decide (g0 s.when_ (i : Int) = 0))
 have b2 := b (!decide (g0 (s.add (i : Int) a).when_ (i : Int) = 0))
 omega
def zCl (nn : Int) : Nat := if nn ≤ 0 then 0 else if nn ≤ 3000 then nn.toNat else nn.toNat &&& 3000
theorem zGi {nn : Int} : zCl nn ≤ 3000 := by
 unfold zCl
 split
 ·omega
 ·split
  ·omega
  ·exact Nat.and_le_right
def WS.act (ki id nn : Int) (s : WS) : WS :=
 if ki = 0 then (if (0 ≤ id ∧ id < s.n) ∧ (1 ≤ nn ∧ nn ≤ 65535) ∧ g0 s.when_ id = 0 then s.add id nn else s)
 else if ki = 1 then (if (0 ≤ id ∧ id < s.n) ∧ g0 s.when_ id ≠ 0 then s.wake id else s)
 else if ki = 2 then s.fin
 else if ki = 3 then (zCt (zCl nn) ⟨s, zCl nn, []⟩).s
 else s
structure ActI (N R : Nat) (T : Int) (s : WS) : Prop where
 q : ∃ q, zEc s q
 w : zDc s.when_
 k : zEg s.k
 now : s.now ≤ T
 n : s.n = N
 room : s.wait ≤ R
theorem ActI.mid {N R : Nat} {T : Int} {s : WS} (h : ActI N R T s) (hT : T ≤ 999000000) : zEh s := ⟨by have := h.now; omega, h.w, h.k⟩
theorem ActI.of {N R : Nat} {T : Int} {s : WS} (hq : ∃ q, zEc s q) (hm : zEh s) (hn : s.n = N) (h1 : s.now ≤ T) (h2 : s.wait ≤ R) : ActI N R T s := ⟨hq, hm.w, hm.k, h1, hn, h2⟩
theorem ActI.more {N R R' : Nat} {T T' : Int} {s : WS} (h : ActI N R T s) (h1 : R ≤ R') (h2 : T ≤ T') : ActI N R' T' s := ⟨h.q, h.w, h.k, by have := h.now; omega, h.n, by have := h.room; omega⟩
theorem ActI.sk {N R : Nat} {T : Int} {s : WS} (h : ActI N R T s) (hT : T + 3001 ≤ 999000000) {k : Nat} (hk : k ≤ 3000) : zIb R ⟨s, k, []⟩ :=
 ⟨h.q, h.mid (by omega), by have := h.now; show s.now + k + 1 ≤ _; omega, by show k ≤ 100000; omega, (fun l hl => by cases hl), by have := h.room; show ((([] : List (List Int)).length : Nat) : Int) + s.wait ≤ R; simp; exact this⟩
theorem total_pos : ∀ {l : List (List Int)}, 0 ≤ total l := by
 intro l
 induction l with
 | nil => exact Int.le_refl _
 | cons a l ih =>
  show 0 ≤ (a.length : Int) + total l
  omega
theorem ActI.act {N R : Nat} {T : Int} {s : WS} (h : ActI N R T s) (hT : T + 3001 ≤ 999000000) (ki id nn : Int) : ActI N (R + 1) (T + 3000) (s.act ki id nn) := by
 obtain ⟨q, hq⟩ := h.q
 have hm := h.mid (by omega)
 have hnow := h.now
 have hr := h.room
 have same : ActI N (R + 1) (T + 3000) s := h.more (by omega) (by omega)
 unfold WS.act
 split
 ·split
  ·rename_i hc
   obtain ⟨⟨t0, t1⟩, ⟨a1, a2⟩, hw⟩ := hc
   have hwt := add_wait (a := nn) t0 t1
   exact .of (add_inv hq t0 t1 hw a1 a2) (Go.Proofs.YtaliacnncemneaaGreat.wheels.add_mid hq hm t0 t1 a1 a2) h.n (by show s.now ≤ _; omega) (by omega)
  ·exact same
 ·split
  ·split
   ·rename_i hc
    obtain ⟨⟨t0, t1⟩, hw⟩ := hc
    obtain ⟨hL, hi⟩ := cancel_inv hq t0 t1 hw
    have hww := wake_wait t0 t1 hw
    have ho := hm.out hq.toWBase (t := id) ⟨t0, t1⟩ hL
    exact .of hi ⟨ho.now, ho.w.up (i64 (by omega) (by omega)), ho.k⟩ h.n (by show s.now ≤ _; omega) (by omega)
   ·exact same
  ·split
   ·obtain ⟨qt, qf, ha⟩ := zJo hq hm (by omega)
    have hk := zFw (s := s)
    have hw := fin_wait ha
    exact .of ⟨qf, ha.fin⟩ ha.finM (hk.1.trans h.n) (by rw [hk.2]; omega) (by rw [hw]; omega)
   ·split
    ·have e := zGx (h.sk hT (zGi (nn := nn))) rfl
     have hs := e.sum
     have ht : total ([] : List (List Int)) = 0 := rfl
     have hp := total_pos (l := (zCt (zCl nn) ⟨s, zCl nn, []⟩).past)
     have hn := zGi (nn := nn)
     have hnw := e.now
     refine .of e.q e.mid (e.n.trans h.n) ?_ ?_
     ·have hnw : (zCt (zCl nn) ⟨s, zCl nn, []⟩).s.now = s.now + zCl nn := hnw
      omega
     ·have hs : total (zCt (zCl nn) ⟨s, zCl nn, []⟩).past + (zCt (zCl nn) ⟨s, zCl nn, []⟩).s.wait = total ([] : List (List Int)) + s.wait := hs
      omega
    ·exact same
end Go.Proofs.Wheels
end
