/- What is done comes to. Conditions: those that each theorem names. -/
import Derived.Test.YtaliacnncemneaaGreatSWheelRunf1
import Derived.Test.YtaliacnncemneaaGreatSWheelRunf2
import Derived.Test.YtaliacnncemneaaGreatSWheelRunf3
import Derived.Test.YtaliacnncemneaaGreatSWheelRunf4
import Derived.Test.YtaliacnncemneaaGreatSWheelRunt1
import Derived.Test.YtaliacnncemneaaGreatSWheelRunt2
import Derived.Test.YtaliacnncemneaaGreatSWheelRunt3
import Derived.Test.YtaliacnncemneaaGreatSWheelRunt4
open Go
noncomputable section
namespace Go.Proofs.YtaliacnncemneaaGreat.wheels
open Go.Abs Go.Proofs.Wheels
set_option maxRecDepth 1000000
theorem run_S (b : Bool) {j : Nat} (h : j ≤ 60) : runS b j = true := by
 have part : ∀ {b : Bool} {a n : Nat}, (List.range n).all (fun j => runS b (a + j)) = true → a ≤ j → j < a + n → runS b j = true := fun {b a n} hr h1 h2 => by
  have := List.all_eq_true.1 hr (j - a) (List.mem_range.2 (by omega))
  rw [show a + (j - a) = j by omega] at this
  exact this
 cases b
 ·rcases (show j < 25 ∨ (25 ≤ j ∧ j < 40) ∨ (40 ≤ j ∧ j < 51) ∨ (51 ≤ j ∧ j < 61) by omega) with g | g | g | g
  ·exact part run_Sf1 (Nat.zero_le _) (by omega)
  ·exact part run_Sf2 g.1 (by omega)
  ·exact part run_Sf3 g.1 (by omega)
  ·exact part run_Sf4 g.1 (by omega)
 ·rcases (show j < 25 ∨ (25 ≤ j ∧ j < 40) ∨ (40 ≤ j ∧ j < 51) ∨ (51 ≤ j ∧ j < 61) by omega) with g | g | g | g
  ·exact part run_St1 (Nat.zero_le _) (by omega)
  ·exact part run_St2 g.1 (by omega)
  ·exact part run_St3 g.1 (by omega)
  ·exact part run_St4 g.1 (by omega)
end Go.Proofs.YtaliacnncemneaaGreat.wheels
namespace Go.Proofs.Wheels
open Go.Abs Go.Proofs.YtaliacnncemneaaGreat.wheels
theorem len_eq {s s' : WS} (h : zDg s s') : s.len = s'.len := by
 show s.c 0 + s.c 1 + s.c 2 + s.c 3 = s'.c 0 + s'.c 1 + s'.c 2 + s'.c 3
 rw [h.c 0 (by omega), h.c 1 (by omega), h.c 2 (by omega), h.c 3 (by omega)]
theorem skips_congr : ∀ {n : Nat} {x y : SkS}, zDg x.s y.s → x.k = y.k → x.past = y.past → zDg (zCt n x).s (zCt n y).s ∧ (zCt n x).k = (zCt n y).k ∧ (zCt n x).past = (zCt n y).past := by
 intro n
 induction n with
 | zero => intro x y h1 h2 h3; exact ⟨h1, h2, h3⟩
 | succ n ih =>
  intro x y h1 h2 h3
  unfold zCt
  by_cases hl : x.s.len = 0
  ·rw [if_pos hl, if_pos (by rw [← len_eq h1]; exact hl)]
   exact ⟨⟨h1.n, by show x.s.now + x.k = y.s.now + y.k; rw [h1.now, h2], h1.w, h1.k, h1.c⟩, h2, h3⟩
  ·rw [if_neg hl, if_neg (by rw [← len_eq h1]; exact hl)]
   refine ih (zMt h1) (by show x.k - 1 = y.k - 1; rw [h2]) ?_
   show (if x.s.raw = [] then x.past else x.past ++ [sorted x.s.raw]) = if y.s.raw = [] then y.past else y.past ++ [sorted y.s.raw]
   rw [zJs h1, h3]
theorem at_eq {s s' : WS} (h : zDg s s') (t a : Int) : zDg (s.at_ t a) (s'.at_ t a) := ⟨h.n, h.now, zEd h.w rfl (by rw [h.now]), h.k, h.c⟩
theorem add_eq {s s' : WS} (h : zDg s s') (t a : Int) : zDg (s.add t a) (s'.add t a) := inn_eq (at_eq h t a) rfl
end Go.Proofs.Wheels
namespace Go.Proofs.YtaliacnncemneaaGreat.wheels
open Go.Abs Go.Proofs.Wheels
section
variable {s : WS} {ki id nn : Int} {N R : Nat} {T : Int}
def skE (s : WS) (nn : Int) : SkS := zCt (zCl nn) ⟨s, zCl nn, []⟩
def rk0 (s : WS) (nn : Int) : RS := ⟨s.when_, s.now, zCl nn, []⟩
def rkE (s : WS) (nn : Int) : RS := rsk s.n.toNat (zCl nn) (rk0 s nn)
def scA0 (s : WS) (ki id nn : Int) : List Int := [s.n, s.now, s.c 0, s.c 1, s.c 2, s.c 3, ki, id, nn]
def tbA0 (s : WS) : List TT := [s.when_, s.k.N, s.k.B, s.k.L, s.k.C]
def scAx (s : WS) (ki id nn : Int) : List Int := [(s.act ki id nn).c 0, (s.act ki id nn).c 1, (s.act ki id nn).c 2, (s.act ki id nn).c 3, (s.raw.length : Nat), ((skE s nn).k : Nat), (rkE s nn).k, 0, 0, 0, 0] ++ (List.range 61).map (lenOf (skE s nn))
def tbAx (s : WS) (ki id nn : Int) : List TT := [(s.act ki id nn).when_, (s.act ki id nn).k.N, (s.act ki id nn).k.B, (s.act ki id nn).k.L, (s.act ki id nn).k.C, zAs (sorted s.raw), zT] ++ (List.range 61).map (zLk (skE s nn))
def zBh (s : WS) (ki id nn : Int) : Nat → Int := zCb (scA0 s ki id nn ++ scAx s ki id nn) (tbA0 s ++ tbAx s ki id nn)
theorem oneA {i : Nat} {x : Int} (h : (scA0 s ki id nn ++ scAx s ki id nn)[i]? = some x) (hi : i < 128) : zBh s ki id nn i = x := zAu h hi
theorem tabA {a : Nat} {X : TT} (h : (tbA0 s ++ tbAx s ki id nn)[a - 128]? = some X) (h1 : 128 ≤ a) (h2 : a < 256) : zAg (zAw (zBh s ki id nn) (.tab a)) X := zAq h h1 h2
theorem wsA : zDg (wsE (zBh s ki id nn) (v 0) (v 1) C0 (.tab 128) K0) s := by
 refine ⟨show zBh s ki id nn 0 = s.n from oneA rfl (by decide), show zBh s ki id nn 1 = s.now from oneA rfl (by decide), tabA rfl (by decide) (by decide), ⟨tabA rfl (by decide) (by decide), tabA rfl (by decide) (by decide), tabA rfl (by decide) (by decide), tabA rfl (by decide) (by decide)⟩, fun r hr => ?_⟩
 rcases (show r = 0 ∨ r = 1 ∨ r = 2 ∨ r = 3 by omega) with rfl | rfl | rfl | rfl
 ·exact show zBh s ki id nn 2 = s.c 0 from oneA rfl (by decide)
 ·exact show zBh s ki id nn 3 = s.c 1 from oneA rfl (by decide)
 ·exact show zBh s ki id nn 4 = s.c 2 from oneA rfl (by decide)
 ·exact show zBh s ki id nn 5 = s.c 3 from oneA rfl (by decide)
theorem c9A {r : Nat} (hr : r < 4) : cE (zBh s ki id nn) C9 r = (s.act ki id nn).c r := by
 rcases (show r = 0 ∨ r = 1 ∨ r = 2 ∨ r = 3 by omega) with rfl | rfl | rfl | rfl
 ·exact show zBh s ki id nn 9 = _ from oneA rfl (by decide)
 ·exact show zBh s ki id nn 10 = _ from oneA rfl (by decide)
 ·exact show zBh s ki id nn 11 = _ from oneA rfl (by decide)
 ·exact show zBh s ki id nn 12 = _ from oneA rfl (by decide)
theorem k134A : zEi (lkE (zBh s ki id nn) K134) (s.act ki id nn).k := ⟨tabA rfl (by decide) (by decide), tabA rfl (by decide) (by decide), tabA rfl (by decide) (by decide), tabA rfl (by decide) (by decide)⟩
theorem w133A : zAg (zAw (zBh s ki id nn) (.tab 133)) (s.act ki id nn).when_ := tabA rfl (by decide) (by decide)
structure zJl (N : Nat) (s : WS) (ki id nn : Int) : Prop where
 i : ActI N 59 190000 s
 nm : nn ≤ 9223372036854775807
 nn : In64 nn
 ki : In64 ki
 id : In64 id
theorem lenOf_in (h : zJl N s ki id nn) (i : Nat) : 0 ≤ lenOf (skE s nn) i ∧ lenOf (skE s nn) i ≤ 4096 := by
 have e := zGx (h.i.sk (by omega) (zGi (nn := nn))) rfl
 unfold lenOf
 cases hp : (skE s nn).past[i]? with
 | none => simp
 | some l =>
  have := (e.past l (List.mem_of_getElem? hp)).1
  show (0 : Int) ≤ (l.length : Int) ∧ (l.length : Int) ≤ 4096
  omega
theorem tabOf_mid (h : zJl N s ki id nn) (i : Nat) : zDc (zLk (skE s nn) i) := by
 have e := zGx (h.i.sk (by omega) (zGi (nn := nn))) rfl
 have he : (skE s nn).s.n = s.n := e.n
 obtain ⟨q, hq⟩ := h.i.q
 have hn := hq.rep.n1
 unfold zLk
 cases hp : (skE s nn).past[i]? with
 | none => exact zT_mid
 | some l =>
  refine zBf fun y hy => ?_
  have h1 := (e.past l (List.mem_of_getElem? hp)).2 y hy
  have h2 : y < (skE s nn).s.n := h1.2
  exact i64s h1.1 (by omega)
theorem rsk_k {N : Nat} : ∀ {f : Nat} {x : RS}, RInv N x → 0 ≤ x.k → 0 ≤ (rsk N f x).k ∧ (rsk N f x).k ≤ 100000 := by
 intro f
 induction f with
 | zero => intro x h h0; exact ⟨h0, h.k.1⟩
 | succ f ih =>
  intro x h h0
  unfold rsk
  split
  ·exact ⟨h0, h.k.1⟩
  ·split
   ·exact ⟨h0, h.k.1⟩
   ·rename_i h1 h2
    have hb : zAk x.M N ≠ 0 := fun e => h2 (.inl e)
    have hd : zAk x.M N - x.now ≤ x.k := by
     have : ¬ x.k < zAk x.M N - x.now := fun e => h2 (.inr e)
     omega
    exact ih (h.next (by omega) hb hd).1 (by show 0 ≤ x.k - (zAk x.M N - x.now); omega)
theorem rk0_inv (h : zJl N s ki id nn) : RInv s.n.toNat (rk0 s nn) := by
 obtain ⟨q, hq⟩ := h.i.q
 have hn := hq.rep.n1
 have h0 := hq.now0
 have h1 := h.i.now
 have hk := zGi (nn := nn)
 have hr := h.i.room
 have hw := wait_eq (s := s) (N := s.n.toNat) (by omega)
 refine ⟨by omega, h0, ⟨by show s.now + (zCl nn : Nat) ≤ _; omega, by show s.now ≤ _; omega⟩, h.i.w, fun t t0 t1 => ?_, ⟨by show ((zCl nn : Nat) : Int) ≤ _; omega, by show _ ≤ ((zCl nn : Nat) : Int); omega⟩, (fun l hl => by cases hl), ?_⟩
 ·rcases hq.w t t0 (by omega) with g | g
  ·exact .inl g.1
  ·exact .inr ⟨g.1, by show g0 s.when_ t ≤ most; unfold most; omega⟩
 ·show ((([] : List (List Int)).length : Nat) : Int) + waitM s.when_ s.n.toNat ≤ 60
  rw [← hw]
  simp
  omega
theorem midA (h : zJl N s ki id nn) : zCr In64 (scA0 s ki id nn ++ scAx s ki id nn) ∧ zCr zDc (tbA0 s ++ tbAx s ki id nn) := by
 obtain ⟨q, hq⟩ := h.i.q
 have hm := h.i.mid (by omega)
 have h' := h.i.act (by omega) ki id nn
 obtain ⟨q', hq'⟩ := h'.q
 have hn := hq.rep.n1; have h0 := hq.now0; have h1 := h.i.now
 obtain ⟨qt, qf, ha⟩ := zJo hq hm (by omega)
 have hl := ha.len
 have hk : (skE s nn).k ≤ 100000 := (zGx (h.i.sk (by omega) (zGi (nn := nn))) rfl).k
 have hrk : 0 ≤ (rkE s nn).k ∧ (rkE s nn).k ≤ 100000 := rsk_k (rk0_inv h) (by show (0 : Int) ≤ ((zCl nn : Nat) : Int); omega)
 have big : ∀ x : Int, 0 ≤ x → x ≤ 999000000 → In64 x := fun x a b => by unfold In64; omega
 have cc : ∀ {s : WS} {q : Int → List Int}, zEc s q → ∀ r, r < 4 → In64 (s.c r) := fun {s q} hq r hr => by
  have := hq.c_in hr
  exact big _ this.1 (by omega)
 refine ⟨.app ⟨big _ (by omega) (by omega), big _ (by omega) (by omega), cc hq 0 (by omega), cc hq 1 (by omega), cc hq 2 (by omega), cc hq 3 (by omega), h.ki, h.id, h.nn, trivial⟩ (.app ⟨cc hq' 0 (by omega), cc hq' 1 (by omega), cc hq' 2 (by omega), cc hq' 3 (by omega), big _ (by omega) (by omega), big _ (by omega) (by omega), big _ hrk.1 (by omega), big 0 (by omega) (by omega), big 0 (by omega) (by omega), big 0 (by omega) (by omega), big 0 (by omega) (by omega), trivial⟩ (.of fun x hx => ?_)),
  .app ⟨hm.w, hm.k.N, hm.k.B, hm.k.L, hm.k.C, trivial⟩ (.app ⟨h'.w, h'.k.N, h'.k.B, h'.k.L, h'.k.C, zBf fun y hy => ?_, zT_mid, trivial⟩ (.of fun X hX => ?_))⟩
 ·obtain ⟨i, _, rfl⟩ := List.mem_map.1 hx
  have := lenOf_in h i
  exact big _ this.1 (by omega)
 ·have := ha.th y (zDx.1 hy)
  exact big _ this.1 (by omega)
 ·obtain ⟨i, _, rfl⟩ := List.mem_map.1 hX
  exact tabOf_mid h i
end
section
variable {N : Nat} {s : WS} {ki id nn : Int}
def scA1 (s : WS) (ki id nn : Int) : List Int := scA0 (s.act ki id nn) ki id nn
theorem act_n (h : zJl N s ki id nn) : (s.act ki id nn).n = s.n := (h.i.act (by omega) ki id nn).n.trans h.i.n.symm
theorem zNh [F : Facts] [V : zAc] (h : zJl N s ki id nn) {n now now' kie ide nne w w' : SE} {c c' : C4} {K K' : K4} (hs : zDg (wsE V.env n now c w K) s) (hs' : zDg (wsE V.env n now' c' w' K') (s.act ki id nn)) (e1 : kie.eval V.env = ki) (e2 : ide.eval V.env = id) (e3 : nne.eval V.env = nn)
  (cs : Case) (ls : List zAd) (fs : List zAi) (hto : cs.to = 1) (hrun : runA cs ls fs = true) (hcf : cs.f.length = 9) (hcg : cs.g.length = 5) (hfx : Fx (zBh s ki id nn) cs.pc)
  (hf : Ev (zBh s ki id nn) cs.f (scA1 s ki id nn)) (hg : Rw (zBh s ki id nn) cs.g (tbA0 (s.act ki id nn)))
  (hl : ∀ V' : @zAc ⟨cs.pc⟩, V'.env = zBh s ki id nn → ∀ S ∈ ls, @zAp ⟨cs.pc⟩ V' Tryz.prog [] S) (hfn : ∀ V' : @zAc ⟨cs.pc⟩, V'.env = zBh s ki id nn → ∀ S ∈ fs, @zAj ⟨cs.pc⟩ V' Tryz.prog [] S) :
  zAj Tryz.prog [] (actS fAct PG n now now' c c' kie ide nne w w' K K') := by
 have mid := midA h
 have h' := h.i.act (by omega) ki id nn
 obtain ⟨q', hq'⟩ := h'.q
 have hn' := hq'.rep.n1; have h0' := hq'.now0; have h1' := h'.now
 have big : ∀ x : Int, 0 ≤ x → x ≤ 999000000 → In64 x := fun x a b => by unfold In64; omega
 have cc : ∀ r, r < 4 → In64 ((s.act ki id nn).c r) := fun r hr => by
  have := hq'.c_in hr
  exact big _ this.1 (by omega)
 have m1 : zCr In64 (scA1 s ki id nn) := ⟨big _ (by omega) (by omega), big _ (by omega) (by omega), cc 0 (by omega), cc 1 (by omega), cc 2 (by omega), cc 3 (by omega), h.ki, h.id, h.nn, trivial⟩
 have q1 : zCr zDc (tbA0 (s.act ki id nn)) := ⟨h'.w, h'.k.N, h'.k.B, h'.k.L, h'.k.C, trivial⟩
 obtain ⟨E, hE⟩ : ∃ E, E = zBh s ki id nn := ⟨_, rfl⟩
 have ha0 : Ev V.env (fAc n now c kie ide nne) (scA0 s ki id nn) := ⟨hs.n, hs.now, hs.c 0 (by omega), hs.c 1 (by omega), hs.c 2 (by omega), hs.c 3 (by omega), e1, e2, e3, trivial⟩
 have ha1 : Rw V.env (gW w K) (tbA0 s) := ⟨hs.w, hs.k.N, hs.k.B, hs.k.L, hs.k.C, trivial⟩
 have hz0 : Ev V.env (fAc n now' c' kie ide nne) (scA1 s ki id nn) := ⟨hs'.n, hs'.now, hs'.c 0 (by omega), hs'.c 1 (by omega), hs'.c 2 (by omega), hs'.c 3 (by omega), e1, e2, e3, trivial⟩
 have hz1 : Rw V.env (gW w' K') (tbA0 (s.act ki id nn)) := ⟨hs'.w, hs'.k.N, hs'.k.B, hs'.k.L, hs'.k.C, trivial⟩
 rw [← hE] at hfx hf hg hl hfn
 exact zIl (actS fAct PG n now now' c c' kie ide nne w w' K K') fxAc (av := argA PG) (o := ⟨.ret, 1, fAc n now' c' kie ide nne, gW w' K'⟩) rfl rfl goodAc rfl rfl 9 5 (by decide) (by decide) upsAc rfl rfl rfl rfl cs hto (callK cs.pc ls fs) (E := E) (sc0 := scA0 s ki id nn) (scx := scAx s ki id nn) (sc1 := scA1 s ki id nn) (tb0 := tbA0 s) (tbx := tbAx s ki id nn) (tb1 := tbA0 (s.act ki id nn)) hE
  (fun B V' hV' => callK_ok B V' (hl V' hV') (hfn V' hV')) hrun hfx mid.1 mid.2 m1 q1 hcf hcg hf hg ha0 ha1 hz0 hz1
theorem keep_ev (he : s.act ki id nn = s) : Ev (zBh s ki id nn) [v 0, v 1, v 2, v 3, v 4, v 5, v 6, v 7, v 8] (scA1 s ki id nn) ∧ Rw (zBh s ki id nn) [.tab 128, .tab 129, .tab 130, .tab 131, .tab 132] (tbA0 (s.act ki id nn)) := by
 have w := wsA (s := s) (ki := ki) (id := id) (nn := nn)
 have h6 : zBh s ki id nn 6 = ki := oneA rfl (by decide)
 have h7 : zBh s ki id nn 7 = id := oneA rfl (by decide)
 have h8 : zBh s ki id nn 8 = nn := oneA rfl (by decide)
 unfold scA1
 rw [he]
 exact ⟨⟨w.n, w.now, w.c 0 (by omega), w.c 1 (by omega), w.c 2 (by omega), w.c 3 (by omega), h6, h7, h8, trivial⟩, ⟨w.w, w.k.N, w.k.B, w.k.L, w.k.C, trivial⟩⟩
theorem chg_ev (h : zJl N s ki id nn) {now' w' : SE} (h1 : now'.eval (zBh s ki id nn) = (s.act ki id nn).now) (h2 : zAg (zAw (zBh s ki id nn) w') (s.act ki id nn).when_) : Ev (zBh s ki id nn) [v 0, now', v 9, v 10, v 11, v 12, v 6, v 7, v 8] (scA1 s ki id nn) ∧ Rw (zBh s ki id nn) [w', .tab 134, .tab 135, .tab 136, .tab 137] (tbA0 (s.act ki id nn)) := by
 have w := wsA (s := s) (ki := ki) (id := id) (nn := nn)
 have h6 : zBh s ki id nn 6 = ki := oneA rfl (by decide)
 have h7 : zBh s ki id nn 7 = id := oneA rfl (by decide)
 have h8 : zBh s ki id nn 8 = nn := oneA rfl (by decide)
 have k := k134A (s := s) (ki := ki) (id := id) (nn := nn)
 exact ⟨⟨w.n.trans (act_n h).symm, h1, c9A (r := 0) (by omega), c9A (r := 1) (by omega), c9A (r := 2) (by omega), c9A (r := 3) (by omega), h6, h7, h8, trivial⟩, ⟨h2, k.N, k.B, k.L, k.C, trivial⟩⟩
end
section
variable {N : Nat} {s : WS} {ki id nn : Int}
theorem pcWA (h : zJl N s ki id nn) : Fx (zBh s ki id nn) pcW := by
 obtain ⟨q, hq⟩ := h.i.q
 have hm := h.i.mid (by omega)
 have w := wsA (s := s) (ki := ki) (id := id) (nn := nn)
 refine zDw hq.toWBase hm w.n w.now fun r hr => ?_
 rcases (show r = 0 ∨ r = 1 ∨ r = 2 ∨ r = 3 by omega) with rfl | rfl | rfl | rfl
 ·exact w.c 0 (by omega)
 ·exact w.c 1 (by omega)
 ·exact w.c 2 (by omega)
 ·exact w.c 3 (by omega)
theorem v0A : (v 0).eval (zBh s ki id nn) = s.n := oneA rfl (by decide)
theorem v6A : (v 6).eval (zBh s ki id nn) = ki := oneA rfl (by decide)
theorem v7A : (v 7).eval (zBh s ki id nn) = id := oneA rfl (by decide)
theorem v8A : (v 8).eval (zBh s ki id nn) = nn := oneA rfl (by decide)
theorem w7A : w7.eval (zBh s ki id nn) = g0 s.when_ id := by
 refine (zBv _ 128 (v 7)).trans ?_
 rw [v7A]
 exact (tabA (s := s) (ki := ki) (id := id) (nn := nn) (a := 128) (X := s.when_) rfl (by decide) (by decide)).g _
theorem kindA {k : Int} (e : ki = k) : zCr (Says (zBh s ki id nn)) (zLd k) := ⟨zEq (by rw [v6A, e]; rfl), trivial⟩
theorem idInA (h : 0 ≤ id ∧ id < s.n) : zCr (Says (zBh s ki id nn)) idIn := ⟨zAm (by rw [v7A]; exact h.1), zAm (by rw [v7A]; show id ≤ (v 0).eval _ + (-1); rw [v0A]; omega), trivial⟩
theorem nWA : ∃ j, j < 3 ∧ zCr (Says (zBh s ki id nn)) (nW j) ∧ (j = 2 ↔ 1 ≤ nn ∧ nn ≤ 65535) := by
 by_cases h1 : nn ≤ 0
 ·exact ⟨0, by omega, ⟨zAm (by rw [v8A]; exact h1), trivial⟩, by omega⟩
 ·by_cases h2 : 65535 < nn
  ·exact ⟨1, by omega, ⟨zBz (by rw [v8A]; exact h2), trivial⟩, by omega⟩
  ·exact ⟨2, by omega, zIz (zAv (by rw [v8A]; show (1 : Int) ≤ nn; omega) (by rw [v8A]; show nn ≤ (65535 : Int); omega)), by omega⟩
theorem idWA : ∃ i, i < 3 ∧ zCr (Says (zBh s ki id nn)) (idW i) ∧ (i = 2 ↔ 0 ≤ id ∧ id < s.n) := by
 by_cases h1 : id < 0
 ·exact ⟨0, by omega, ⟨zBz (by rw [v7A]; exact h1), trivial⟩, by omega⟩
 ·by_cases h2 : s.n ≤ id
  ·exact ⟨1, by omega, ⟨zAm (by rw [v7A]; show (0 : Int) ≤ id; omega), zAm (by rw [v7A, v0A]; exact h2), trivial⟩, by omega⟩
  ·exact ⟨2, by omega, idInA (by omega), by omega⟩
theorem zGr [F : Facts] [V : zAc] (h : zJl N s ki id nn) {n now now' kie ide nne w w' : SE} {c c' : C4} {K K' : K4} (hs : zDg (wsE V.env n now c w K) s) (hs' : zDg (wsE V.env n now' c' w' K') (s.act ki id nn)) (e1 : kie.eval V.env = ki) (e2 : ide.eval V.env = id) (e3 : nne.eval V.env = nn)
  {pc : List (SB × Bool)} (he : s.act ki id nn = s) (hrun : runA (csKp pc) [] [] = true) (hpc : zCr (Says (zBh s ki id nn)) pc) : zAj Tryz.prog [] (actS fAct PG n now now' c c' kie ide nne w w' K K') :=
 zNh h hs hs' e1 e2 e3 (csKp pc) [] [] rfl hrun rfl rfl (.app (pcWA h) (zDt hpc)) (keep_ev he).1 (keep_ev he).2 (fun _ _ S hS => by cases hS) (fun _ _ S hS => by cases hS)
theorem act_add [F : Facts] [V : zAc] (h : zJl N s ki id nn) {n now now' kie ide nne w w' : SE} {c c' : C4} {K K' : K4} (hs : zDg (wsE V.env n now c w K) s) (hs' : zDg (wsE V.env n now' c' w' K') (s.act ki id nn)) (e1 : kie.eval V.env = ki) (e2 : ide.eval V.env = id) (e3 : nne.eval V.env = nn)
  (hki : ki = 0) : zAj Tryz.prog [] (actS fAct PG n now now' c c' kie ide nne w w' K K') := by
 obtain ⟨j, hj, pj, ej⟩ := nWA (s := s) (ki := ki) (id := id) (nn := nn)
 obtain ⟨i, hi, pi, ei⟩ := idWA (s := s) (ki := ki) (id := id) (nn := nn)
 have hk := kindA (s := s) (id := id) (nn := nn) hki
 have hact : ¬ (((0 ≤ id ∧ id < s.n) ∧ (1 ≤ nn ∧ nn ≤ 65535) ∧ g0 s.when_ id = 0)) → s.act ki id nn = s := fun hc => by
  unfold WS.act
  rw [if_pos hki, if_neg hc]
 by_cases hj2 : j = 2
 ·subst hj2
  by_cases hi2 : i = 2
  ·subst hi2
   have hid := ei.1 rfl
   have hn := ej.1 rfl
   by_cases hw : g0 s.when_ id = 0
   ·have he : s.act ki id nn = s.add id nn := by
     unfold WS.act
     rw [if_pos hki, if_pos ⟨hid, hn, hw⟩]
    obtain ⟨q, hq⟩ := h.i.q
    have hm := h.i.mid (by omega)
    have ws := wsA (s := s) (ki := ki) (id := id) (nn := nn)
    have hup : zAg (zAw (zBh s ki id nn) wA) (s.add id nn).when_ := zEd ws.w v7A (by show (v 1).eval _ + (v 8).eval _ = s.now + nn; rw [v8A]; rw [show (v 1).eval (zBh s ki id nn) = s.now from ws.now])
    have hnow : (v 1).eval (zBh s ki id nn) = (s.act ki id nn).now := by rw [he]; exact ws.now
    have ev := chg_ev h (now' := v 1) (w' := wA) hnow (by rw [he]; exact hup)
    refine zNh h hs hs' e1 e2 e3 (csCh pcA1 (v 1) wA) [] [zKx fWAdd fns (v 0) (v 1) C0 C9 (v 7) (v 8) (.tab 128) wA K0 K134] rfl run_A1 rfl rfl (.app (pcWA h) (zDt (.app (.app (.app hk pi) pj) ⟨zEq (by rw [w7A]; exact hw), trivial⟩))) ev.1 ev.2 (fun _ _ S hS => by cases hS) (fun V' hV' S hS => ?_)
    simp only [List.mem_cons, List.not_mem_nil, or_false] at hS
    subst hS
    obtain ⟨s', hs0⟩ : ∃ s', s' = wsE (zBh s ki id nn) (v 0) (v 1) C0 (.tab 128) K0 := ⟨_, rfl⟩
    rw [← hs0] at ws
    have ae := add_eq ws id nn
    refine @add_proof ⟨_⟩ V' (v 0) (v 1) (v 7) (v 8) (.tab 128) wA C0 C9 K0 K134 s' q (by rw [hV']; exact hs0.symm) (hq.of ws) (hm.of ws) id nn (by rw [hV']; exact v7A) (by rw [hV']; exact v8A) hid.1 (by rw [ws.n]; exact hid.2) (by rw [ws.w.g]; exact hw) hn.1 hn.2 ?_ (fun r hr => ?_) ?_
    ·rw [hV']; exact hup.trans ae.w.symm
    ·rw [hV', c9A hr, he]; exact (ae.c r hr).symm
    ·rw [hV']
     have := k134A (s := s) (ki := ki) (id := id) (nn := nn)
     rw [he] at this
     exact this.trans ae.k.symm
   ·have hw1 : 0 < g0 s.when_ id := by
     obtain ⟨q, hq⟩ := h.i.q
     have h0 := hq.now0
     rcases hq.w id hid.1 hid.2 with g | g
     ·exact absurd g.1 hw
     ·omega
    exact zGr h hs hs' e1 e2 e3 (hact fun hc => hw hc.2.2) run_A2 (.app (.app (.app hk pi) pj) ⟨zBz (by rw [w7A]; exact hw1), trivial⟩)
  ·exact zGr h hs hs' e1 e2 e3 (hact fun hc => hi2 (ei.2 hc.1)) (List.all_eq_true.1 run_A4 i (List.mem_range.2 (by omega))) (.app (.app hk pi) pj)
 ·exact zGr h hs hs' e1 e2 e3 (hact fun hc => hj2 (ej.2 hc.2.1)) (List.all_eq_true.1 (List.all_eq_true.1 run_A3 i (List.mem_range.2 (by omega))) j (List.mem_range.2 (by omega))) (.app (.app hk pi) pj)
end
section
variable {N : Nat} {s : WS} {ki id nn : Int}
theorem act_cancel [F : Facts] [V : zAc] (h : zJl N s ki id nn) {n now now' kie ide nne w w' : SE} {c c' : C4} {K K' : K4} (hs : zDg (wsE V.env n now c w K) s) (hs' : zDg (wsE V.env n now' c' w' K') (s.act ki id nn)) (e1 : kie.eval V.env = ki) (e2 : ide.eval V.env = id) (e3 : nne.eval V.env = nn)
  (hki : ki = 1) : zAj Tryz.prog [] (actS fAct PG n now now' c c' kie ide nne w w' K K') := by
 obtain ⟨i, hi, pi, ei⟩ := idWA (s := s) (ki := ki) (id := id) (nn := nn)
 have hk := kindA (s := s) (id := id) (nn := nn) hki
 have hact : ¬ ((0 ≤ id ∧ id < s.n) ∧ g0 s.when_ id ≠ 0) → s.act ki id nn = s := fun hc => by
  unfold WS.act
  rw [if_neg (by omega), if_pos hki, if_neg hc]
 by_cases hi2 : i = 2
 ·subst hi2
  have hid := ei.1 rfl
  by_cases hw : g0 s.when_ id = 0
  ·exact zGr h hs hs' e1 e2 e3 (hact fun hc => hc.2 hw) run_C2 (.app (.app hk pi) ⟨zEq (by rw [w7A]; exact hw), trivial⟩)
  ·have he : s.act ki id nn = s.wake id := by
    unfold WS.act
    rw [if_neg (by omega), if_pos hki, if_pos ⟨hid, hw⟩]
   obtain ⟨q, hq⟩ := h.i.q
   have hm := h.i.mid (by omega)
   have hw1 : 0 < g0 s.when_ id := by
    have h0 := hq.now0
    rcases hq.w id hid.1 hid.2 with g | g
    ·exact absurd g.1 hw
    ·omega
   obtain ⟨hL, _⟩ := cancel_inv hq hid.1 hid.2 hw
   have ws := wsA (s := s) (ki := ki) (id := id) (nn := nn)
   have hup : zAg (zAw (zBh s ki id nn) wC) (s.wake id).when_ := zEd ws.w v7A rfl
   have hnow : (v 1).eval (zBh s ki id nn) = (s.act ki id nn).now := by rw [he]; exact ws.now
   have ev := chg_ev h (now' := v 1) (w' := wC) hnow (by rw [he]; exact hup)
   refine zNh h hs hs' e1 e2 e3 (csCh pcC1 (v 1) wC) [] [outS fns (v 0) (v 1) C0 C9 (v 7) (.tab 128) K0 K134] rfl run_C1 rfl rfl (.app (pcWA h) (zDt (.app (.app hk pi) ⟨zBz (by rw [w7A]; exact hw1), trivial⟩))) ev.1 ev.2 (fun _ _ S hS => by cases hS) (fun V' hV' S hS => ?_)
   simp only [List.mem_cons, List.not_mem_nil, or_false] at hS
   subst hS
   have ae := out_eq ws (t := id) (t' := id) rfl
   refine @out_proof ⟨_⟩ V' (v 0) (v 1) (v 7) (.tab 128) C0 C9 K0 K134 q (by rw [hV']; exact hq.toWBase.of ws) (by rw [hV']; exact hm.of ws) (by rw [hV', v7A, v0A]; exact hid) (by rw [hV', v7A]; exact fun e0 => hL ((ws.k.L.g id).symm.trans e0)) (fun r hr => ?_) ?_
   ·rw [hV', c9A hr, he, v7A]; exact (ae.c r hr).symm
   ·rw [hV', v7A]
    have := k134A (s := s) (ki := ki) (id := id) (nn := nn)
    rw [he] at this
    exact this.trans ae.k.symm
 ·exact zGr h hs hs' e1 e2 e3 (hact fun hc => hi2 (ei.2 hc.1)) (List.all_eq_true.1 run_C3 i (List.mem_range.2 (by omega))) (.app hk pi)
theorem act_other [F : Facts] [V : zAc] (h : zJl N s ki id nn) {n now now' kie ide nne w w' : SE} {c c' : C4} {K K' : K4} (hs : zDg (wsE V.env n now c w K) s) (hs' : zDg (wsE V.env n now' c' w' K') (s.act ki id nn)) (e1 : kie.eval V.env = ki) (e2 : ide.eval V.env = id) (e3 : nne.eval V.env = nn)
  (hki : ki < 0 ∨ 3 < ki) : zAj Tryz.prog [] (actS fAct PG n now now' c c' kie ide nne w w' K K') := by
 have he : s.act ki id nn = s := by
  unfold WS.act
  rw [if_neg (by omega), if_neg (by omega), if_neg (by omega), if_neg (by omega)]
 rcases hki with g | g
 ·exact zGr h hs hs' e1 e2 e3 he run_O1 ⟨zBz (by rw [v6A]; exact g), trivial⟩
 ·exact zGr h hs hs' e1 e2 e3 he run_O2 ⟨zBz (by rw [v6A]; exact g), trivial⟩
theorem act_tick [F : Facts] [V : zAc] (hC : zOd Tryz.prog zLp) (h : zJl N s ki id nn) {n now now' kie ide nne w w' : SE} {c c' : C4} {K K' : K4} (hs : zDg (wsE V.env n now c w K) s) (hs' : zDg (wsE V.env n now' c' w' K') (s.act ki id nn)) (e1 : kie.eval V.env = ki) (e2 : ide.eval V.env = id) (e3 : nne.eval V.env = nn)
  (hki : ki = 2) : zAj Tryz.prog [] (actS fAct PG n now now' c c' kie ide nne w w' K K') := by
 have hk := kindA (s := s) (id := id) (nn := nn) hki
 have he : s.act ki id nn = s.fin := by
  unfold WS.act
  rw [if_neg (by omega), if_neg (by omega), if_pos hki]
 obtain ⟨q, hq⟩ := h.i.q
 have hm := h.i.mid (by omega)
 have hnw := h.i.now
 have h0 := hq.now0
 have hrn := hq.rep.n1
 have hN := h.i.n
 obtain ⟨qt, qf, ha⟩ := zJo hq hm (by omega)
 obtain ⟨b, hb⟩ : ∃ b : Bool, b = true ↔ s.raw ≠ [] := ⟨decide (s.raw ≠ []), by simp⟩
 have ws := wsA (s := s) (ki := ki) (id := id) (nn := nn)
 have hw133 := w133A (s := s) (ki := ki) (id := id) (nn := nn)
 have hk134 := k134A (s := s) (ki := ki) (id := id) (nn := nn)
 have v1A : (v 1).eval (zBh s ki id nn) = s.now := ws.now
 have hnow : (add (v 1) (L 1)).eval (zBh s ki id nn) = (s.act ki id nn).now := by
  rw [he, zFw.2]
  show (v 1).eval _ + 1 = _
  rw [v1A]
 have ev := chg_ev h (now' := add (v 1) (L 1)) (w' := .tab 133) hnow hw133
 have v13 : (v 13).eval (zBh s ki id nn) = (s.raw.length : Nat) := oneA rfl (by decide)
 have t138 : zAg (zAw (zBh s ki id nn) (.tab 138)) (zAs (sorted s.raw)) := tabA rfl (by decide) (by decide)
 have hlen := ha.len
 have hrun : runA (csCh (pcT b) (add (v 1) (L 1)) (.tab 133)) [] (fsT fns b) = true := by
  cases b
  ·exact run_Tf
  ·exact run_Tt
 have hpc : zCr (Says (zBh s ki id nn)) (pcT b) := by
  unfold pcT
  refine .app hk ?_
  cases b with
  | false => rw [if_neg (by decide)]; trivial
  | true =>
   rw [if_pos rfl]
   have hne := List.length_pos_iff.2 (hb.1 rfl)
   exact zIz (zAv (by rw [v13]; show (1 : Int) ≤ _; omega) (by rw [v13]; show _ ≤ (4096 : Int); omega))
 refine zNh h hs hs' e1 e2 e3 (csCh (pcT b) (add (v 1) (L 1)) (.tab 133)) [] (fsT fns b) rfl hrun rfl rfl (.app (pcWA h) (zDt hpc)) ev.1 ev.2 (fun _ _ S hS => by cases hS) (fun V' hV' S hS => ?_)
 simp only [fsT, List.mem_cons, List.not_mem_nil, or_false] at hS
 have hdue := raw_due ha hN
 have hfd := fin_due ha hN
 rcases hS with rfl | rfl
 ·obtain ⟨s', hs0⟩ : ∃ s', s' = wsE (zBh s ki id nn) (v 0) (v 1) C0 (.tab 128) K0 := ⟨_, rfl⟩
  rw [← hs0] at ws
  have hr := zJs ws
  have hf := zMt ws
  refine @zNl ⟨_⟩ V' hC (v 0) (v 1) (add (v 1) (L 1)) (v 13) (.tab 128) (.tab 133) (.tab 138) C0 C9 K0 K134 b s' q (by rw [hV']; exact hs0.symm) (hq.of ws) (hm.of ws) (by rw [ws.now]; omega) ?_ ?_ ?_ (fun r hr4 => ?_) ?_ ?_ (by rw [hr]; exact hb)
  ·rw [hV', hr]; exact v13
  ·rw [hV', hnow, he, zFw.2, ws.now]
  ·rw [hV']
   rw [he] at hw133
   exact hw133.trans hf.w.symm
  ·rw [hV', c9A hr4, he]; exact (hf.c r hr4).symm
  ·rw [hV']
   rw [he] at hk134
   exact hk134.trans hf.k.symm
  ·rw [hV', hr]; exact t138
 ·have hR : Ref N s.now s.when_ := ⟨by omega, ⟨h0, by unfold most; omega⟩, hm.w⟩
  have hb' : b = true ↔ zDp s.when_ (s.now + 1) N ≠ [] := by
   rw [hb, ← hdue]
   rw [← List.length_pos_iff, ← List.length_pos_iff, zEt]
  refine @mtick_proof ⟨_⟩ V' N s.now s.when_ (v 0) (v 1) (v 13) (.tab 128) (.tab 133) (.tab 138) (add (v 1) (L 1)) hR (by unfold most; omega) ?_ ?_ ?_ ?_ ?_ ?_ ?_ b hb'
  all_goals rw [hV']
  ·rw [v0A, hN]
  ·exact v1A
  ·show (v 1).eval _ + 1 = _; rw [v1A]
  ·exact ws.w
  ·rw [v13, ← hdue, zEt]
  ·rw [he] at hw133
   exact hw133.trans hfd
  ·rw [← hdue]; exact t138
end
section
variable {N : Nat} {s : WS} {ki id nn : Int}
theorem kE_false (h1 : 0 < nn) (h2 : nn ≤ 3000) : (kE false).eval (zBh s ki id nn) = (zCl nn : Nat) := by
 have e : (kE false).eval (zBh s ki id nn) = nn := v8A
 rw [e]
 unfold zCl
 rw [if_neg (by omega), if_pos h2]
 omega
theorem kE_true (h : zJl N s ki id nn) (h1 : 3000 < nn) : (kE true).eval (zBh s ki id nn) = (zCl nn : Nat) := by
 have mid := midA h
 obtain ⟨m, hm⟩ : ∃ m : Nat, nn = m := ⟨nn.toNat, by omega⟩
 have e : (andC 64 3000 (v 8)).eval (zBh s ki id nn) = ((m &&& 3000 : Nat) : Int) := by
  letI F : Facts := ⟨[]⟩
  letI V : @zAc F := @zAc.mk F (zBh s ki id nn) (fun _ hp => (List.not_mem_nil hp).elim) (zEp mid.1 mid.2) []
  exact andC_ok (n := 64) (c := 3000) (a := v 8) (m := m) (by decide) (show (v 8).eval (zBh s ki id nn) = (m : Int) by rw [v8A, hm])
 show (andC 64 3000 (v 8)).eval _ = _
 rw [e]
 unfold zCl
 rw [if_neg (by omega), if_neg (by omega), hm]
 rfl
theorem act_skip0 [F : Facts] [V : zAc] (h : zJl N s ki id nn) {n now now' kie ide nne w w' : SE} {c c' : C4} {K K' : K4} (hs : zDg (wsE V.env n now c w K) s) (hs' : zDg (wsE V.env n now' c' w' K') (s.act ki id nn)) (e1 : kie.eval V.env = ki) (e2 : ide.eval V.env = id) (e3 : nne.eval V.env = nn)
  (hki : ki = 3) (hz : zCl nn = 0) : zAj Tryz.prog [] (actS fAct PG n now now' c c' kie ide nne w w' K K') := by
 have hk := kindA (s := s) (id := id) (nn := nn) hki
 have he : s.act ki id nn = s := by
  unfold WS.act
  rw [if_neg (by omega), if_neg (by omega), if_neg (by omega), if_pos hki, hz]
  rfl
 by_cases h1 : 3000 < nn
 ·have ek := kE_true (ki := ki) (id := id) h h1
  rw [hz] at ek
  refine zGr h hs hs' e1 e2 e3 (pc := pcS0 true) he run_S0t (.app hk ?_)
  rw [if_pos rfl]
  exact ⟨zBz (by rw [v8A]; exact h1), zAm (by rw [v8A]; exact h.nm), zEq ek, trivial⟩
 ·have h2 : nn ≤ 0 := by
   unfold zCl at hz
   split at hz
   ·assumption
   ·rw [if_pos (by omega)] at hz
    omega
  refine zGr h hs hs' e1 e2 e3 (pc := pcS0 false) he run_S0f (.app hk ?_)
  rw [if_neg (by decide)]
  exact ⟨zAm (by rw [v8A]; exact h2), trivial⟩
end
section
variable {N : Nat} {s : WS} {ki id nn : Int}
theorem v20A {i : Nat} (hi : i < 61) : (v (20 + i)).eval (zBh s ki id nn) = lenOf (skE s nn) i := by
 refine oneA (i := 20 + i) ?_ (by omega)
 rw [show scA0 s ki id nn ++ scAx s ki id nn = (scA0 s ki id nn ++ [(s.act ki id nn).c 0, (s.act ki id nn).c 1, (s.act ki id nn).c 2, (s.act ki id nn).c 3, (s.raw.length : Nat), ((skE s nn).k : Nat), (rkE s nn).k, 0, 0, 0, 0]) ++ (List.range 61).map (lenOf (skE s nn)) from rfl]
 rw [List.getElem?_append_right (by show 20 ≤ 20 + i; omega)]
 show ((List.range 61).map (lenOf (skE s nn)))[20 + i - 20]? = _
 rw [show 20 + i - 20 = i by omega, List.getElem?_map, List.getElem?_range hi]
 rfl
theorem t140A {i : Nat} (hi : i < 61) : zAg (zAw (zBh s ki id nn) (.tab (140 + i))) (zLk (skE s nn) i) := by
 refine tabA (a := 140 + i) ?_ (by omega) (by omega)
 rw [show tbA0 s ++ tbAx s ki id nn = (tbA0 s ++ [(s.act ki id nn).when_, (s.act ki id nn).k.N, (s.act ki id nn).k.B, (s.act ki id nn).k.L, (s.act ki id nn).k.C, zAs (sorted s.raw), zT]) ++ (List.range 61).map (zLk (skE s nn)) from rfl]
 rw [List.getElem?_append_right (by show 12 ≤ 140 + i - 128; omega)]
 show ((List.range 61).map (zLk (skE s nn)))[140 + i - 128 - 12]? = _
 rw [show 140 + i - 128 - 12 = i by omega, List.getElem?_map, List.getElem?_range hi]
 rfl
theorem lsA_get {i : Nat} (hi : i < 61) : lsA[i]? = some (v (20 + i)) := by
 unfold lsA
 rw [List.getElem?_map, List.getElem?_range hi]
 rfl
theorem tsA_get {i : Nat} (hi : i < 61) : tsA[i]? = some (.tab (140 + i)) := by
 unfold tsA
 rw [List.getElem?_map, List.getElem?_range hi]
 rfl
theorem like_end (h : zJl N s ki id nn) : LikeE (skE s nn) (rkE s nn) := by
 obtain ⟨q, hq⟩ := h.i.q
 have hn := hq.rep.n1
 exact skips_rsk (Nat.le_refl _) (h.i.sk (by omega) zGi) rfl ⟨by show s.n = ((s.n.toNat : Nat) : Int); omega, zAg.refl _, rfl, rfl, rfl⟩
theorem skips_some : ∀ {n : Nat} {x : SkS}, ∀ l ∈ (zCt n x).past, l ∈ x.past ∨ l ≠ [] := by
 intro n
 induction n with
 | zero => intro x l hl; exact .inl hl
 | succ n ih =>
  intro x l hl
  unfold zCt at hl
  split at hl
  ·exact .inl hl
  ·rcases ih l hl with g | g
   ·have g : l ∈ (if x.s.raw = [] then x.past else x.past ++ [sorted x.s.raw]) := g
    split at g
    ·exact .inl g
    ·rename_i hne
     rcases List.mem_append.1 g with g | g
     ·exact .inl g
     ·rw [List.mem_singleton] at g
      refine .inr fun e => hne ?_
      rw [g] at e
      exact List.length_eq_zero_iff.1 (by rw [← zEt, e]; rfl)
   ·exact .inr g
theorem skE_some {i : Nat} (hi : i < (skE s nn).past.length) : 1 ≤ lenOf (skE s nn) i := by
 have hm : (skE s nn).past[i] ∈ (skE s nn).past := List.getElem_mem hi
 rcases skips_some _ hm with g | g
 ·cases g
 ·unfold lenOf
  rw [List.getElem?_eq_getElem hi]
  have := List.length_pos_iff.2 g
  show (1 : Int) ≤ ((skE s nn).past[i].length : Int)
  omega
theorem act_skip1 [F : Facts] [V : zAc] (hC : zOd Tryz.prog zLp) (h : zJl N s ki id nn) {n now now' kie ide nne w w' : SE} {c c' : C4} {K K' : K4} (hs : zDg (wsE V.env n now c w K) s) (hs' : zDg (wsE V.env n now' c' w' K') (s.act ki id nn)) (e1 : kie.eval V.env = ki) (e2 : ide.eval V.env = id) (e3 : nne.eval V.env = nn)
  (hki : ki = 3) (hz : 1 ≤ zCl nn) : zAj Tryz.prog [] (actS fAct PG n now now' c c' kie ide nne w w' K K') := by
 have hk := kindA (s := s) (id := id) (nn := nn) hki
 have he : s.act ki id nn = (skE s nn).s := by
  unfold WS.act
  rw [if_neg (by omega), if_neg (by omega), if_neg (by omega), if_pos hki]
  rfl
 obtain ⟨q, hq⟩ := h.i.q
 have hm := h.i.mid (by omega)
 have hnw := h.i.now
 have h0 := hq.now0
 have hrn := hq.rep.n1
 have hN := h.i.n
 have h3 := zGi (nn := nn)
 have hpos : 0 < nn := Classical.byContradiction fun hc => by
  unfold zCl at hz
  rw [if_pos (by omega)] at hz
  omega
 have hend := zGx (h.i.sk (by omega) (zGi (nn := nn))) rfl
 have hroom : (skE s nn).past.length ≤ 59 := hend.room
 have henow : (skE s nn).s.now = s.now + (zCl nn : Nat) := hend.now
 obtain ⟨j, hj⟩ : ∃ j, (skE s nn).past.length = j := ⟨_, rfl⟩
 obtain ⟨b, hb⟩ : ∃ b : Bool, b = decide (3000 < nn) := ⟨_, rfl⟩
 have hkE : (kE b).eval (zBh s ki id nn) = (zCl nn : Nat) := by
  by_cases hc : 3000 < nn
  ·rw [hb, decide_eq_true hc]; exact kE_true h hc
  ·rw [hb, decide_eq_false hc]; exact kE_false hpos (by omega)
 have ws := wsA (s := s) (ki := ki) (id := id) (nn := nn)
 have v1A : (v 1).eval (zBh s ki id nn) = s.now := ws.now
 have hw133 := w133A (s := s) (ki := ki) (id := id) (nn := nn)
 have hk134 := k134A (s := s) (ki := ki) (id := id) (nn := nn)
 have hnow0 : (add (v 1) (kE b)).eval (zBh s ki id nn) = (skE s nn).s.now := by
  show (v 1).eval _ + (kE b).eval _ = _
  rw [v1A, hkE, henow]
 have ev := chg_ev h (now' := add (v 1) (kE b)) (w' := .tab 133) (by rw [hnow0, he]) hw133
 have hpc : zCr (Says (zBh s ki id nn)) (pcS b j) := by
  refine .app (.app hk ?_) (.of fun p hp => ?_)
  ·by_cases hc : 3000 < nn
   ·rw [hb, decide_eq_true hc, if_pos rfl]
    rw [hb, decide_eq_true hc] at hkE
    exact .app ⟨zBz (by rw [v8A]; exact hc), zAm (by rw [v8A]; exact h.nm), trivial⟩ (zIz (zAv (by rw [hkE]; show (1 : Int) ≤ _; omega) (by rw [hkE]; show _ ≤ (3000 : Int); omega)))
   ·rw [hb, decide_eq_false hc, if_neg (by decide)]
    exact zIz (zAv (by rw [v8A]; show (1 : Int) ≤ _; omega) (by rw [v8A]; show _ ≤ (3000 : Int); omega))
  ·obtain ⟨l, hl, hp⟩ := List.mem_flatten.1 hp
   obtain ⟨i, hi, rfl⟩ := List.mem_map.1 hl
   have hi := List.mem_range.1 hi
   have hv := v20A (s := s) (ki := ki) (id := id) (nn := nn) (i := i) (by omega)
   have hin := lenOf_in h i
   have h1 : 1 ≤ lenOf (skE s nn) i := by
    have := skE_some (s := s) (nn := nn) (i := i) (by omega)
    exact this
   exact (zIz (zAv (lo := L 1) (e := v (20 + i)) (hi := L 4096) (by rw [hv]; exact h1) (by rw [hv]; exact hin.2))).mem p hp
 refine zNh h hs hs' e1 e2 e3 (csCh (pcS b j) (add (v 1) (kE b)) (.tab 133)) (skA fns j (kE b)) [] rfl (run_S b (by omega)) rfl rfl (.app (pcWA h) (zDt hpc)) ev.1 ev.2 (fun V' hV' S hS => ?_) (fun _ _ S hS => by cases hS)
 simp only [skA, List.mem_cons, List.not_mem_nil, or_false] at hS
 have hlike := like_end h
 rcases hS with rfl | rfl
 ·obtain ⟨s', hs0⟩ : ∃ s', s' = wsE (zBh s ki id nn) (v 0) (v 1) C0 (.tab 128) K0 := ⟨_, rfl⟩
  rw [← hs0] at ws
  obtain ⟨c1, c2, c3⟩ := skips_congr (n := zCl nn) (x := ⟨s', zCl nn, []⟩) (y := ⟨s, zCl nn, []⟩) ws rfl rfl
  have c1 : zDg (zCt (zCl nn) ⟨s', zCl nn, []⟩).s (skE s nn).s := c1
  have c2 : (zCt (zCl nn) ⟨s', zCl nn, []⟩).k = (skE s nn).k := c2
  have c3 : (zCt (zCl nn) ⟨s', zCl nn, []⟩).past = (skE s nn).past := c3
  have hwt : s'.wait = s.wait := by rw [← zGl (hq.of ws), ← zGl hq, len_eq ws]
  have hrm := h.i.room
  have h60 : zIb 60 ⟨s', zCl nn, []⟩ := ⟨⟨q, hq.of ws⟩, hm.of ws, by show s'.now + (zCl nn : Nat) + 1 ≤ _; rw [ws.now]; omega, by show zCl nn ≤ 100000; omega, (fun l hl => by cases hl), by show ((([] : List (List Int)).length : Nat) : Int) + s'.wait ≤ ((60 : Nat) : Int); rw [hwt]; simp; omega⟩
  refine @sk_proof ⟨_⟩ V' hC (v 0) (v 1) (add (v 1) (kE b)) (kE b) (v 14) (.tab 128) (.tab 133) C0 C9 K0 K134 lsA tsA j (zCl nn) s' (zCt (zCl nn) ⟨s', zCl nn, []⟩) (by rw [hV']; exact hs0.symm) (by rw [hV']; exact hkE) h60 rfl (by rw [c3]; exact hj) ?_ ?_ (fun r hr => ?_) ?_ ?_ (by simp [lsA]) (by simp [tsA]) (fun i hi => ?_) (fun i hi => ?_)
  ·rw [hV', hnow0, c1.now]
  ·rw [hV', c2]; exact (show zBh s ki id nn 14 = _ from oneA rfl (by decide))
  ·rw [hV', c9A hr, he]; exact (c1.c r hr).symm
  ·rw [hV']
   rw [he] at hw133
   exact hw133.trans c1.w.symm
  ·rw [hV']
   rw [he] at hk134
   exact hk134.trans c1.k.symm
  ·rw [hV', lsA_get hi]
   show (v (20 + i)).eval _ = _
   rw [v20A hi]
   unfold lenOf
   rw [c3]
  ·rw [hV', tsA_get hi]
   have := t140A (s := s) (ki := ki) (id := id) (nn := nn) hi
   unfold zLk at this ⊢
   rw [c3]
   exact this
 ·have hjj : (rkE s nn).past.length = j := by rw [hlike.past]; exact hj
  have hNn : ((s.n.toNat : Nat) : Int) = s.n := by omega
  have hms : ∀ jj : Nat, (rkE s nn).past.length = jj → @zAp ⟨(csCh (pcS b j) (add (v 1) (kE b)) (.tab 133)).pc⟩ V' Tryz.prog [] (msS 27 fns.G jj (v 0) (v 1) (add (v 1) (kE b)) (kE b) (v 15) (.tab 128) (.tab 133) lsA tsA) := by
   intro jj e
   subst e
   refine ms_proof (F := ⟨(csCh (pcS b j) (add (v 1) (kE b)) (.tab 133)).pc⟩) (V := V') (N := s.n.toNat) (x := rk0 s nn) (e := rkE s nn) (f := zCl nn) (rk0_inv h) rfl (Int.le_refl _) rfl (by simp [lsA]) (by simp [tsA]) ?_ ?_ ?_ ?_ ?_ ?_ ?_ ?_ ?_
   all_goals rw [hV']
   ·rw [v0A, hNn]
   ·exact v1A
   ·exact hkE
   ·exact ws.w
   ·rw [hnow0]; exact hlike.now.symm
   ·exact (show zBh s ki id nn 15 = _ from oneA rfl (by decide))
   ·rw [he] at hw133
    exact hw133.trans hlike.M.symm
   ·refine zOt.of_get (by simp [lsA]) fun i a x ha hx => ?_
    have hi : i < 61 := by
     have := (List.getElem?_eq_some_iff.1 ha).1
     simpa [lsA] using this
    rw [lsA_get hi] at ha
    rw [List.getElem?_map, List.getElem?_range hi] at hx
    cases ha
    cases hx
    rw [v20A hi]
    unfold lenOf zNk
    rw [hlike.past]
   ·refine zOt.of_get (by simp [tsA]) fun i a x ha hx => ?_
    have hi : i < 61 := by
     have := (List.getElem?_eq_some_iff.1 ha).1
     simpa [tsA] using this
    rw [tsA_get hi] at ha
    rw [List.getElem?_map, List.getElem?_range hi] at hx
    cases ha
    cases hx
    have := t140A (s := s) (ki := ki) (id := id) (nn := nn) hi
    unfold zLk at this
    unfold zOy
    rw [hlike.past]
    exact this
  exact hms j hjj
end
theorem act_proof [F : Facts] [V : zAc] {N : Nat} {s : WS} {ki id nn : Int} (hC : zOd Tryz.prog zLp) (h : zJl N s ki id nn) {n now now' kie ide nne w w' : SE} {c c' : C4} {K K' : K4} (hs : zDg (wsE V.env n now c w K) s) (hs' : zDg (wsE V.env n now' c' w' K') (s.act ki id nn)) (e1 : kie.eval V.env = ki) (e2 : ide.eval V.env = id) (e3 : nne.eval V.env = nn) :
  zAj Tryz.prog [] (actS fAct PG n now now' c c' kie ide nne w w' K K') := by
 by_cases h0 : ki = 0
 ·exact act_add h hs hs' e1 e2 e3 h0
 by_cases h1 : ki = 1
 ·exact act_cancel h hs hs' e1 e2 e3 h1
 by_cases h2 : ki = 2
 ·exact act_tick hC h hs hs' e1 e2 e3 h2
 by_cases h3 : ki = 3
 ·by_cases hz : zCl nn = 0
  ·exact act_skip0 h hs hs' e1 e2 e3 h3 hz
  ·exact act_skip1 hC h hs hs' e1 e2 e3 h3 (by omega)
 ·exact act_other h hs hs' e1 e2 e3 (by omega)
end Go.Proofs.YtaliacnncemneaaGreat.wheels
end
