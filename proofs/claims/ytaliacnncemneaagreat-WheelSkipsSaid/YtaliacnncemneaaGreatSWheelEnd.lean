/- The law's walk. Conditions: those that each theorem names. -/
import Derived.Test.YtaliacnncemneaaGreatSWheelTicks
open Go
noncomputable section
namespace Go.Proofs.YtaliacnncemneaaGreat.wheels
open Go.Abs Go.Proofs.Wheels
set_option maxRecDepth 1000000
noncomputable def zOr (J : Nat) (b : Bool) : Bool := runAt 4 (pcS1 J b) (lawSL fns J) (lawSF fns b) (argS true PG) (heapS true PG)
theorem sk_runs0 : (List.range 3).all (fun J => zOr J true && zOr J false) = true := by kernel_rfl
theorem sk_runs1 : (List.range 3).all (fun J => zOr (3 + J) true && zOr (3 + J) false) = true := by kernel_rfl
theorem sk_runs2 : (List.range 3).all (fun J => zOr (6 + J) true && zOr (6 + J) false) = true := by kernel_rfl
theorem sk_runs3 : (List.range 2).all (fun J => zOr (9 + J) true && zOr (9 + J) false) = true := by kernel_rfl
theorem sk_none : runAt 4 pcS00 (lawSL0 fns) (lawSF0 fns) (argS false PG) (heapS false PG) = true := by kernel_rfl
theorem sk_big : runAt 4 pcSBig [] [] (argS true PG) (heapS true PG) = true := by kernel_rfl
theorem sk_at {J : Nat} (h : J ≤ 10) (b : Bool) : zOr J b = true := by
 have two : ∀ {a n : Nat}, (List.range n).all (fun J => zOr (a + J) true && zOr (a + J) false) = true → a ≤ J → J < a + n → zOr J b = true := fun {a n} hr h1 h2 => by
  have := List.all_eq_true.1 hr (J - a) (List.mem_range.2 (by omega))
  rw [show a + (J - a) = J by omega, Bool.and_eq_true] at this
  cases b
  ·exact this.2
  ·exact this.1
 by_cases h0 : J < 3
 ·have := List.all_eq_true.1 sk_runs0 J (List.mem_range.2 h0)
  rw [Bool.and_eq_true] at this
  cases b
  ·exact this.2
  ·exact this.1
 by_cases h1 : J < 6
 ·exact two sk_runs1 (by omega) (by omega)
 by_cases h2 : J < 9
 ·exact two sk_runs2 (by omega) (by omega)
 exact two sk_runs3 (by omega) (by omega)
section
variable (len : Nat) (A : TT) (x1 : Int)
def kZ : Nat := (x1 % 2000).toNat
def zFr : SkS := zCt (kZ x1) ⟨stA A (WS.new 10) len, kZ x1, []⟩
def scZ : List Int := [(len : Int), x1, (stA A (WS.new 10) len).now, (stA A (WS.new 10) len).c 0, (stA A (WS.new 10) len).c 1, (stA A (WS.new 10) len).c 2, (stA A (WS.new 10) len).c 3, 0,
 (zFr len A x1).s.c 0, (zFr len A x1).s.c 1, (zFr len A x1).s.c 2, (zFr len A x1).s.c 3, ((zFr len A x1).k : Int), ((allM (zFr len A x1).s.when_ 10).length : Int), 0, 0, 0, 0, 0, 0] ++ (List.range 11).map (zNk (zFr len A x1).past)
def tbZ : List TT := [A, idT 138, zMi 10, (stA A (WS.new 10) len).when_, (stA A (WS.new 10) len).k.N, (stA A (WS.new 10) len).k.B, (stA A (WS.new 10) len).k.L, (stA A (WS.new 10) len).k.C,
 (zFr len A x1).s.when_, (zFr len A x1).s.k.N, (zFr len A x1).s.k.B, (zFr len A x1).s.k.L, (zFr len A x1).s.k.C, zAs (allM (zFr len A x1).s.when_ 10), zBj, zBj, zBj] ++ (List.range 11).map (zOy (zFr len A x1).past)
def encZ : Nat → Int := zCb (scZ len A x1) (tbZ len A x1)
end
structure zOe (len : Nat) (A : TT) (x1 : Int) : Prop where
 mid : ∀ r c, In64 (A r c)
 nm : ∀ r, r < len → A r 2 ≤ 9223372036854775807
 x : 0 ≤ x1 ∧ x1 ≤ 65535
 len : len ≤ 40
section
variable {len : Nat} {A : TT} {x1 : Int}
theorem zOe.acts (h : zOe len A x1) : ActsIn A (WS.new 10) 10 len := ⟨new_act (by omega) (by omega), h.mid, h.nm, by have := h.len; omega⟩
theorem zOe.st (h : zOe len A x1) : ActI 10 len (3000 * len) (stA A (WS.new 10) len) := stA_i h.acts.h len (by have := h.len; omega)
theorem kZ_in (h : zOe len A x1) : kZ x1 ≤ 1999 ∧ ((kZ x1 : Nat) : Int) = x1 % 2000 := by
 have h1 := Int.emod_nonneg x1 (show (2000 : Int) ≠ 0 by omega)
 have h2 := Int.emod_lt_of_pos x1 (show (0 : Int) < 2000 by omega)
 unfold kZ
 omega
theorem wait10 {s : WS} (h : s.n = 10) : s.wait ≤ 10 := by
 have := (zKp (p := fun t => !decide (g0 s.when_ t = 0)) (n := s.n.toNat)).2
 unfold WS.wait
 rw [h] at this ⊢
 exact this
theorem zOe.sk (h : zOe len A x1) {R : Nat} (hR : 10 ≤ R) : zIb R ⟨stA A (WS.new 10) len, kZ x1, []⟩ := by
 have st := h.st
 have hk := kZ_in h
 have hl := h.len
 have hw := wait10 (s := stA A (WS.new 10) len) st.n
 have hn := st.now
 refine ⟨st.q, st.mid (by omega), by show (stA A (WS.new 10) len).now + (kZ x1 : Nat) + 1 ≤ _; omega, by show kZ x1 ≤ 100000; omega, (fun l hl => by cases hl), ?_⟩
 show ((([] : List (List Int)).length : Nat) : Int) + (stA A (WS.new 10) len).wait ≤ ((R : Nat) : Int)
 simp
 omega
theorem zOe.end (h : zOe len A x1) : SkEnd 10 ⟨stA A (WS.new 10) len, kZ x1, []⟩ (zFr len A x1) := zGx (h.sk (Nat.le_refl 10)) rfl
theorem end_n (h : zOe len A x1) : (zFr len A x1).s.n = 10 := h.end.n.trans h.st.n
theorem end_now (h : zOe len A x1) : (zFr len A x1).s.now = (stA A (WS.new 10) len).now + (kZ x1 : Nat) := h.end.now
theorem zOe.ac (h : zOe len A x1) : ActI 10 10 (3000 * len + 2000) (zFr len A x1).s := by
 have hk := kZ_in h
 have hn := h.st.now
 have he := end_now h
 exact ActI.of h.end.q h.end.mid (end_n h) (by omega) (wait10 (end_n h))
theorem oneZ {a : Nat} {y : Int} (h : (scZ len A x1)[a]? = some y) (ha : a < 128) : encZ len A x1 a = y := zAu h ha
theorem tabZ {a : Nat} {X : TT} (h : (tbZ len A x1)[a - 128]? = some X) (h1 : 128 ≤ a) (h2 : a < 256) : zAg (zAw (encZ len A x1) (.tab a)) X := zAq h h1 h2
theorem v0Z : (v 0).eval (encZ len A x1) = len := oneZ rfl (by decide)
theorem v1Z : (v 1).eval (encZ len A x1) = x1 := oneZ rfl (by decide)
theorem v13Z : (v 13).eval (encZ len A x1) = (allM (zFr len A x1).s.when_ 10).length := oneZ rfl (by decide)
theorem t128Z : zAg (zAw (encZ len A x1) (.tab 128)) A := tabZ rfl (by decide) (by decide)
theorem t141Z : zAg (zAw (encZ len A x1) (.tab 141)) (zAs (allM (zFr len A x1).s.when_ 10)) := tabZ rfl (by decide) (by decide)
theorem kSZ (h : zOe len A x1) : kS.eval (encZ len A x1) = (kZ x1 : Nat) := by
 rw [(kZ_in h).2]
 show ((v 1).eval (encZ len A x1)).tmod 2000 = _
 rw [v1Z, tmod_pos h.x.1]
theorem lZ {a : Nat} (ha : a < 11) : (v (20 + a)).eval (encZ len A x1) = zNk (zFr len A x1).past a := by
 refine oneZ (a := 20 + a) ?_ (by omega)
 rw [Nat.add_comm 20 a]
 show ((List.range 11).map (zNk (zFr len A x1).past))[a]? = _
 rw [List.getElem?_map, List.getElem?_range ha]; rfl
theorem uZ {a : Nat} (ha : a < 11) : zAg (zAw (encZ len A x1) (.tab (145 + a))) (zOy (zFr len A x1).past a) := by
 refine tabZ ?_ (by omega) (by omega)
 rw [show 145 + a - 128 = a + 17 by omega]
 show ((List.range 11).map (zOy (zFr len A x1).past))[a]? = _
 rw [List.getElem?_map, List.getElem?_range ha]; rfl
theorem wsZ0 : zDg (wsE (encZ len A x1) (L 10) (L 0) z4 zS KN) (WS.new 10) := by
 refine ⟨rfl, rfl, zDq (encZ len A x1), ⟨tabZ rfl (by decide) (by decide), tabZ rfl (by decide) (by decide), tabZ rfl (by decide) (by decide), zDq (encZ len A x1)⟩, fun r hr => ?_⟩
 rcases (show r = 0 ∨ r = 1 ∨ r = 2 ∨ r = 3 by omega) with rfl | rfl | rfl | rfl <;> rfl
theorem wsZ1 (h : zOe len A x1) : zDg (wsE (encZ len A x1) (L 10) (v 2) cS1 (.tab 131) kS1) (stA A (WS.new 10) len) := by
 have hn := h.st.n
 refine ⟨hn.symm, show encZ len A x1 2 = _ from oneZ rfl (by decide), tabZ rfl (by decide) (by decide), ⟨tabZ rfl (by decide) (by decide), tabZ rfl (by decide) (by decide), tabZ rfl (by decide) (by decide), tabZ rfl (by decide) (by decide)⟩, fun r hr => ?_⟩
 rcases (show r = 0 ∨ r = 1 ∨ r = 2 ∨ r = 3 by omega) with rfl | rfl | rfl | rfl
 ·exact show encZ len A x1 3 = _ from oneZ rfl (by decide)
 ·exact show encZ len A x1 4 = _ from oneZ rfl (by decide)
 ·exact show encZ len A x1 5 = _ from oneZ rfl (by decide)
 ·exact show encZ len A x1 6 = _ from oneZ rfl (by decide)
theorem nowZ (h : zOe len A x1) : nowS.eval (encZ len A x1) = (zFr len A x1).s.now := by
 rw [end_now h, ← kSZ h]
 show (v 2).eval _ + _ = _
 rw [show (v 2).eval (encZ len A x1) = (stA A (WS.new 10) len).now from oneZ rfl (by decide)]
theorem wsZ2 (h : zOe len A x1) : zDg (wsE (encZ len A x1) (L 10) nowS cS2 (.tab 136) kS2) (zFr len A x1).s := by
 refine ⟨(end_n h).symm, nowZ h, tabZ rfl (by decide) (by decide), ⟨tabZ rfl (by decide) (by decide), tabZ rfl (by decide) (by decide), tabZ rfl (by decide) (by decide), tabZ rfl (by decide) (by decide)⟩, fun r hr => ?_⟩
 rcases (show r = 0 ∨ r = 1 ∨ r = 2 ∨ r = 3 by omega) with rfl | rfl | rfl | rfl
 ·exact show encZ len A x1 8 = _ from oneZ rfl (by decide)
 ·exact show encZ len A x1 9 = _ from oneZ rfl (by decide)
 ·exact show encZ len A x1 10 = _ from oneZ rfl (by decide)
 ·exact show encZ len A x1 11 = _ from oneZ rfl (by decide)
theorem pastZ (h : zOe len A x1) : (zFr len A x1).past.length ≤ 10 := h.end.room
theorem encZ_mid (h : zOe len A x1) : ∀ j, In64 (encZ len A x1 j) := by
 have hl := h.len
 have hx := h.x
 have st := h.st
 have ac := h.ac
 have hk : (zFr len A x1).k ≤ 100000 := h.end.k
 obtain ⟨a1, a2, a3, a4⟩ := act_mid st (by omega)
 obtain ⟨b1, b2, b3, b4⟩ := act_mid ac (by omega)
 have z : In64 (0 : Int) := by unfold In64; omega
 have hp : ∀ l ∈ (zFr len A x1).past, l.length ≤ 4096 ∧ ∀ t ∈ l, 0 ≤ t ∧ t < ((10 : Nat) : Int) := fun l hl => by
  have := h.end.past l hl
  rw [end_n h] at this
  exact this
 refine zEp (show zCr In64 (scZ len A x1) from .app ⟨zCf (by omega), by unfold In64; omega, a2, a3 0 (by omega), a3 1 (by omega), a3 2 (by omega), a3 3 (by omega), z, b3 0 (by omega), b3 1 (by omega), b3 2 (by omega), b3 3 (by omega), zCf hk, b4, z, z, z, z, z, z, trivial⟩ (range1 fun a _ => ?_))
  (show zCr zDc (tbZ len A x1) from .app ⟨fun r c _ => h.mid r c, zDv (by omega), zKk, st.w, st.k.N, st.k.B, st.k.L, st.k.C, ac.w, ac.k.N, ac.k.B, ac.k.L, ac.k.C, zBf fun y hy => ?_, zAy, zAy, zAy, trivial⟩ (range1 fun a _ => tabP_mid (N := 10) (by omega) hp a))
 ·have := lenP_le hp a
  unfold In64; omega
 ·have := zNg.1 hy
  unfold In64; omega
theorem z_new [F : Facts] [V : zAc] (hV : V.env = encZ len A x1) : zAj Tryz.prog [] (newS 6 fns.G (L 10) (.tab 129) (.tab 130)) := by
 refine new_proof (N := 10) (by omega) rfl ?_ ?_
 all_goals rw [hV]
 ·exact tabZ rfl (by decide) (by decide)
 ·exact tabZ rfl (by decide) (by decide)
theorem zNe {env : Nat → Int} {e : SE} {T : TT} (h : zAg (zAw env e) T) : zAg (zAw env (catZ e)) T := fun r c hc => by
 refine Eq.trans ?_ (h r c hc)
 have e1 : (catZ e).row env (r : Int) c = if (r : Int) < 0 then (SE.const (L 0)).row env (r : Int) c else e.row env ((r : Int) - 0) c := rfl
 show (catZ e).row env (r : Int) c = e.row env (r : Int) c
 rw [e1, if_neg (by omega), Int.sub_zero]
theorem cat_ws {env : Nat → Int} {n now w : SE} {c : C4} {K : K4} {s : WS} (h : zDg (wsE env n now c w K) s) : zDg (wsE env n now c (catZ w) (catK K)) s :=
 ⟨h.n, h.now, zNe h.w, ⟨zNe h.k.N, zNe h.k.B, zNe h.k.L, zNe h.k.C⟩, h.c⟩
theorem lenOf_P {y : SkS} {i : Nat} : lenOf y i = zNk y.past i := rfl
theorem tabOf_P {y : SkS} {i : Nat} : zLk y i = zOy y.past i := rfl
theorem lenP_out {p : List (List Int)} {i : Nat} (h : p.length ≤ i) : zNk p i = 0 := by
 unfold zNk
 rw [List.getElem?_eq_none h]; rfl
theorem tabP_out {p : List (List Int)} {i : Nat} (h : p.length ≤ i) : zOy p i = zBj := by
 unfold zOy
 rw [List.getElem?_eq_none h]; rfl
theorem sk_told [F : Facts] [V : zAc] {n now now' ke k' w w' : SE} {c c' : C4} {K K' : K4} {ls ts : List SE} {k : Nat} {s : WS} {e : SkS} (h : zIb 60 ⟨s, k, []⟩) (he : zCt k ⟨s, k, []⟩ = e) (hs : zDg (wsE V.env n now c w K) s) (hk : ke.eval V.env = k) (hs' : zDg (wsE V.env n now' c' w' K') e.s) (hk' : k'.eval V.env = e.k)
  (hll : ls.length = 61) (htl : ts.length = 61) (hls : ∀ i a, i < 61 → ls[i]? = some a → a.eval V.env = zNk e.past i) (hts : ∀ i a, i < 61 → ts[i]? = some a → zAg (zAw V.env a) (zOy e.past i)) : zAp Tryz.prog [] (skS 18 fns e.past.length n now now' c c' ke k' w w' K K' ls ts) := by
 obtain ⟨s', hs0⟩ : ∃ s', s' = wsE V.env n now c w K := ⟨_, rfl⟩
 rw [← hs0] at hs
 obtain ⟨c1, c2, c3⟩ := skips_congr (n := k) (x := ⟨s', k, []⟩) (y := ⟨s, k, []⟩) hs rfl rfl
 rw [he] at c1 c2 c3
 obtain ⟨q, hq⟩ := h.q
 have hq : zEc s q := hq
 have hm : zEh s := h.mid
 have hnw : s.now + (k : Nat) + 1 ≤ 999000000 := h.now
 have hkk : k ≤ 100000 := h.k
 have hrm : ((([] : List (List Int)).length : Nat) : Int) + s.wait ≤ ((60 : Nat) : Int) := h.room
 have hwt : s'.wait = s.wait := by rw [← zGl (hq.of hs), ← zGl hq, len_eq hs]
 have h60 : zIb 60 ⟨s', k, []⟩ := ⟨⟨q, hq.of hs⟩, hm.of hs, by show s'.now + (k : Nat) + 1 ≤ _; rw [hs.now]; exact hnw, hkk, (fun l hl => by cases hl), by show ((([] : List (List Int)).length : Nat) : Int) + s'.wait ≤ ((60 : Nat) : Int); rw [hwt]; exact hrm⟩
 refine sk_proof sortC (e := zCt k ⟨s', k, []⟩) hs0.symm hk h60 rfl (by rw [c3]) ?_ ?_ (fun r hr => ?_) ?_ ?_ (by omega) (by omega) (fun i hi => ?_) (fun i hi => ?_)
 ·rw [c1.now]; exact hs'.now
 ·rw [c2]; exact hk'
 ·rw [c1.c r hr]; exact hs'.c r hr
 ·exact hs'.w.trans c1.w.symm
 ·exact hs'.k.trans c1.k.symm
 ·obtain ⟨a, ha⟩ : ∃ a, ls[i]? = some a := ⟨_, List.getElem?_eq_getElem (by omega)⟩
  rw [ha, lenOf_P, c3]
  exact hls i a hi ha
 ·obtain ⟨a, ha⟩ : ∃ a, ts[i]? = some a := ⟨_, List.getElem?_eq_getElem (by omega)⟩
  rw [ha, tabOf_P, c3]
  exact hts i a hi ha
theorem lsS_get {i : Nat} (hi : i < 11) : lsS[i]? = some (v (20 + i)) := by
 unfold lsS
 rw [List.getElem?_map, List.getElem?_range hi]; rfl
theorem tsS_get {i : Nat} (hi : i < 11) : tsS[i]? = some (.tab (145 + i)) := by
 unfold tsS
 rw [List.getElem?_map, List.getElem?_range hi]; rfl
theorem z_loops [F : Facts] [V : zAc] (h : zOe len A x1) (hV : V.env = encZ len A x1) : ∀ S ∈ lawSL fns (zFr len A x1).past.length, zAp Tryz.prog [] S := fun S hS => by
 have hp := pastZ h
 have hk := kZ_in h
 have hl11 : lsS.length = 11 := by simp [lsS]
 have ht11 : tsS.length = 11 := by simp [tsS]
 simp only [lawSL, List.mem_cons, List.not_mem_nil, or_false] at hS
 rcases hS with rfl | rfl | rfl
 ·refine y_proof sortC h.acts ?_ ?_ ?_ (V.mid 1) ?_
  all_goals rw [hV]
  ·exact wsZ0
  ·exact wsZ1 h
  ·exact v0Z
  ·exact t128Z
 ·refine sk_told (s := stA A (WS.new 10) len) (k := kZ x1) (e := zFr len A x1) (h.sk (by omega)) rfl ?_ ?_ ?_ ?_ (by simp [lsS6, hl11]) (by simp [tsS6, ht11]) (fun i a hi ha => ?_) (fun i a hi ha => ?_)
  all_goals rw [hV]
  ·exact wsZ1 h
  ·exact kSZ h
  ·exact wsZ2 h
  ·exact oneZ rfl (by decide)
  ·by_cases h11 : i < 11
   ·unfold lsS6 at ha
    rw [List.getElem?_append_left (by omega), lsS_get h11] at ha
    cases ha
    exact lZ h11
   ·unfold lsS6 at ha
    rw [List.getElem?_append_right (by omega)] at ha
    have := List.eq_of_mem_replicate (List.mem_of_getElem? ha)
    rw [this, lenP_out (by omega)]; rfl
  ·by_cases h11 : i < 11
   ·unfold tsS6 at ha
    rw [List.getElem?_append_left (by omega), tsS_get h11] at ha
    cases ha
    exact uZ h11
   ·unfold tsS6 at ha
    rw [List.getElem?_append_right (by omega)] at ha
    have := List.eq_of_mem_replicate (List.mem_of_getElem? ha)
    rw [this, tabP_out (by omega)]
    exact zDq _
 ·refine v_proof sortC (s := stA A (WS.new 10) len) (k := kZ x1) (h.sk (Nat.le_refl 10)) hk.1 rfl ?_ ?_ ?_ ?_ ?_
  all_goals rw [hV]
  ·exact cat_ws (wsZ1 h)
  ·exact kSZ h
  ·exact wsZ2 h
  ·exact zLb fun a ha => lZ ha
  ·exact zLb fun a ha => uZ ha
theorem z_funs [F : Facts] [V : zAc] (h : zOe len A x1) (hV : V.env = encZ len A x1) {b : Bool} (hb : b = true ↔ allM (zFr len A x1).s.when_ 10 ≠ []) : ∀ S ∈ lawSF fns b, zAj Tryz.prog [] S := fun S hS => by
 obtain ⟨q, hq⟩ := h.end.q
 simp only [lawSF, List.mem_cons, List.not_mem_nil, or_false] at hS
 rcases hS with rfl | rfl
 ·exact z_new hV
 ·refine wall_proof (s := (zFr len A x1).s) (N := 10) hq h.end.mid (end_n h) ?_ ?_ ?_ hb
  all_goals rw [hV]
  ·exact wsZ2 h
  ·exact v13Z
  ·exact t141Z
theorem new_len : (WS.new 10).len = 0 := rfl
theorem end0 (h : len = 0) : (zFr len A x1).s = (WS.new 10).jump (kZ x1) ∧ (zFr len A x1).past = [] := by
 subst h
 unfold zFr
 show (zCt (kZ x1) ⟨WS.new 10, kZ x1, []⟩).s = _ ∧ _
 cases hk : kZ x1 with
 | zero => exact ⟨by show WS.new 10 = { WS.new 10 with now := (WS.new 10).now + ((0 : Nat) : Int) }; simp, rfl⟩
 | succ n =>
  have e : zCt (n + 1) ⟨WS.new 10, n + 1, []⟩ = (SkS.mk (WS.new 10) (n + 1) []).jump := by
   show (if (WS.new 10).len = 0 then _ else _) = _
   rw [if_pos new_len]
  rw [e]
  exact ⟨rfl, rfl⟩
theorem wsZ00 (h : zOe len A x1) (h0 : len = 0) : zDg (wsE (encZ len A x1) (L 10) kS z4 zS KN) (zFr len A x1).s := by
 rw [(end0 h0).1]
 have w := wsZ0 (len := len) (A := A) (x1 := x1)
 refine ⟨w.n, ?_, w.w, w.k, w.c⟩
 show kS.eval (encZ len A x1) = 0 + (kZ x1 : Nat)
 rw [kSZ h]; omega
theorem z_loops0 [F : Facts] [V : zAc] (h : zOe len A x1) (h0 : len = 0) (hV : V.env = encZ len A x1) : ∀ S ∈ lawSL0 fns, zAp Tryz.prog [] S := fun S hS => by
 have hk := kZ_in h
 have he := end0 (A := A) (x1 := x1) h0
 have hst : stA A (WS.new 10) len = WS.new 10 := by rw [h0]; rfl
 have hsk := h.sk (R := 60) (by omega)
 have hsk10 := h.sk (R := 10) (by omega)
 have heq : zCt (kZ x1) ⟨WS.new 10, kZ x1, []⟩ = zFr len A x1 := by unfold zFr; rw [hst]
 rw [hst] at hsk hsk10
 have hp0 : (zFr len A x1).past.length = 0 := by rw [he.2]; rfl
 simp only [lawSL0, List.mem_cons, List.not_mem_nil, or_false] at hS
 rcases hS with rfl | rfl
 ·have := sk_told (F := F) (V := V) (n := L 10) (now := L 0) (now' := kS) (ke := kS) (k' := v 12) (w := zS) (w' := zS) (c := z4) (c' := z4) (K := KN) (K' := KN) (ls := List.replicate 61 (L 0)) (ts := List.replicate 61 zS) hsk heq (by rw [hV]; exact wsZ0) (by rw [hV]; exact kSZ h) (by rw [hV]; exact wsZ00 h h0) (by rw [hV]; exact oneZ rfl (by decide)) List.length_replicate List.length_replicate (fun i a hi ha => by
   have := List.eq_of_mem_replicate (List.mem_of_getElem? ha)
   rw [this, lenP_out (by omega)]; rfl) (fun i a hi ha => by
   have := List.eq_of_mem_replicate (List.mem_of_getElem? ha)
   rw [this, tabP_out (by omega)]
   exact zDq _)
  rw [hp0] at this
  exact this
 ·refine v_proof sortC hsk10 hk.1 (by rw [heq]; exact hp0) ?_ ?_ ?_ ?_ ?_
  all_goals rw [hV]
  ·exact cat_ws wsZ0
  ·exact kSZ h
  ·rw [heq]; exact wsZ00 h h0
  ·rw [heq, he.2]; exact replE
  ·rw [heq, he.2]; exact replR
theorem z_funs0 [F : Facts] [V : zAc] (h : zOe len A x1) (h0 : len = 0) (hV : V.env = encZ len A x1) : ∀ S ∈ lawSF0 fns, zAj Tryz.prog [] S := fun S hS => by
 obtain ⟨q, hq⟩ := h.end.q
 have he := end0 (A := A) (x1 := x1) h0
 have hz : allM (zFr len A x1).s.when_ 10 = [] := by
  rw [he.1]
  exact zero_all
 simp only [lawSF0, List.mem_cons, List.not_mem_nil, or_false] at hS
 rcases hS with rfl | rfl
 ·exact z_new hV
 ·refine wall_proof (s := (zFr len A x1).s) (N := 10) hq h.end.mid (end_n h) ?_ ?_ ?_ ⟨fun e => Bool.noConfusion e, fun e => absurd hz e⟩
  ·rw [hV]; exact wsZ00 h h0
  ·rw [hz]; rfl
  ·rw [hz, zMl]
   exact zDq _
theorem pcS_ok (h : zOe len A x1) {b : Bool} (hb : b = true ↔ allM (zFr len A x1).s.when_ 10 ≠ []) (hpos : ∀ i, i < (zFr len A x1).past.length → 1 ≤ zNk (zFr len A x1).past i) : Fx (encZ len A x1) (pcS1 (zFr len A x1).past.length b) := by
 have hl := h.len
 have hx := h.x
 have hk := kZ_in h
 have hn := h.st.now
 have hp := pastZ h
 obtain ⟨q, hq⟩ := h.st.q
 have hn0 := hq.now0
 have hal := allM_len (M := (zFr len A x1).s.when_) (i := 10)
 have e2 : (v 2).eval (encZ len A x1) = (stA A (WS.new 10) len).now := oneZ rfl (by decide)
 refine .app (zEb rfl) (.app (zAv ?_ ?_) (.app (zAv ?_ ?_) (.app (zAv ?_ ?_) (.app (zAv ?_ ?_) (.app ?_ fun p hp' => ?_)))))
 ·rw [v0Z]; show (0 : Int) ≤ _; omega
 ·rw [v0Z]; show _ ≤ (40 : Int); omega
 ·rw [v1Z]; exact hx.1
 ·rw [v1Z]; exact hx.2
 ·rw [kSZ h]; show (0 : Int) ≤ _; omega
 ·rw [kSZ h]; show _ ≤ (1999 : Int); omega
 ·rw [e2]; exact hn0
 ·rw [e2]; show _ ≤ (200000 : Int); omega
 ·cases hbb : b with
  | false => exact .nil
  | true =>
   rw [if_pos rfl]
   have hpos := List.length_pos_iff.2 (hb.1 hbb)
   exact zAv (by rw [v13Z]; show (1 : Int) ≤ _; omega) (by rw [v13Z]; show _ ≤ (4096 : Int); omega)
 ·obtain ⟨l, hl1, hl2⟩ := List.mem_flatten.1 hp'
  obtain ⟨i, hi, rfl⟩ := List.mem_map.1 hl1
  have hi := List.mem_range.1 hi
  have hpp : ∀ l ∈ (zFr len A x1).past, l.length ≤ 4096 ∧ ∀ t ∈ l, 0 ≤ t ∧ t < ((10 : Nat) : Int) := fun l hl => by
   have := h.end.past l hl
   rw [end_n h] at this
   exact this
  have hle := lenP_le hpp i
  exact zAv (lo := L 1) (e := v (20 + i)) (hi := L 4096) (by rw [lZ (by omega)]; exact hpos i hi) (by rw [lZ (by omega)]; exact hle.2) p hl2
theorem lens_pos (h : zOe len A x1) : ∀ i, i < (zFr len A x1).past.length → 1 ≤ zNk (zFr len A x1).past i := fun i hi => by
 have hm : (zFr len A x1).past[i] ∈ (zFr len A x1).past := List.getElem_mem hi
 rcases skips_some _ hm with g | g
 ·cases g
 ·unfold zNk
  rw [List.getElem?_eq_getElem hi]
  have := List.length_pos_iff.2 g
  show (1 : Int) ≤ ((zFr len A x1).past[i].length : Int)
  omega
end
theorem walkZ {pc : List (SB × Bool)} {env : Nat → Int} {ls : List zAd} {fs : List zAi} (hpc : Fx env pc) (hmid : ∀ j, In64 (env j)) (hl : ∀ V : @zAc ⟨pc⟩, V.env = env → ∀ S ∈ ls, @zAp ⟨pc⟩ V Tryz.prog [] S) (hfs : ∀ V : @zAc ⟨pc⟩, V.env = env → ∀ S ∈ fs, @zAj ⟨pc⟩ V Tryz.prog [] S) (hrun : runAt 4 pc ls fs (argS true PG) (heapS true PG) = true)
  {x1 : Int} {len : Nat} {ra : Nat → Nat → Int} (E0 : env 0 = len) (E1 : env 1 = x1) (EA : zAg (zFl env 128) ra) {w : World} {v0 : Value} (s0 : ActsIs w v0 true len ra) :
  Calls Tryz.prog 4 #[v0, .int .u16 x1] w fun e w' => e = .returned (.bool true) ∧ RowKit.Below w.heap.size w w' := by
 obtain ⟨b, o, l, cap, arr, el, fz, rfl, hlt, hcap, ha, hs, hr⟩ := s0
 subst hlt
 have env0 : ∀ q : zHi, q.V.env = env → (v 0).eval q.V.env = (len : Int) := fun q h => by rw [h]; exact E0
 refine walkG (φ := (phi0 PG).put PG ⟨b, o, cap⟩) hpc hmid hl hfs hrun (fun q hq => add_tab (start0 q w) (phi0_none (Nat.le_refl _)) ?_ rfl (fun c t y e => by obtain ⟨p, hp, _⟩ := zGt e; cases hp)) (fun c hc _ => ?_) (gl_ok _ fun c hc => put_other (by omega)) (fun q hq => ?_)
 ·refine @rows_rb q.F q.V _ w b o len [.i .i64, .i .i64, .i .i64] ra arr el fz (.tab 128) (v 0) cap ha hs hr (env0 q hq) (fun r c hc => ?_)
  rw [hq]
  exact EA r c (by simp at hc; omega)
 ·have hc : PG + 1 ≤ c := hc
  rw [put_other (by omega), phi0_none (by omega)]
 ·exact @RL.cons q.F q.V _ _ _ _ _ (@RV.ss q.F q.V _ _ _ _ _ _ _ _ _ _ (Phi.put_self _ _ _) rfl (env0 q hq) ⟨hcap, Nat.le_of_eq (Nat.zero_add _)⟩ (fun _ => by simp)) (@RL.cons q.F q.V _ _ _ _ _ (@RV.sx q.F q.V _ _ _ _ (by show q.V.env 1 = x1; rw [hq]; exact E1)) (@RL.nil q.F q.V _))
theorem skips_walk {e : Bool} {x1 : Int} {len : Nat} {ra : Nat → Nat → Int} (h0 : 0 ≤ x1 ∧ x1 ≤ 65535) (h1 : (len : Int) ≤ 9223372036854775807) (hra : ∀ r c, In64 (ra r c)) (hrr : ∀ r, r < len → ra r 2 ≤ 9223372036854775807) {w : World} {v0 : Value} (s0 : ActsIs w v0 e len ra) :
  Calls Tryz.prog 4 #[v0, .int .u16 x1] w fun e w' => e = .returned (.bool true) ∧ RowKit.Below w.heap.size w w' := by
 have hmid : ∀ j, In64 (zCb [(len : Int), x1] [ra] j) := zEp (show zCr In64 _ from ⟨by unfold In64; omega, by unfold In64; omega, trivial⟩) (show zCr zDc _ from ⟨fun r c _ => hra r c, trivial⟩)
 have o0 : zCb [(len : Int), x1] [ra] 0 = len := zAu rfl (by decide)
 have o1 : zCb [(len : Int), x1] [ra] 1 = x1 := zAu rfl (by decide)
 have oA : zAg (zFl (zCb [(len : Int), x1] [ra]) 128) ra := zAq rfl (by decide) (by decide)
 have hlen0 : e = false → len = 0 := fun he => by
  subst he
  exact s0.1
 by_cases hb : 40 < len
 ·cases e with
  | false => have := hlen0 rfl; omega
  | true =>
   exact walkZ (pc := pcSBig) (env := zCb [(len : Int), x1] [ra]) (.app (zEb rfl) (zEb (nle_ok (by show (40 : Int) < zCb [(len : Int), x1] [ra] 0; rw [o0]; omega)))) hmid (fun V hV S hS => by cases hS) (fun V hV S hS => by cases hS) sk_big o0 o1 oA s0
 ·have h : zOe len ra x1 := ⟨hra, hrr, h0, by omega⟩
  have hk := kZ_in h
  cases e with
  | false =>
   have hl0 := hlen0 rfl
   obtain ⟨_, p, c, rfl⟩ := s0
   refine walkG (φ := phi0 PG) (pc := pcS00) (env := encZ len ra x1) (.app (zEb rfl) (.app (zAv ?_ ?_) (zAv ?_ ?_))) (encZ_mid h) (fun V hV => @z_loops0 len ra x1 ⟨_⟩ V h hl0 hV) (fun V hV => @z_funs0 len ra x1 ⟨_⟩ V h hl0 hV) sk_none (fun q hq => start0 q w) (fun b hb _ => phi0_none hb) (gl_ok _ fun _ _ => rfl) (fun q hq => ?_)
   ·rw [v1Z]; exact h0.1
   ·rw [v1Z]; exact h0.2
   ·rw [kSZ h]; show (0 : Int) ≤ _; omega
   ·rw [kSZ h]; show _ ≤ (1999 : Int); omega
   ·exact @RL.cons q.F q.V _ _ _ _ _ (@RV.so q.F q.V _ _ _ _ _ rfl) (@RL.cons q.F q.V _ _ _ _ _ (@RV.sx q.F q.V _ _ _ _ (by show q.V.env 1 = x1; rw [hq]; exact v1Z)) (@RL.nil q.F q.V _))
  | true =>
   obtain ⟨b, hb⟩ : ∃ b : Bool, b = true ↔ allM (zFr len ra x1).s.when_ 10 ≠ [] := ⟨decide (allM (zFr len ra x1).s.when_ 10 ≠ []), by simp⟩
   have run := sk_at (pastZ h) b
   exact walkZ (pcS_ok h hb (lens_pos h)) (encZ_mid h) (fun V hV => @z_loops len ra x1 ⟨_⟩ V h hV) (fun V hV => @z_funs len ra x1 ⟨_⟩ V h hV b hb) run v0Z v1Z t128Z s0
end Go.Proofs.YtaliacnncemneaaGreat.wheels
end
