/- Lists in tables, the wheel, its shapes. Conditions: those that each theorem names. -/
import Derived.Test.YtaliacnncemneaaGreatSAbsE
open Go
noncomputable section
namespace Go.Proofs.Wheels
abbrev TT := Nat → Nat → Int
def g0 (T : TT) (i : Int) : Int := T i.toNat 0
def up (T : TT) (i x : Int) : TT := fun r c => if (r : Int) = i ∧ c = 0 then x else T r c
theorem zBn {T : TT} {i x : Int} (h : 0 ≤ i) : g0 (up T i x) i = x := by
 unfold g0 up
 rw [if_pos ⟨by omega, rfl⟩]
theorem zCx {T : TT} {i j x : Int} (h : 0 ≤ j) (hne : j ≠ i) : g0 (up T i x) j = g0 T j := by
 unfold g0 up
 rw [if_neg]
 rintro ⟨e, _⟩
 omega
theorem up_at {T : TT} {i j x : Int} (h : 0 ≤ j) : g0 (up T i x) j = if j = i then x else g0 T j := by
 by_cases e : j = i
 ·subst e; rw [if_pos rfl, zBn h]
 ·rw [if_neg e, zCx h e]
def Seg (N B : TT) : Int → List Int → Int → Prop
 | a, [], b => g0 N a = b ∧ g0 B b = a
 | a, x :: l, b => g0 N a = x ∧ g0 B x = a ∧ Seg N B x l b
theorem seg_app {N B : TT} {x : Int} : ∀ {l m : List Int} {a b : Int}, Seg N B a (l ++ x :: m) b ↔ Seg N B a l x ∧ Seg N B x m b := by
 intro l
 induction l with
 | nil => intro m a b; simp only [List.nil_append, Seg]; exact ⟨fun ⟨h1, h2, h3⟩ => ⟨⟨h1, h2⟩, h3⟩, fun ⟨⟨h1, h2⟩, h3⟩ => ⟨h1, h2, h3⟩⟩
 | cons y l ih => intro m a b; simp only [List.cons_append, Seg, ih, and_assoc]
theorem zGy {N B N' B' : TT} : ∀ {l : List Int} {a b : Int}, (∀ y ∈ a :: l, g0 N' y = g0 N y) → (∀ y ∈ l ++ [b], g0 B' y = g0 B y) → Seg N B a l b → Seg N' B' a l b := by
 intro l
 induction l with
 | nil =>
  intro a b h1 h2 h
  exact ⟨(h1 a (by simp)).trans h.1, (h2 b (by simp)).trans h.2⟩
 | cons x l ih =>
  intro a b h1 h2 h
  exact ⟨(h1 a (by simp)).trans h.1, (h2 x (by simp)).trans h.2.1, ih (fun y hy => h1 y (List.mem_cons_of_mem _ hy)) (fun y hy => h2 y (by simp only [List.cons_append]; exact List.mem_cons_of_mem _ hy)) h.2.2⟩
theorem zPc {N B : TT} : ∀ {l : List Int} {a b : Int}, Seg N B a l b → (l = [] ∧ g0 B b = a ∧ g0 N a = b) ∨ ∃ m y, l = m ++ [y] ∧ g0 B b = y ∧ g0 N y = b ∧ Seg N B a m y := by
 intro l
 induction l with
 | nil => intro a b h; exact .inl ⟨rfl, h.2, h.1⟩
 | cons x l ih =>
  intro a b h
  obtain ⟨h1, h2, h3⟩ := h
  rcases ih h3 with ⟨rfl, e1, e2⟩ | ⟨m, y, rfl, e1, e2, e3⟩
  ·exact .inr ⟨[], x, rfl, e1, e2, h1, h2⟩
  ·exact .inr ⟨x :: m, y, rfl, e1, e2, h1, h2, e3⟩
structure LK where
 N : TT
 B : TT
 L : TT
 C : TT
def LK.push (k : LK) (n l t : Int) : LK :=
 ⟨up (up k.N (g0 k.B (n + l)) t) t (g0 k.N (g0 k.B (n + l))), up (up k.B t (g0 k.B (n + l))) (g0 k.N (g0 k.B (n + l))) t, up k.L t l, up k.C l (g0 k.C l + 1)⟩
def LK.remove (k : LK) (t : Int) : LK :=
 ⟨up k.N (g0 k.B t) (g0 k.N t), up k.B (g0 k.N t) (g0 k.B t), up k.L t (-1), up k.C (g0 k.L t) (g0 k.C (g0 k.L t) - 1)⟩
structure Rep (n : Int) (k : LK) (q : Int → List Int) : Prop where
 n1 : 1 ≤ n ∧ n ≤ 4096
 seg : ∀ l, 0 ≤ l → l < 128 → Seg k.N k.B (n + l) (q l) (n + l)
 thing : ∀ l, 0 ≤ l → l < 128 → ∀ t ∈ q l, 0 ≤ t ∧ t < n ∧ g0 k.L t = l
 list : ∀ t, 0 ≤ t → t < n → g0 k.L t = -1 ∨ (0 ≤ g0 k.L t ∧ g0 k.L t < 128 ∧ t ∈ q (g0 k.L t))
 nodup : ∀ l, 0 ≤ l → l < 128 → (q l).Nodup
 cnt : ∀ l, 0 ≤ l → l < 128 → g0 k.C l = (q l).length
theorem Rep.place {n : Int} {k : LK} {q : Int → List Int} (h : Rep n k q) {l : Int} (h0 : 0 ≤ l) (h1 : l < 128) : 0 ≤ g0 k.B (n + l) ∧ g0 k.B (n + l) < n + 128 ∧ g0 k.N (g0 k.B (n + l)) = n + l := by
 have hn := h.n1
 rcases zPc (h.seg l h0 h1) with ⟨_, e1, e2⟩ | ⟨m, y, e, e1, e2, _⟩
 ·rw [e1]; exact ⟨by omega, by omega, e2⟩
 ·have := h.thing l h0 h1 y (by rw [e]; simp)
  rw [e1]; exact ⟨by omega, by omega, e2⟩
theorem Rep.push {n : Int} {k : LK} {q : Int → List Int} (h : Rep n k q) {l t : Int} (h0 : 0 ≤ l) (h1 : l < 128) (ht : 0 ≤ t ∧ t < n) (hL : g0 k.L t = -1) :
  Rep n (k.push n l t) (fun m => if m = l then q l ++ [t] else q m) := by
 have hn := h.n1
 obtain ⟨p1, p2, p3⟩ := h.place h0 h1
 have out : ∀ m, 0 ≤ m → m < 128 → t ∉ q m := fun m m0 m1 hm => by
  have := (h.thing m m0 m1 t hm).2.2
  omega
 have e1 : (k.push n l t).N = up (up k.N (g0 k.B (n + l)) t) t (n + l) := by unfold LK.push; rw [p3]
 have e2 : (k.push n l t).B = up (up k.B t (g0 k.B (n + l))) (n + l) t := by unfold LK.push; rw [p3]
 have e3 : (k.push n l t).L = up k.L t l := rfl
 have e4 : (k.push n l t).C = up k.C l (g0 k.C l + 1) := rfl
 have hplace : g0 k.B (n + l) ∈ (n + l) :: q l := by
  rcases zPc (h.seg l h0 h1) with ⟨e, e1, e2⟩ | ⟨m, y, e, e1, e2, _⟩
  ·rw [e1]; exact .head _
  ·rw [e1, e]; simp
 refine ⟨hn, fun m m0 m1 => ?_, fun m m0 m1 x hx => ?_, fun x x0 x1 => ?_, fun m m0 m1 => ?_, fun m m0 m1 => ?_⟩
 ·have hm := h.seg m m0 m1
  have hin := fun y hy => h.thing m m0 m1 y hy
  by_cases e : m = l
  ·subst e
   rw [if_pos rfl]
   rw [e1, e2]
   refine seg_app.2 ⟨?_, ?_⟩
   ·rcases zPc hm with ⟨e, b1, b2⟩ | ⟨m', y, e, b1, b2, b3⟩
    ·rw [e, b1]
     exact ⟨by rw [zCx (by omega) (by omega), zBn (by omega)], by rw [zCx (by omega) (by omega), zBn (by omega)]⟩
    ·have hy := hin y (by rw [e]; simp)
     rw [e, b1]
     have hnd : (m' ++ [y]).Nodup := by rw [← e]; exact h.nodup m m0 m1
     have hy' : y ∉ m' := fun hh => by
      rw [List.nodup_append] at hnd
      exact hnd.2.2 y hh y (by simp) rfl
     refine seg_app.2 ⟨zGy (fun z hz => ?_) (fun z hz => ?_) b3, ?_⟩
     ·have hz' : z = n + m ∨ z ∈ m' := by simpa using hz
      have hz0 : 0 ≤ z ∧ z ≠ t ∧ z ≠ y := by
       rcases hz' with rfl | hz'
       ·exact ⟨by omega, by omega, by omega⟩
       ·have := hin z (by rw [e]; simp [hz'])
        exact ⟨this.1, fun e => out m m0 m1 (by rw [← e, ‹q m = _›]; simp [hz']), fun e => hy' (by rw [← e]; exact hz')⟩
      rw [zCx hz0.1 hz0.2.1, zCx hz0.1 hz0.2.2]
     ·have hz' : z ∈ m' ∨ z = y := by simpa using hz
      have hz0 := hin z (by rw [e]; simpa using hz')
      rw [zCx hz0.1 (by omega), zCx hz0.1 (fun e' => out m m0 m1 (by rw [← e', e]; simpa using hz'))]
     ·exact ⟨by rw [zCx hy.1 (fun e' => out m m0 m1 (by rw [← e', e]; simp)), zBn hy.1], by rw [zCx ht.1 (by omega), zBn ht.1]⟩
   ·exact ⟨zBn ht.1, zBn (by omega)⟩
  ·rw [if_neg e, e1, e2]
   refine zGy (fun z hz => ?_) (fun z hz => ?_) hm
   ·have hz' : z = n + m ∨ z ∈ q m := by simpa using hz
    have hz0 : 0 ≤ z ∧ z ≠ t ∧ z ≠ g0 k.B (n + l) := by
     rcases List.mem_cons.1 hplace with hp | hp
     ·rw [hp]
      rcases hz' with rfl | hz'
      ·exact ⟨by omega, by omega, by omega⟩
      ·have := hin z hz'
       exact ⟨this.1, fun e => out m m0 m1 (by rw [← e]; exact hz'), by omega⟩
     ·have hpl := h.thing l h0 h1 _ hp
      rcases hz' with rfl | hz'
      ·exact ⟨by omega, by omega, by omega⟩
      ·have := hin z hz'
       refine ⟨this.1, fun e => out m m0 m1 (by rw [← e]; exact hz'), fun e' => e ?_⟩
       rw [← this.2.2, ← hpl.2.2, e']
    rw [zCx hz0.1 hz0.2.1, zCx hz0.1 hz0.2.2]
   ·have hz' : z ∈ q m ∨ z = n + m := by simpa using hz
    have hz0 : 0 ≤ z ∧ z ≠ t ∧ z ≠ n + l := by
     rcases hz' with hz' | rfl
     ·have := hin z hz'
      exact ⟨this.1, fun e => out m m0 m1 (by rw [← e]; exact hz'), by omega⟩
     ·exact ⟨by omega, by omega, by omega⟩
    rw [zCx hz0.1 hz0.2.2, zCx hz0.1 hz0.2.1]
 ·rw [e3]
  by_cases e : m = l
  ·subst e
   rw [if_pos rfl] at hx
   have hx' : x ∈ q m ∨ x = t := by simpa using hx
   rcases hx' with hx' | rfl
   ·have := h.thing m m0 m1 x hx'
    exact ⟨this.1, this.2.1, by rw [zCx this.1 (fun e => out m m0 m1 (by rw [← e]; exact hx'))]; exact this.2.2⟩
   ·exact ⟨ht.1, ht.2, zBn ht.1⟩
  ·rw [if_neg e] at hx
   have := h.thing m m0 m1 x hx
   exact ⟨this.1, this.2.1, by rw [zCx this.1 (fun e => out m m0 m1 (by rw [← e]; exact hx))]; exact this.2.2⟩
 ·rw [e3]
  by_cases e : x = t
  ·subst e
   rw [zBn ht.1]
   refine .inr ⟨h0, h1, ?_⟩
   simp
  ·rw [zCx x0 e]
   rcases h.list x x0 x1 with h2 | ⟨h2, h3, h4⟩
   ·exact .inl h2
   ·refine .inr ⟨h2, h3, ?_⟩
    by_cases e' : g0 k.L x = l
    ·rw [if_pos e', ← e']; simp [h4]
    ·rw [if_neg e']; exact h4
 ·by_cases e : m = l
  ·subst e
   rw [if_pos rfl, List.nodup_append]
   exact ⟨h.nodup m m0 m1, by simp, fun a ha b hb e => out m m0 m1 (by
    have hb : b = t := by simpa using hb
    rw [← hb, ← e]; exact ha)⟩
  ·rw [if_neg e]; exact h.nodup m m0 m1
 ·rw [e4]
  by_cases e : m = l
  ·subst e
   rw [if_pos rfl, zBn m0, h.cnt m m0 m1]
   simp
  ·rw [if_neg e, zCx m0 e]
   exact h.cnt m m0 m1
theorem Rep.remove {n : Int} {k : LK} {q : Int → List Int} (h : Rep n k q) {t : Int} (ht : 0 ≤ t ∧ t < n) (hL : g0 k.L t ≠ -1) :
  (0 ≤ g0 k.L t ∧ g0 k.L t < 128) ∧ (0 ≤ g0 k.B t ∧ g0 k.B t < n + 128) ∧ (0 ≤ g0 k.N t ∧ g0 k.N t < n + 128) ∧ Rep n (k.remove t) (fun m => (q m).erase t) := by
 have hn := h.n1
 obtain ⟨l0, l1, hmem⟩ : 0 ≤ g0 k.L t ∧ g0 k.L t < 128 ∧ t ∈ q (g0 k.L t) := (h.list t ht.1 ht.2).resolve_left hL
 obtain ⟨l, hl⟩ : ∃ l, g0 k.L t = l := ⟨_, rfl⟩
 rw [hl] at l0 l1 hmem
 obtain ⟨u, v, huv⟩ := List.append_of_mem hmem
 have hseg := h.seg l l0 l1
 rw [huv] at hseg
 obtain ⟨s1, s2⟩ := seg_app.1 hseg
 have hnd := h.nodup l l0 l1
 rw [huv] at hnd
 have hin : ∀ z, z ∈ u ∨ z ∈ v → 0 ≤ z ∧ z < n ∧ g0 k.L z = l := fun z hz => h.thing l l0 l1 z (by rw [huv]; rcases hz with hz | hz <;> simp [hz])
 have hnd' := List.nodup_append.1 hnd
 have tu : t ∉ u := fun hh => hnd'.2.2 t hh t (by simp) rfl
 have tv : t ∉ v := (List.nodup_cons.1 hnd'.2.1).1
 have uv : ∀ z, z ∈ u → z ∉ v := fun z hz hv => hnd'.2.2 z hz z (by simp [hv]) rfl
 have ndu := hnd'.1
 have ndv := (List.nodup_cons.1 hnd'.2.1).2
 obtain ⟨a, ha⟩ : ∃ a, g0 k.B t = a := ⟨_, rfl⟩
 obtain ⟨b, hb⟩ : ∃ b, g0 k.N t = b := ⟨_, rfl⟩
 have aplace : (u = [] ∧ a = n + l) ∨ ∃ m, u = m ++ [a] ∧ Seg k.N k.B (n + l) m a := by
  rcases zPc s1 with ⟨e, e1, e2⟩ | ⟨m, y, e, e1, e2, e3⟩
  ·exact .inl ⟨e, by rw [← ha]; exact e1⟩
  ·have : a = y := by rw [← ha]; exact e1
   subst this
   exact .inr ⟨m, e, e3⟩
 have bplace : (v = [] ∧ b = n + l) ∨ ∃ m, v = b :: m ∧ Seg k.N k.B b m (n + l) := by
  cases v with
  | nil => exact .inl ⟨rfl, by rw [← hb]; exact s2.1⟩
  | cons y m =>
   have : b = y := by rw [← hb]; exact s2.1
   subst this
   exact .inr ⟨m, rfl, s2.2.2⟩
 have a0 : 0 ≤ a ∧ a < n + 128 ∧ a ≠ t := by
  rcases aplace with ⟨_, rfl⟩ | ⟨m, e, _⟩
  ·exact ⟨by omega, by omega, by omega⟩
  ·have := hin a (.inl (by rw [e]; simp))
   exact ⟨this.1, by omega, fun e' => tu (by rw [← e', e]; simp)⟩
 have b0 : 0 ≤ b ∧ b < n + 128 ∧ b ≠ t := by
  rcases bplace with ⟨_, rfl⟩ | ⟨m, e, _⟩
  ·exact ⟨by omega, by omega, by omega⟩
  ·have := hin b (.inr (by rw [e]; simp))
   exact ⟨this.1, by omega, fun e' => tv (by rw [← e', e]; simp)⟩
 have e1 : (k.remove t).N = up k.N a b := by unfold LK.remove; rw [ha, hb]
 have e2 : (k.remove t).B = up k.B b a := by unfold LK.remove; rw [ha, hb]
 have e3 : (k.remove t).L = up k.L t (-1) := rfl
 have e4 : (k.remove t).C = up k.C l (g0 k.C l - 1) := by unfold LK.remove; rw [hl]
 have other : ∀ m, 0 ≤ m → m < 128 → m ≠ l → t ∉ q m := fun m m0 m1 hne hm => hne (by rw [← (h.thing m m0 m1 t hm).2.2, hl])
 have erl : (q l).erase t = u ++ v := by
  rw [huv, List.erase_append_right _ tu]
  simp
 refine ⟨by rw [hl]; exact ⟨l0, l1⟩, by rw [ha]; exact ⟨a0.1, a0.2.1⟩, by rw [hb]; exact ⟨b0.1, b0.2.1⟩, hn, fun m m0 m1 => ?_, fun m m0 m1 x hx => ?_, fun x x0 x1 => ?_, fun m m0 m1 => ?_, fun m m0 m1 => ?_⟩
 ·rw [e1, e2]
  by_cases e : m = l
  ·subst e
   rw [erl]
   rcases aplace with ⟨hu, rfl⟩ | ⟨mu, hu, su⟩
   ·rw [hu, List.nil_append]
    rcases bplace with ⟨hv, rfl⟩ | ⟨mv, hv, sv⟩
    ·rw [hv]
     exact ⟨zBn (by omega), zBn (by omega)⟩
    ·rw [hv]
     refine ⟨zBn (by omega), zBn b0.1, zGy (fun z hz => ?_) (fun z hz => ?_) sv⟩
     ·have := hin z (.inr (by rw [hv]; exact hz))
      exact zCx this.1 (by omega)
     ·have hz' : z ∈ mv ∨ z = n + m := by simpa using hz
      rcases hz' with hz' | rfl
      ·have := hin z (.inr (by rw [hv]; simp [hz']))
       rw [hv] at ndv
       exact zCx this.1 (fun e => (List.nodup_cons.1 ndv).1 (by rw [← e]; exact hz'))
      ·have := hin b (.inr (by rw [hv]; simp))
       exact zCx (by omega) (by omega)
   ·have ina := hin a (.inl (by rw [hu]; simp))
    have amu : a ∉ mu := fun hh => by
     rw [hu, List.nodup_append] at ndu
     exact ndu.2.2 a hh a (by simp) rfl
    have fr1 : b = n + m ∨ b ∈ v → Seg (up k.N a b) (up k.B b a) (n + m) mu a := fun hbv => zGy (fun z hz => by
      have hz' : z = n + m ∨ z ∈ mu := by simpa using hz
      rcases hz' with rfl | hz'
      ·exact zCx (by omega) (by omega)
      ·have := hin z (.inl (by rw [hu]; simp [hz']))
       exact zCx this.1 (fun e => amu (by rw [← e]; exact hz'))) (fun z hz => by
      have hz' : z ∈ mu ∨ z = a := by simpa using hz
      have hzu : z ∈ u := by rw [hu]; simpa using hz'
      have := hin z (.inl hzu)
      refine zCx this.1 (fun e => ?_)
      rcases hbv with hb' | hb'
      ·omega
      ·exact uv z hzu (by rw [e]; exact hb')) su
    rw [hu, List.append_assoc, List.singleton_append]
    rcases bplace with ⟨hv, rfl⟩ | ⟨mv, hv, sv⟩
    ·rw [hv]
     refine seg_app.2 ⟨fr1 (.inl rfl), zBn ina.1, zBn (by omega)⟩
    ·rw [hv]
     refine seg_app.2 ⟨fr1 (.inr (by rw [hv]; simp)), zBn ina.1, zBn b0.1, zGy (fun z hz => ?_) (fun z hz => ?_) sv⟩
     ·have hzv : z ∈ v := by rw [hv]; exact hz
      have := hin z (.inr hzv)
      exact zCx this.1 (fun e => uv a (by rw [hu]; simp) (by rw [← e]; exact hzv))
     ·have hz' : z ∈ mv ∨ z = n + m := by simpa using hz
      rcases hz' with hz' | rfl
      ·have := hin z (.inr (by rw [hv]; simp [hz']))
       rw [hv] at ndv
       exact zCx this.1 (fun e => (List.nodup_cons.1 ndv).1 (by rw [← e]; exact hz'))
      ·have := hin b (.inr (by rw [hv]; simp))
       exact zCx (by omega) (by omega)
  ·rw [List.erase_of_not_mem (other m m0 m1 e)]
   have hin' := fun z hz => h.thing m m0 m1 z hz
   refine zGy (fun z hz => ?_) (fun z hz => ?_) (h.seg m m0 m1)
   ·have hz' : z = n + m ∨ z ∈ q m := by simpa using hz
    have hz0 : 0 ≤ z := by
     rcases hz' with rfl | hz'
     ·omega
     ·exact (hin' z hz').1
    refine zCx hz0 (fun e' => ?_)
    rcases aplace with ⟨_, ea⟩ | ⟨mu, hu, _⟩
    ·rcases hz' with hz' | hz'
     ·omega
     ·have := hin' z hz'; omega
    ·have ia := hin a (.inl (by rw [hu]; simp))
     rcases hz' with hz' | hz'
     ·omega
     ·have i1 := hin' z hz'
      rw [e', ia.2.2] at i1
      exact e i1.2.2.symm
   ·have hz' : z ∈ q m ∨ z = n + m := by simpa using hz
    have hz0 : 0 ≤ z := by
     rcases hz' with hz' | rfl
     ·exact (hin' z hz').1
     ·omega
    refine zCx hz0 (fun e' => ?_)
    rcases bplace with ⟨_, eb⟩ | ⟨mv, hv, _⟩
    ·rcases hz' with hz' | hz'
     ·have := hin' z hz'; omega
     ·omega
    ·have ib := hin b (.inr (by rw [hv]; simp))
     rcases hz' with hz' | hz'
     ·have i1 := hin' z hz'
      rw [e', ib.2.2] at i1
      exact e i1.2.2.symm
     ·omega
 ·have hne : x ≠ t := fun e' => by
   subst e'
   exact (List.Nodup.mem_erase_iff (h.nodup m m0 m1)).1 hx |>.1 rfl
  have := h.thing m m0 m1 x (List.mem_of_mem_erase hx)
  rw [e3, zCx this.1 hne]
  exact this
 ·rw [e3]
  by_cases e : x = t
  ·subst e; rw [zBn x0]; exact .inl rfl
  ·rw [zCx x0 e]
   rcases h.list x x0 x1 with h2 | ⟨h2, h3, h4⟩
   ·exact .inl h2
   ·exact .inr ⟨h2, h3, (List.mem_erase_of_ne e).2 h4⟩
 ·exact (h.nodup m m0 m1).erase t
 ·rw [e4]
  by_cases e : m = l
  ·subst e
   rw [zBn m0, h.cnt m m0 m1, List.length_erase_of_mem hmem]
   have : 0 < (q m).length := List.length_pos_of_mem hmem
   omega
  ·rw [zCx m0 e, List.erase_of_not_mem (other m m0 m1 e)]
   exact h.cnt m m0 m1
theorem zJu : ∀ {n : Nat} {l : List Int}, l.Nodup → (∀ t ∈ l, 0 ≤ t ∧ t < n) → l.length ≤ n := by
 intro n
 induction n with
 | zero =>
  intro l _ h
  cases l with
  | nil => exact Nat.le_refl _
  | cons x l => have := h x (.head _); omega
 | succ n ih =>
  intro l hnd h
  have h1 := ih (hnd.erase (n : Int)) fun t ht => by
   have hne : t ≠ n := fun e => by
    subst e
    exact ((List.Nodup.mem_erase_iff hnd).1 ht).1 rfl
   have := h t (List.mem_of_mem_erase ht)
   omega
  have := List.length_erase_le (a := (n : Int)) (l := l)
  by_cases hm : (n : Int) ∈ l
  ·rw [List.length_erase_of_mem hm] at h1; omega
  ·rw [List.erase_of_not_mem hm] at h1; omega
theorem Rep.len {n : Int} {k : LK} {q : Int → List Int} (h : Rep n k q) {l : Int} (h0 : 0 ≤ l) (h1 : l < 128) : ((q l).length : Int) ≤ 4096 := by
 have hn := h.n1
 have := zJu (n := n.toNat) (h.nodup l h0 h1) fun t ht => by
  have := h.thing l h0 h1 t ht
  omega
 omega
end Go.Proofs.Wheels
namespace Go.Proofs.Wheels
def zLf (p : Int → Bool) : Nat → Int
 | 0 => 0
 | n + 1 => zLf p n + bif p n then 1 else 0
theorem zKp {p : Int → Bool} : ∀ {n : Nat}, 0 ≤ zLf p n ∧ zLf p n ≤ n := by
 intro n
 induction n with
 | zero => exact ⟨Int.le_refl _, Int.le_refl _⟩
 | succ n ih =>
  unfold zLf
  cases p n
  ·rw [cond_false]; omega
  ·rw [cond_true]; omega
theorem cntP_zero {p : Int → Bool} : ∀ {n : Nat}, zLf p n = 0 → ∀ i : Nat, i < n → p i = false := by
 intro n
 induction n with
 | zero => intro _ i h; omega
 | succ n ih =>
  intro h i hi
  have hp := (zKp (p := p) (n := n)).1
  unfold zLf at h
  cases hc : p n with
  | true => rw [hc, cond_true] at h; omega
  | false =>
   rw [hc, cond_false] at h
   by_cases e : i = n
   ·subst e; exact hc
   ·exact ih (by omega) i (by omega)
theorem cntP_congr {p p' : Int → Bool} : ∀ {n : Nat}, (∀ i : Nat, i < n → p' i = p i) → zLf p' n = zLf p n := by
 intro n
 induction n with
 | zero => intro _; rfl
 | succ n ih =>
  intro h
  unfold zLf
  rw [ih fun i hi => h i (by omega), h n (by omega)]
def b2i (b : Bool) : Int := bif b then 1 else 0
theorem zNd {p p' : Int → Bool} {t : Nat} : ∀ {n : Nat}, t < n → (∀ i : Nat, i < n → i ≠ t → p' i = p i) → zLf p' n = zLf p n - b2i (p t) + b2i (p' t) := by
 intro n
 induction n with
 | zero => intro h; omega
 | succ n ih =>
  intro ht h
  unfold zLf
  by_cases e : t = n
  ·subst e
   rw [cntP_congr fun i hi => h i (by omega) (by omega)]
   unfold b2i
   omega
  ·rw [ih (by omega) fun i hi hne => h i (by omega) hne, h n (by omega) (by omega)]
   omega
def pw : Nat → Int
 | 0 => 1
 | 1 => 32
 | 2 => 1024
 | _ => 32768
def rowOf (now at_ : Int) : Nat := if at_ / 32 = now / 32 then 0 else if at_ / 1024 = now / 1024 then 1 else if at_ / 32768 = now / 32768 then 2 else 3
def placeOf (r : Nat) (at_ : Int) : Int := 32 * r + at_ / pw r % 32
def zCp (now at_ : Int) : Int := placeOf (rowOf now at_) at_
theorem rowOf_lt {now at_ : Int} : rowOf now at_ < 4 := by
 unfold rowOf
 repeat' split
 all_goals omega
theorem zBa {r : Nat} {at_ : Int} (hr : r < 4) : 0 ≤ placeOf r at_ ∧ placeOf r at_ < 128 ∧ placeOf r at_ / 32 = r := by
 unfold placeOf
 have h1 : 0 ≤ at_ / pw r % 32 := Int.emod_nonneg _ (by omega)
 have h2 : at_ / pw r % 32 < 32 := Int.emod_lt_of_pos _ (by omega)
 omega
theorem zGj {now at_ : Int} : 0 ≤ zCp now at_ ∧ zCp now at_ < 128 ∧ zCp now at_ / 32 = rowOf now at_ := zBa rowOf_lt
theorem zIr {now at_ : Int} : (rowOf now at_ = 0 ∧ at_ / 32 = now / 32) ∨ (rowOf now at_ = 1 ∧ at_ / 32 ≠ now / 32 ∧ at_ / 1024 = now / 1024) ∨ (rowOf now at_ = 2 ∧ at_ / 32 ≠ now / 32 ∧ at_ / 1024 ≠ now / 1024 ∧ at_ / 32768 = now / 32768) ∨
  (rowOf now at_ = 3 ∧ at_ / 32 ≠ now / 32 ∧ at_ / 1024 ≠ now / 1024 ∧ at_ / 32768 ≠ now / 32768) := by
 unfold rowOf
 by_cases h1 : at_ / 32 = now / 32
 ·rw [if_pos h1]; exact .inl ⟨rfl, h1⟩
 ·rw [if_neg h1]
  by_cases h2 : at_ / 1024 = now / 1024
  ·rw [if_pos h2]; exact .inr (.inl ⟨rfl, h1, h2⟩)
  ·rw [if_neg h2]
   by_cases h3 : at_ / 32768 = now / 32768
   ·rw [if_pos h3]; exact .inr (.inr (.inl ⟨rfl, h1, h2, h3⟩))
   ·rw [if_neg h3]; exact .inr (.inr (.inr ⟨rfl, h1, h2, h3⟩))
theorem loc_gone {now at_ : Int} {r : Nat} (h0 : 0 ≤ now) (h1 : now ≤ at_) (h2 : at_ ≤ now + 65535) (hr : 1 ≤ r) (hr' : r < 4) : zCp now at_ ≠ placeOf r now := by
 intro e
 have k1 := (zGj (now := now) (at_ := at_)).2.2
 have k2 := (zBa (at_ := now) hr').2.2
 have hrow : rowOf now at_ = r := by
  have : (rowOf now at_ : Int) = r := by rw [← k1, ← k2, e]
  omega
 unfold zCp at e
 rw [hrow] at e
 unfold placeOf at e
 rcases zIr (now := now) (at_ := at_) with ⟨g, _⟩ | ⟨g, g1, g2⟩ | ⟨g, g1, g2, g3⟩ | ⟨g, g1, g2, g3⟩ <;> rw [hrow] at g <;> subst g <;> simp only [pw] at e <;> omega
theorem loc_still {now at_ : Int} (h0 : 0 ≤ now) (h1 : now + 1 ≤ at_) (h2 : at_ ≤ now + 65535) (h : rowOf now at_ = 0 ∨ (now + 1) % pw (rowOf now at_) ≠ 0 ∨ placeOf (rowOf now at_) at_ ≠ placeOf (rowOf now at_) (now + 1)) :
  zCp (now + 1) at_ = zCp now at_ := by
 unfold zCp
 have key : rowOf (now + 1) at_ = rowOf now at_ := by
  rcases zIr (now := now) (at_ := at_) with ⟨g, g1⟩ | ⟨g, g1, g2⟩ | ⟨g, g1, g2, g3⟩ | ⟨g, g1, g2, g3⟩ <;> rw [g] at h ⊢ <;> simp only [placeOf, pw] at h <;> unfold rowOf <;> repeat' split
  all_goals omega
 rw [key]
theorem loc_now {now at_ : Int} (h0 : 0 ≤ now) (h1 : now ≤ at_) : zCp now at_ = placeOf 0 now ↔ at_ = now := by
 refine ⟨fun e => ?_, fun e => ?_⟩
 ·have k1 := (zGj (now := now) (at_ := at_)).2.2
  have k2 := (zBa (r := 0) (at_ := now) (by omega)).2.2
  have hrow : rowOf now at_ = 0 := by
   have : (rowOf now at_ : Int) = 0 := by rw [← k1, ← Int.natCast_zero, ← k2, e]
   omega
  unfold zCp at e
  rw [hrow] at e
  rcases zIr (now := now) (at_ := at_) with ⟨_, g⟩ | ⟨g, _⟩ | ⟨g, _⟩ | ⟨g, _⟩ <;> first | omega | skip
  simp only [placeOf, pw] at e
  omega
 ·subst e
  unfold zCp rowOf
  rw [if_pos rfl]
structure WS where
 n : Int
 now : Int
 when_ : TT
 k : LK
 c : Nat → Int
def bump (c : Nat → Int) (r : Nat) (d : Int) : Nat → Int := fun i => if i = r then c i + d else c i
def WS.inn (s : WS) (t : Int) : WS := { s with k := s.k.push s.n (zCp s.now (g0 s.when_ t)) t, c := bump s.c (rowOf s.now (g0 s.when_ t)) 1 }
def WS.out (s : WS) (t : Int) : WS := { s with k := s.k.remove t, c := bump s.c (g0 s.k.L t / 32).toNat (-1) }
def zHe (T : TT) (r : Nat) (i : Int) : Bool := decide (0 ≤ g0 T i) && decide (g0 T i / 32 = r)
structure WBase (s : WS) (q : Int → List Int) : Prop where
 rep : Rep s.n s.k q
 now0 : 0 ≤ s.now
 c : ∀ r : Nat, r < 4 → s.c r = zLf (zHe s.k.L r) s.n.toNat
theorem inRow_up {T : TT} {r : Nat} {t i x : Int} (hi : 0 ≤ i) : zHe (up T t x) r i = if i = t then (decide (0 ≤ x) && decide (x / 32 = r)) else zHe T r i := by
 unfold zHe
 rw [up_at hi]
 split <;> rfl
theorem WBase.inn {s : WS} {q : Int → List Int} (h : WBase s q) {t : Int} (ht : 0 ≤ t ∧ t < s.n) (hL : g0 s.k.L t = -1) :
  WBase (s.inn t) (fun m => if m = zCp s.now (g0 s.when_ t) then q m ++ [t] else q m) := by
 obtain ⟨l0, l1, l2⟩ := zGj (now := s.now) (at_ := g0 s.when_ t)
 have hr := h.rep.push l0 l1 ht hL
 refine ⟨?_, h.now0, fun r hr4 => ?_⟩
 ·have e : (fun m => if m = zCp s.now (g0 s.when_ t) then q (zCp s.now (g0 s.when_ t)) ++ [t] else q m) = fun m => if m = zCp s.now (g0 s.when_ t) then q m ++ [t] else q m := by
   funext m
   split
   ·rename_i e; rw [e]
   ·rfl
  rw [← e]; exact hr
 ·show bump s.c (rowOf s.now (g0 s.when_ t)) 1 r = zLf (zHe (up s.k.L t (zCp s.now (g0 s.when_ t))) r) s.n.toNat
  obtain ⟨m, rfl⟩ : ∃ m : Nat, t = m := ⟨t.toNat, by omega⟩
  rw [zNd (p := zHe s.k.L r) (t := m) (by omega) (fun i _ hne => by rw [inRow_up (by omega), if_neg (by omega)]), inRow_up (by omega), if_pos rfl, ← h.c r hr4, l2]
  have e0 : zHe s.k.L r (m : Int) = false := by
   unfold zHe
   rw [hL]
   rfl
  rw [e0]
  unfold bump b2i
  by_cases e : r = rowOf s.now (g0 s.when_ m)
  ·rw [if_pos e, decide_eq_true l0, decide_eq_true (by rw [e])]
   simp
  ·rw [if_neg e, decide_eq_false (p := ((rowOf s.now (g0 s.when_ m) : Nat) : Int) = r) (by omega)]
   simp
theorem WBase.out {s : WS} {q : Int → List Int} (h : WBase s q) {t : Int} (ht : 0 ≤ t ∧ t < s.n) (hL : g0 s.k.L t ≠ -1) : WBase (s.out t) (fun m => (q m).erase t) := by
 obtain ⟨⟨l0, l1⟩, _, _, hr⟩ := h.rep.remove ht hL
 refine ⟨hr, h.now0, fun r hr4 => ?_⟩
 show bump s.c (g0 s.k.L t / 32).toNat (-1) r = zLf (zHe (up s.k.L t (-1)) r) s.n.toNat
 obtain ⟨m, rfl⟩ : ∃ m : Nat, t = m := ⟨t.toNat, by omega⟩
 rw [zNd (p := zHe s.k.L r) (t := m) (by omega) (fun i _ hne => by rw [inRow_up (by omega), if_neg (by omega)]), inRow_up (by omega), if_pos rfl, ← h.c r hr4]
 unfold bump b2i
 by_cases e : r = (g0 s.k.L m / 32).toNat
 ·have e0 : zHe s.k.L r (m : Int) = true := by
   unfold zHe
   rw [decide_eq_true l0, decide_eq_true (by omega)]
   rfl
  rw [if_pos e, e0]
  simp
  omega
 ·have e0 : zHe s.k.L r (m : Int) = false := by
   unfold zHe
   rw [decide_eq_false (p := g0 s.k.L m / 32 = r) (by omega)]
   simp
  rw [if_neg e, e0]
  simp
structure zEc (s : WS) (q : Int → List Int) : Prop extends WBase s q where
 w : ∀ t, 0 ≤ t → t < s.n → (g0 s.when_ t = 0 ∧ g0 s.k.L t = -1) ∨ (s.now < g0 s.when_ t ∧ g0 s.when_ t ≤ s.now + 65535 ∧ g0 s.k.L t = zCp s.now (g0 s.when_ t))
structure WDn (s : WS) (q : Int → List Int) (r : Nat) : Prop extends WBase s q where
 now1 : 1 ≤ s.now
 w : ∀ t, 0 ≤ t → t < s.n → (g0 s.when_ t = 0 ∧ g0 s.k.L t = -1) ∨ (s.now ≤ g0 s.when_ t ∧ g0 s.when_ t ≤ s.now + 65534 ∧ (g0 s.k.L t = zCp s.now (g0 s.when_ t) ∨ (g0 s.k.L t = zCp (s.now - 1) (g0 s.when_ t) ∧ rowOf (s.now - 1) (g0 s.when_ t) < r)))
def WS.tick (s : WS) : WS := { s with now := s.now + 1 }
theorem zEc.tick {s : WS} {q : Int → List Int} (h : zEc s q) : WDn s.tick q 4 := by
 have h0 := h.now0
 refine ⟨⟨h.rep, by show 0 ≤ s.now + 1; omega, h.c⟩, by show 1 ≤ s.now + 1; omega, fun t t0 t1 => ?_⟩
 rcases h.w t t0 t1 with h1 | ⟨h1, h2, h3⟩
 ·exact .inl h1
 ·refine .inr ⟨by show s.now + 1 ≤ _; exact h1, by show _ ≤ s.now + 1 + 65534; show g0 s.when_ t ≤ _; omega, .inr ⟨?_, rowOf_lt⟩⟩
  show g0 s.k.L t = zCp (s.now + 1 - 1) (g0 s.when_ t)
  rw [show s.now + 1 - 1 = s.now by omega]; exact h3
def WS.top (s : WS) (r : Nat) : Int := g0 s.k.N (s.n + placeOf r s.now)
def WS.pop (s : WS) (r : Nat) : WS := { s with k := s.k.remove (s.top r), c := bump s.c r (-1) }
def WS.dn1 (s : WS) (r : Nat) : WS := (s.pop r).inn (s.top r)
theorem WBase.top {s : WS} {q : Int → List Int} (h : WBase s q) {r : Nat} (hr : r < 4) {x : Int} {l : List Int} (hq : q (placeOf r s.now) = x :: l) : s.top r = x ∧ 0 ≤ x ∧ x < s.n ∧ g0 s.k.L x = placeOf r s.now := by
 obtain ⟨p0, p1, _⟩ := zBa (at_ := s.now) hr
 have hs := h.rep.seg _ p0 p1
 rw [hq] at hs
 have := h.rep.thing _ p0 p1 x (by rw [hq]; simp)
 exact ⟨hs.1, this.1, this.2.1, this.2.2⟩
theorem pop_eq {s : WS} {q : Int → List Int} (h : WBase s q) {r : Nat} (hr : r < 4) {x : Int} {l : List Int} (hq : q (placeOf r s.now) = x :: l) : s.pop r = s.out x := by
 obtain ⟨e1, e2, e3, e4⟩ := h.top hr hq
 unfold WS.pop WS.out
 rw [e1, e4, (zBa (at_ := s.now) hr).2.2]
 rfl
theorem WDn.step {s : WS} {q : Int → List Int} {r : Nat} (h : WDn s q (r + 1)) (hr1 : 1 ≤ r) (hr : r < 4) {x : Int} {l : List Int} (hq : q (placeOf r s.now) = x :: l) :
  ∃ q', WDn (s.dn1 r) q' (r + 1) ∧ q' (placeOf r s.now) = l := by
 obtain ⟨e1, e2, e3, e4⟩ := h.top hr hq
 obtain ⟨p0, p1, p2⟩ := zBa (at_ := s.now) hr
 have hL : g0 s.k.L x ≠ -1 := by omega
 have ho := h.out ⟨e2, e3⟩ hL
 have eo : (s.out x).k.L = up s.k.L x (-1) := rfl
 have hi := ho.inn (t := x) ⟨e2, e3⟩ (by rw [eo, zBn e2])
 have ed : s.dn1 r = (s.out x).inn x := by
  unfold WS.dn1
  rw [pop_eq h.toWBase hr hq, e1]
 have hw : (s.out x).when_ = s.when_ := rfl
 have hnow : (s.out x).now = s.now := rfl
 rw [hw, hnow] at hi
 have hx := h.w x e2 e3
 have hx : s.now ≤ g0 s.when_ x ∧ g0 s.when_ x ≤ s.now + 65534 := by
  rcases hx with ⟨_, hx⟩ | ⟨g1, g2, _⟩
  ·omega
  ·exact ⟨g1, g2⟩
 have hgone := loc_gone (r := r) h.now0 hx.1 (by omega) hr1 hr
 refine ⟨_, ⟨by rw [ed]; exact hi, by rw [ed]; exact h.now1, fun t t0 t1 => ?_⟩, ?_⟩
 ·rw [ed] at t1 ⊢
  have t1 : t < s.n := t1
  show (g0 s.when_ t = 0 ∧ g0 (up (up s.k.L x (-1)) x (zCp s.now (g0 s.when_ x))) t = -1) ∨ (s.now ≤ g0 s.when_ t ∧ g0 s.when_ t ≤ s.now + 65534 ∧ (g0 (up (up s.k.L x (-1)) x (zCp s.now (g0 s.when_ x))) t = zCp s.now (g0 s.when_ t) ∨
   (g0 (up (up s.k.L x (-1)) x (zCp s.now (g0 s.when_ x))) t = zCp (s.now - 1) (g0 s.when_ t) ∧ rowOf (s.now - 1) (g0 s.when_ t) < r + 1)))
  by_cases e : t = x
  ·subst e
   rw [zBn t0]
   exact .inr ⟨hx.1, hx.2, .inl rfl⟩
  ·rw [zCx t0 e, zCx t0 e]
   exact h.w t t0 t1
 ·show (if placeOf r s.now = zCp s.now (g0 s.when_ x) then ((q (placeOf r s.now)).erase x) ++ [x] else (q (placeOf r s.now)).erase x) = l
  rw [if_neg (fun e => hgone e.symm), hq, List.erase_cons_head]
def WS.dnK (r : Nat) : Nat → WS → WS
 | 0, s => s
 | m + 1, s => WS.dnK r m (s.dn1 r)
theorem dn1_keep {s : WS} {r : Nat} : (s.dn1 r).n = s.n ∧ (s.dn1 r).now = s.now ∧ (s.dn1 r).when_ = s.when_ := ⟨rfl, rfl, rfl⟩
theorem dnK_keep {r : Nat} : ∀ {m : Nat} {s : WS}, (WS.dnK r m s).n = s.n ∧ (WS.dnK r m s).now = s.now ∧ (WS.dnK r m s).when_ = s.when_ := by
 intro m
 induction m with
 | zero => intro s; exact ⟨rfl, rfl, rfl⟩
 | succ m ih => intro s; exact ih (s := s.dn1 r)
theorem WDn.steps {r : Nat} (hr1 : 1 ≤ r) (hr : r < 4) : ∀ {m : Nat} {s : WS} {q : Int → List Int}, WDn s q (r + 1) → (q (placeOf r s.now)).length = m → ∃ q', WDn (WS.dnK r m s) q' (r + 1) ∧ q' (placeOf r s.now) = [] := by
 intro m
 induction m with
 | zero => intro s q h hm; exact ⟨q, h, List.eq_nil_of_length_eq_zero hm⟩
 | succ m ih =>
  intro s q h hm
  cases hq : q (placeOf r s.now) with
  | nil => rw [hq] at hm; simp at hm
  | cons x l =>
   obtain ⟨q', h1, h2⟩ := h.step hr1 hr hq
   rw [hq] at hm
   have hk := dn1_keep (s := s) (r := r)
   obtain ⟨q2, h3, h4⟩ := ih h1 (by rw [hk.2.1, h2]; simpa using hm)
   rw [hk.2.1] at h4
   exact ⟨q2, h3, h4⟩
def WS.many (s : WS) (r : Nat) : Nat := (g0 s.k.C (placeOf r s.now)).toNat
def WS.down (s : WS) (r : Nat) : WS := if s.now % pw r = 0 then WS.dnK r (s.many r) s else s
theorem WBase.many {s : WS} {q : Int → List Int} (h : WBase s q) {r : Nat} (hr : r < 4) : s.many r = (q (placeOf r s.now)).length := by
 obtain ⟨p0, p1, _⟩ := zBa (at_ := s.now) hr
 unfold WS.many
 rw [h.rep.cnt _ p0 p1]
 simp
theorem WDn.down {s : WS} {q : Int → List Int} {r : Nat} (h : WDn s q (r + 1)) (hr1 : 1 ≤ r) (hr : r < 4) : ∃ q', WDn (s.down r) q' r := by
 have n1 := h.now1
 have fin : ∀ (s' : WS) (q' : Int → List Int), WDn s' q' (r + 1) → s'.now = s.now → (s.now % pw r = 0 → q' (placeOf r s.now) = []) → WDn s' q' r := fun s' q' h' hn he => by
  refine ⟨h'.toWBase, h'.now1, fun t t0 t1 => ?_⟩
  rcases h'.w t t0 t1 with g | ⟨g1, g2, g3 | ⟨g3, g4⟩⟩
  ·exact .inl g
  ·exact .inr ⟨g1, g2, .inl g3⟩
  ·by_cases hlt : rowOf (s'.now - 1) (g0 s'.when_ t) < r
   ·exact .inr ⟨g1, g2, .inr ⟨g3, hlt⟩⟩
   ·have hrow : rowOf (s'.now - 1) (g0 s'.when_ t) = r := by omega
    refine .inr ⟨g1, g2, .inl ?_⟩
    have := loc_still (now := s'.now - 1) (at_ := g0 s'.when_ t) (by rw [hn]; omega) (by omega) (by omega) (by
     rw [hrow, show s'.now - 1 + 1 = s'.now by omega, hn]
     by_cases hz : s.now % pw r = 0
     ·refine .inr (.inr fun hp => ?_)
      have hL : g0 s'.k.L t = placeOf r s.now := by
       rw [g3]
       unfold zCp
       rw [hrow]; exact hp
      obtain ⟨p0, p1, _⟩ := zBa (at_ := s.now) hr
      rcases h'.rep.list t t0 t1 with hm | ⟨_, _, hm⟩
      ·omega
      ·rw [hL, he hz] at hm; cases hm
     ·exact .inr (.inl hz))
    rw [show s'.now - 1 + 1 = s'.now by omega] at this
    rw [g3, this]
 unfold WS.down
 by_cases hz : s.now % pw r = 0
 ·rw [if_pos hz]
  obtain ⟨q', h1, h2⟩ := WDn.steps hr1 hr h (h.toWBase.many hr).symm
  exact ⟨q', fin _ q' h1 dnK_keep.2.1 fun _ => h2⟩
 ·rw [if_neg hz]
  exact ⟨q, fin s q h rfl fun e => absurd e hz⟩
def WS.downs (s : WS) : WS := ((s.tick.down 3).down 2).down 1
structure WTk (s : WS) (q : Int → List Int) : Prop extends WBase s q where
 now1 : 1 ≤ s.now
 w : ∀ t, 0 ≤ t → t < s.n → (g0 s.when_ t = 0 ∧ g0 s.k.L t = -1) ∨ (s.now ≤ g0 s.when_ t ∧ g0 s.when_ t ≤ s.now + 65534 ∧ g0 s.k.L t = zCp s.now (g0 s.when_ t))
theorem zKa {s : WS} {r : Nat} : (s.down r).n = s.n ∧ (s.down r).now = s.now ∧ (s.down r).when_ = s.when_ := by
 unfold WS.down
 split
 ·exact dnK_keep
 ·exact ⟨rfl, rfl, rfl⟩
theorem zBu {s : WS} : s.downs.n = s.n ∧ s.downs.now = s.now + 1 ∧ s.downs.when_ = s.when_ := by
 unfold WS.downs
 obtain ⟨a1, a2, a3⟩ := zKa (s := (s.tick.down 3).down 2) (r := 1)
 obtain ⟨b1, b2, b3⟩ := zKa (s := s.tick.down 3) (r := 2)
 obtain ⟨c1, c2, c3⟩ := zKa (s := s.tick) (r := 3)
 exact ⟨by rw [a1, b1, c1]; rfl, by rw [a2, b2, c2]; rfl, by rw [a3, b3, c3]; rfl⟩
theorem zEc.downs {s : WS} {q : Int → List Int} (h : zEc s q) : ∃ q', WTk s.downs q' := by
 obtain ⟨q3, h3⟩ := h.tick.down (by omega) (by omega)
 obtain ⟨q2, h2⟩ := h3.down (by omega) (by omega)
 obtain ⟨q1, h1⟩ := h2.down (by omega) (by omega)
 have h1 : WDn s.downs q1 1 := h1
 refine ⟨q1, h1.toWBase, h1.now1, fun t t0 t1 => ?_⟩
 rcases h1.w t t0 t1 with g | ⟨g1, g2, g3 | ⟨g3, g4⟩⟩
 ·exact .inl g
 ·exact .inr ⟨g1, g2, g3⟩
 ·refine .inr ⟨g1, g2, ?_⟩
  have n1 := h1.now1
  have := loc_still (now := s.downs.now - 1) (at_ := g0 s.downs.when_ t) (by omega) (by omega) (by omega) (.inl (by omega))
  rw [show s.downs.now - 1 + 1 = s.downs.now by omega] at this
  rw [g3, this]
theorem WTk.mem {s : WS} {q : Int → List Int} (h : WTk s q) {t : Int} : t ∈ q (placeOf 0 s.now) ↔ 0 ≤ t ∧ t < s.n ∧ g0 s.when_ t = s.now := by
 obtain ⟨p0, p1, _⟩ := zBa (r := 0) (at_ := s.now) (by omega)
 have n1 := h.now1
 refine ⟨fun hm => ?_, fun ⟨h0, h1, h2⟩ => ?_⟩
 ·obtain ⟨t0, t1, hL⟩ := h.rep.thing _ p0 p1 t hm
  rcases h.w t t0 t1 with ⟨_, g⟩ | ⟨g1, g2, g3⟩
  ·omega
  ·rw [hL] at g3
   exact ⟨t0, t1, (loc_now h.now0 g1).1 g3.symm⟩
 ·rcases h.w t h0 h1 with ⟨g, _⟩ | ⟨g1, g2, g3⟩
  ·omega
  ·have hL : g0 s.k.L t = placeOf 0 s.now := by rw [g3]; exact (loc_now h.now0 g1).2 h2
   rcases h.rep.list t h0 h1 with g | ⟨_, _, g⟩
   ·omega
   ·rw [hL] at g; exact g
def WS.wake (s : WS) (t : Int) : WS := { s.out t with when_ := up s.when_ t 0 }
def WS.wakes : List Int → WS → WS
 | [], s => s
 | t :: l, s => WS.wakes l (s.wake t)
theorem wakes_keep : ∀ {l : List Int} {s : WS}, (WS.wakes l s).n = s.n ∧ (WS.wakes l s).now = s.now := by
 intro l
 induction l with
 | nil => intro s; exact ⟨rfl, rfl⟩
 | cons t l ih => intro s; exact ih (s := s.wake t)
structure WWk (s : WS) (q : Int → List Int) (l : List Int) : Prop extends WBase s q where
 now1 : 1 ≤ s.now
 nd : l.Nodup
 mem : ∀ t, t ∈ l ↔ 0 ≤ t ∧ t < s.n ∧ g0 s.when_ t = s.now
 w : ∀ t, 0 ≤ t → t < s.n → (g0 s.when_ t = 0 ∧ g0 s.k.L t = -1) ∨ (s.now ≤ g0 s.when_ t ∧ g0 s.when_ t ≤ s.now + 65534 ∧ g0 s.k.L t = zCp s.now (g0 s.when_ t))
theorem WTk.start {s : WS} {q : Int → List Int} (h : WTk s q) : WWk s q (q (placeOf 0 s.now)) := by
 obtain ⟨p0, p1, _⟩ := zBa (r := 0) (at_ := s.now) (by omega)
 exact ⟨h.toWBase, h.now1, h.rep.nodup _ p0 p1, fun t => h.mem, h.w⟩
theorem WWk.step {s : WS} {q : Int → List Int} {t : Int} {l : List Int} (h : WWk s q (t :: l)) : g0 s.k.L t ≠ -1 ∧ WWk (s.wake t) (fun m => (q m).erase t) l := by
 obtain ⟨t0, t1, t2⟩ := (h.mem t).1 (.head _)
 have n1 := h.now1
 have hnd := List.nodup_cons.1 h.nd
 have hL : g0 s.k.L t ≠ -1 := by
  rcases h.w t t0 t1 with ⟨g, _⟩ | ⟨_, _, g⟩
  ·omega
  ·have := (zGj (now := s.now) (at_ := g0 s.when_ t)).1
   omega
 have ho := h.out ⟨t0, t1⟩ hL
 refine ⟨hL, ⟨ho.rep, ho.now0, ho.c⟩, h.now1, hnd.2, fun x => ?_, fun x x0 x1 => ?_⟩
 ·show x ∈ l ↔ 0 ≤ x ∧ x < s.n ∧ g0 (up s.when_ t 0) x = s.now
  refine ⟨fun hx => ?_, fun ⟨x0, x1, x2⟩ => ?_⟩
  ·obtain ⟨x0, x1, x2⟩ := (h.mem x).1 (.tail _ hx)
   exact ⟨x0, x1, by rw [zCx x0 (fun e => hnd.1 (by rw [← e]; exact hx))]; exact x2⟩
  ·by_cases e : x = t
   ·subst e; rw [zBn x0] at x2; omega
   ·rw [zCx x0 e] at x2
    rcases List.mem_cons.1 ((h.mem x).2 ⟨x0, x1, x2⟩) with g | g
    ·exact absurd g e
    ·exact g
 ·have x1 : x < s.n := x1
  show (g0 (up s.when_ t 0) x = 0 ∧ g0 (up s.k.L t (-1)) x = -1) ∨ (s.now ≤ g0 (up s.when_ t 0) x ∧ g0 (up s.when_ t 0) x ≤ s.now + 65534 ∧ g0 (up s.k.L t (-1)) x = zCp s.now (g0 (up s.when_ t 0) x))
  by_cases e : x = t
  ·subst e
   rw [zBn x0, zBn x0]
   exact .inl ⟨rfl, rfl⟩
  ·rw [zCx x0 e, zCx x0 e]
   exact h.w x x0 x1
theorem WWk.all : ∀ {l : List Int} {s : WS} {q : Int → List Int}, WWk s q l → ∃ q', zEc (WS.wakes l s) q' ∧ ∀ t, 0 ≤ t → g0 (WS.wakes l s).when_ t = if t ∈ l then 0 else g0 s.when_ t := by
 intro l
 induction l with
 | nil =>
  intro s q h
  refine ⟨q, ⟨h.toWBase, fun t t0 t1 => ?_⟩, fun t _ => by rw [if_neg (by simp)]; rfl⟩
  rcases h.w t t0 t1 with g | ⟨g1, g2, g3⟩
  ·exact .inl g
  ·refine .inr ⟨?_, by show g0 s.when_ t ≤ s.now + 65535; omega, g3⟩
   have : ¬ g0 s.when_ t = s.now := fun e => by
    have := (h.mem t).2 ⟨t0, t1, e⟩
    cases this
   show s.now < g0 s.when_ t
   omega
 | cons x l ih =>
  intro s q h
  obtain ⟨_, h1⟩ := h.step
  obtain ⟨x0, _, _⟩ := (h.mem x).1 (.head _)
  obtain ⟨q', h2, h3⟩ := ih h1
  refine ⟨q', h2, fun t t0 => ?_⟩
  have e : WS.wakes (x :: l) s = WS.wakes l (s.wake x) := rfl
  rw [e, h3 t t0]
  show (if t ∈ l then 0 else g0 (up s.when_ x 0) t) = _
  rw [up_at t0]
  by_cases e1 : t ∈ l
  ·rw [if_pos e1, if_pos (by simp [e1])]
  ·rw [if_neg e1]
   by_cases e2 : t = x
   ·rw [if_pos e2, if_pos (by simp [e2])]
   ·rw [if_neg e2, if_neg (by simp [e1, e2])]
def WS.len (s : WS) : Int := s.c 0 + s.c 1 + s.c 2 + s.c 3
theorem WBase.c_in {s : WS} {q : Int → List Int} (h : WBase s q) {r : Nat} (hr : r < 4) : 0 ≤ s.c r ∧ s.c r ≤ 4096 := by
 rw [h.c r hr]
 have h1 := zKp (p := zHe s.k.L r) (n := s.n.toNat)
 have := h.rep.n1
 omega
end Go.Proofs.Wheels
namespace Go.Proofs.Wheels
open Go.Abs
def zAw (env : Nat → Int) (e : SE) : TT := fun r c => e.row env (r : Int) c
def zFl (env : Nat → Int) (a : Nat) : TT := fun r c => env (zDj a (r : Int) c)
def zAg (A B : TT) : Prop := ∀ r c, c < 64 → A r c = B r c
def zDc (A : TT) : Prop := ∀ r c, c < 64 → In64 (A r c)
theorem zAg.refl (A : TT) : zAg A A := fun _ _ _ => rfl
theorem zAg.symm {A B : TT} (h : zAg A B) : zAg B A := fun r c hc => (h r c hc).symm
theorem zAg.trans {A B C : TT} (h : zAg A B) (k : zAg B C) : zAg A C := fun r c hc => (h r c hc).trans (k r c hc)
theorem zAg.g {A B : TT} (h : zAg A B) (i : Int) : g0 A i = g0 B i := h _ 0 (by omega)
theorem zEd {A B : TT} {i j x y : Int} (h : zAg A B) (hi : i = j) (hx : x = y) : zAg (up A i x) (up B j y) := fun r c hc => by
 subst hi hx
 unfold up
 rw [h r c hc]
theorem zDc.up {A : TT} {i x : Int} (h : zDc A) (hx : In64 x) : zDc (up A i x) := fun r c hc => by
 unfold Wheels.up
 split
 ·exact hx
 ·exact h r c hc
theorem zDc.of {A B : TT} (h : zDc A) (e : zAg B A) : zDc B := fun r c hc => by rw [e r c hc]; exact h r c hc
theorem zDc.g {A : TT} (h : zDc A) (i : Int) : In64 (g0 A i) := h _ 0 (by omega)
theorem zFb (env : Nat → Int) (a : Nat) : zAw env (.tab a) = zFl env a := rfl
theorem zFa (env : Nat → Int) (A i x : SE) : zAw env (.upd A i 0 x) = up (zAw env A) (i.eval env) (x.eval env) := rfl
theorem zBv (env : Nat → Int) (a : Nat) (e : SE) : (SE.sel (.tab a) e 0).eval env = g0 (zFl env a) (e.eval env) := by
 show env (zDj a (e.eval env) 0) = env (zDj a ((e.eval env).toNat : Int) 0)
 unfold zDj
 rw [Int.toNat_natCast]
def fvL (f : List SE) (i : Nat) : SE := (f[i]?).getD (.var i)
def gvL (g : List SE) (a : Nat) : SE := (g[a - 128]?).getD (.tab a)
theorem into_tab {f g : Nat → SE} {env : Nat → Int} {a : Nat} (h1 : 128 ≤ a) (h2 : a < 256) : zAg (zFl (zBb f g env) a) (zAw env (g a)) := fun r c hc => zCj h1 h2 hc
abbrev inE (f g : List SE) (env : Nat → Int) : Nat → Int := zBb (fun i => (f[i]?).getD (.var i)) (fun a => (g[a - 128]?).getD (.tab a)) env
theorem zDd {f g : List SE} {env : Nat → Int} {a : Nat} {e : SE} (h : g[a - 128]? = some e) (h1 : 128 ≤ a) (h2 : a < 256) : zAg (zFl (inE f g env) a) (zAw env e) := by
 have := into_tab (f := fun i => (f[i]?).getD (.var i)) (g := fun a => (g[a - 128]?).getD (.tab a)) (env := env) h1 h2
 simp only [h, Option.getD_some] at this
 exact this
theorem inE_sel {f g : List SE} {env : Nat → Int} {a : Nat} {e x : SE} (h : g[a - 128]? = some e) (h1 : 128 ≤ a) (h2 : a < 256) : (SE.sel (.tab a) x 0).eval (inE f g env) = g0 (zAw env e) (x.eval (inE f g env)) := by
 rw [zBv]
 exact (zDd h h1 h2).g _
theorem zAx {f g : List SE} {env : Nat → Int} {i : Nat} {e : SE} (h : f[i]? = some e) (h1 : i < 128) : inE f g env i = e.eval env := by
 unfold inE
 rw [zBt h1, h]
 rfl
theorem inE_same {f g g' : List SE} {env : Nat → Int} {i : Nat} (h : i < 128) : inE f g env i = inE f g' env i := by
 unfold inE
 rw [zBt h, zBt h]
theorem zCh {f g : List SE} {env : Nat → Int} (h : ∀ j, In64 (env j)) (hf : ∀ e ∈ f, In64 (e.eval env)) (hg : ∀ e ∈ g, zDc (zAw env e)) : ∀ j, In64 (zBb (fun i => (f[i]?).getD (.var i)) (fun a => (g[a - 128]?).getD (.tab a)) env j) := by
 intro j
 unfold zBb
 split
 ·show In64 (((f[j]?).getD (.var j)).eval env)
  cases hj : f[j]? with
  | none => exact h j
  | some e => exact hf e (List.mem_of_getElem? hj)
 ·rename_i hj
  show In64 (((g[j % 256 - 128]?).getD (.tab (j % 256))).row env (j / 16384 : Nat) (j / 256 % 64))
  cases ha : g[j % 256 - 128]? with
  | none =>
   show In64 ((SE.tab (j % 256)).row env (j / 16384 : Nat) (j / 256 % 64))
   rw [tab_at hj]; exact h j
  | some e => exact hg e (List.mem_of_getElem? ha) _ _ (Nat.mod_lt _ (by decide))
theorem zBg {f g : Nat → SE} {env env' : Nat → Int} {kv kt : Nat} (hkv : kv ≤ 128) (hkt : kt ≤ 128) (hf : ∀ i, i < kv → (f i).eval env = env' i) (hg : ∀ a, 128 ≤ a → a < 128 + kt → zAg (zAw env (g a)) (zFl env' a)) : zCq kv kt (zBb f g env) env' :=
 ⟨fun i hi => by rw [zBt (by omega)]; exact hf i hi, fun a r c h1 h2 h3 => by rw [zCj h1 (by omega) h3]; exact hg a h1 h2 r c h3⟩
theorem zCc (kv kt : Nat) (env : Nat → Int) : zCq kv kt env env := ⟨fun _ _ => rfl, fun _ _ _ _ _ _ => rfl⟩
theorem zEa {kv kt : Nat} {env env' : Nat → Int} (h : zCq kv kt env env') : zCq kv kt env' env := ⟨fun i hi => (h.1 i hi).symm, fun a r c h1 h2 h3 => (h.2 a r c h1 h2 h3).symm⟩
def Fx (env : Nat → Int) (pc : List (SB × Bool)) : Prop := ∀ p ∈ pc, p.1.eval env = p.2
theorem Fx.nil {env : Nat → Int} : Fx env [] := fun _ h => by cases h
theorem Fx.cons {env : Nat → Int} {p : SB × Bool} {l : List (SB × Bool)} (h : p.1.eval env = p.2) (t : Fx env l) : Fx env (p :: l) := fun q hq => by
 rcases List.mem_cons.1 hq with rfl | hq
 ·exact h
 ·exact t q hq
theorem Fx.app {env : Nat → Int} {l m : List (SB × Bool)} (h : Fx env l) (t : Fx env m) : Fx env (l ++ m) := fun q hq => by
 rcases List.mem_append.1 hq with hq | hq
 ·exact h q hq
 ·exact t q hq
def le (a b : SE) : SB × Bool := (.le a b, true)
def nle (a b : SE) : SB × Bool := (.le a b, false)
def eq (a b : SE) : SB × Bool := (.eq a b, true)
def ne (a b : SE) : SB × Bool := (.eq a b, false)
theorem zKv {env : Nat → Int} {a b : SE} (h : a.eval env ≤ b.eval env) : (le a b).1.eval env = (le a b).2 := decide_eq_true h
theorem nle_ok {env : Nat → Int} {a b : SE} (h : b.eval env < a.eval env) : (nle a b).1.eval env = (nle a b).2 := decide_eq_false (by omega)
theorem eq_ok {env : Nat → Int} {a b : SE} (h : a.eval env = b.eval env) : (eq a b).1.eval env = (eq a b).2 := decide_eq_true h
theorem ne_ok {env : Nat → Int} {a b : SE} (h : a.eval env ≠ b.eval env) : (ne a b).1.eval env = (ne a b).2 := decide_eq_false h
def inR (lo : SE) (e : SE) (hi : SE) : List (SB × Bool) := [le lo e, le e hi]
theorem zAv {env : Nat → Int} {lo e hi : SE} (h1 : lo.eval env ≤ e.eval env) (h2 : e.eval env ≤ hi.eval env) : Fx env (inR lo e hi) := .cons (zKv h1) (.cons (zKv h2) .nil)
theorem zEb {env : Nat → Int} {p : SB × Bool} (h : p.1.eval env = p.2) : Fx env [p] := .cons h .nil
structure K4 where
 a : SE
 b : SE
 c : SE
 d : SE
def K4.list (K : K4) : List SE := [K.a, K.b, K.c, K.d]
def lkE (env : Nat → Int) (K : K4) : LK := ⟨zAw env K.a, zAw env K.b, zAw env K.c, zAw env K.d⟩
structure zEi (k k' : LK) : Prop where
 N : zAg k.N k'.N
 B : zAg k.B k'.B
 L : zAg k.L k'.L
 C : zAg k.C k'.C
structure zEg (k : LK) : Prop where
 N : zDc k.N
 B : zDc k.B
 L : zDc k.L
 C : zDc k.C
theorem zEi.symm {k k' : LK} (h : zEi k k') : zEi k' k := ⟨h.N.symm, h.B.symm, h.L.symm, h.C.symm⟩
theorem zEi.trans {k k' k2 : LK} (h : zEi k k') (g : zEi k' k2) : zEi k k2 := ⟨h.N.trans g.N, h.B.trans g.B, h.L.trans g.L, h.C.trans g.C⟩
theorem zEg.of {k k' : LK} (h : zEg k) (e : zEi k' k) : zEg k' := ⟨h.N.of e.N, h.B.of e.B, h.L.of e.L, h.C.of e.C⟩
theorem Seg.of {N B N' B' : TT} (hN : zAg N' N) (hB : zAg B' B) {a b : Int} {l : List Int} (h : Seg N B a l b) : Seg N' B' a l b :=
 zGy (fun y _ => hN.g y) (fun y _ => hB.g y) h
theorem Rep.of {n : Int} {k k' : LK} {q : Int → List Int} (h : Rep n k q) (e : zEi k' k) : Rep n k' q :=
 ⟨h.n1, fun l h0 h1 => (h.seg l h0 h1).of e.N e.B, fun l h0 h1 t ht => by rw [e.L.g]; exact h.thing l h0 h1 t ht, fun t h0 h1 => by rw [e.L.g]; exact h.list t h0 h1, h.nodup, fun l h0 h1 => by rw [e.C.g]; exact h.cnt l h0 h1⟩
theorem zEg.push {k : LK} (h : zEg k) {n l t : Int} (hl : In64 l) (ht : In64 t) (hc : In64 (g0 k.C l + 1)) : zEg (k.push n l t) :=
 ⟨(h.N.up ht).up (h.N.g _), (h.B.up (h.B.g _)).up ht, h.L.up hl, h.C.up hc⟩
theorem zEg.remove {k : LK} (h : zEg k) {t : Int} (hc : In64 (g0 k.C (g0 k.L t) - 1)) : zEg (k.remove t) :=
 ⟨h.N.up (h.N.g _), h.B.up (h.B.g _), h.L.up (by unfold In64; omega), h.C.up hc⟩
theorem push_eq {k k' : LK} (h : zEi k k') {n l t n' l' t' : Int} (hn : n = n') (hl : l = l') (ht : t = t') : zEi (k.push n l t) (k'.push n' l' t') := by
 subst hn hl ht
 have e1 := h.B.g (n + l)
 have e2 := h.N.g (g0 k.B (n + l))
 refine ⟨zEd (zEd h.N e1 rfl) rfl (by rw [e2, e1]), zEd (zEd h.B rfl e1) (by rw [e2, e1]) rfl, zEd h.L rfl rfl, zEd h.C rfl (by rw [h.C.g])⟩
theorem zMe {k k' : LK} (h : zEi k k') {t t' : Int} (ht : t = t') : zEi (k.remove t) (k'.remove t') := by
 subst ht
 exact ⟨zEd h.N (h.B.g _) (h.N.g _), zEd h.B (h.N.g _) (h.B.g _), zEd h.L rfl rfl, zEd h.C (h.L.g _) (by rw [h.L.g, h.C.g])⟩
def zCb (sc : List Int) (tb : List TT) : Nat → Int := envT (fun i => (sc[i]?).getD 0) (fun a => (tb[a - 128]?).getD fun _ _ => 0)
theorem zAu {sc : List Int} {tb : List TT} {i : Nat} {x : Int} (h : sc[i]? = some x) (hi : i < 128) : zCb sc tb i = x := by
 unfold zCb envT
 rw [if_pos (by omega)]
 show (sc[i]?).getD 0 = x
 rw [h]
 rfl
theorem zAq {sc : List Int} {tb : List TT} {a : Nat} {T : TT} (h : tb[a - 128]? = some T) (h1 : 128 ≤ a) (h2 : a < 256) : zAg (zFl (zCb sc tb) a) T := fun r c hc => by
 unfold zFl zCb
 rw [envT_cell h1 h2 hc]
 show ((tb[a - 128]?).getD fun _ _ => 0) r c = T r c
 rw [h]
 rfl
theorem zMv {sc : List Int} {tb : List TT} (h1 : ∀ x ∈ sc, In64 x) (h2 : ∀ T ∈ tb, zDc T) : ∀ j, In64 (zCb sc tb j) := by
 have z : In64 0 := by unfold In64; omega
 intro j
 unfold zCb envT
 split
 ·show In64 ((sc[j]?).getD 0)
  cases h : sc[j]? with
  | none => exact z
  | some x => exact h1 x (List.mem_of_getElem? h)
 ·show In64 (((tb[j % 256 - 128]?).getD fun _ _ => 0) (j / 16384) (j / 256 % 64))
  cases h : tb[j % 256 - 128]? with
  | none => exact z
  | some T => exact h2 T (List.mem_of_getElem? h) _ _ (Nat.mod_lt _ (by decide))
def LK.list (k : LK) : List TT := [k.N, k.B, k.L, k.C]
def lkT (env : Nat → Int) (a : Nat) : LK := ⟨zFl env a, zFl env (a + 1), zFl env (a + 2), zFl env (a + 3)⟩
theorem lk_enc {sc : List Int} {pre post : List TT} {k : LK} {a : Nat} (h : pre.length + 128 = a) (ha : a + 4 ≤ 256) : zEi (lkT (zCb sc (pre ++ (k.list ++ post))) a) k := by
 have key : ∀ i T, (k.list ++ post)[i]? = some T → (pre ++ (k.list ++ post))[a + i - 128]? = some T := fun i T he => by
  rw [List.getElem?_append_right (by omega), show a + i - 128 - pre.length = i by omega]; exact he
 exact ⟨zAq (key 0 k.N rfl) (by omega) (by omega), zAq (key 1 k.B rfl) (by omega) (by omega), zAq (key 2 k.L rfl) (by omega) (by omega), zAq (key 3 k.C rfl) (by omega) (by omega)⟩
theorem LK.list_mid {k : LK} (h : zEg k) : ∀ T ∈ k.list, zDc T := fun T hT => by
 simp only [LK.list, List.mem_cons, List.not_mem_nil, or_false] at hT
 rcases hT with rfl | rfl | rfl | rfl
 ·exact h.N
 ·exact h.B
 ·exact h.L
 ·exact h.C
structure zDg (s s' : WS) : Prop where
 n : s.n = s'.n
 now : s.now = s'.now
 w : zAg s.when_ s'.when_
 k : zEi s.k s'.k
 c : ∀ r, r < 4 → s.c r = s'.c r
theorem inRow_of {T T' : TT} (h : zAg T' T) (r : Nat) (i : Int) : zHe T' r i = zHe T r i := by
 unfold zHe
 rw [h.g]
theorem WBase.of {s s' : WS} {q : Int → List Int} (h : WBase s q) (e : zDg s' s) : WBase s' q :=
 ⟨by rw [e.n]; exact h.rep.of e.k, by rw [e.now]; exact h.now0, fun r hr => by
  rw [e.c r hr, h.c r hr, e.n]
  exact (cntP_congr fun i _ => inRow_of e.k.L r i).symm⟩
structure zEh (s : WS) : Prop where
 now : s.now ≤ 999000000
 w : zDc s.when_
 k : zEg s.k
theorem zEh.of {s s' : WS} (h : zEh s) (e : zDg s' s) : zEh s' := ⟨by rw [e.now]; exact h.now, h.w.of e.w, h.k.of e.k⟩
theorem inn_eq {s s' : WS} (h : zDg s s') {t t' : Int} (ht : t = t') : zDg (s.inn t) (s'.inn t') := by
 subst ht
 have e1 : g0 s.when_ t = g0 s'.when_ t := h.w.g t
 refine ⟨h.n, h.now, h.w, ?_, fun r hr => ?_⟩
 ·show zEi (s.k.push s.n (zCp s.now (g0 s.when_ t)) t) (s'.k.push s'.n (zCp s'.now (g0 s'.when_ t)) t)
  exact push_eq h.k h.n (by rw [e1, h.now]) rfl
 ·show bump s.c (rowOf s.now (g0 s.when_ t)) 1 r = bump s'.c (rowOf s'.now (g0 s'.when_ t)) 1 r
  rw [e1, h.now]
  unfold bump
  rw [h.c r hr]
theorem out_eq {s s' : WS} (h : zDg s s') {t t' : Int} (ht : t = t') : zDg (s.out t) (s'.out t') := by
 subst ht
 refine ⟨h.n, h.now, h.w, zMe h.k rfl, fun r hr => ?_⟩
 show bump s.c (g0 s.k.L t / 32).toNat (-1) r = bump s'.c (g0 s'.k.L t / 32).toNat (-1) r
 rw [h.k.L.g]
 unfold bump
 rw [h.c r hr]
def WS.cs (s : WS) : List Int := [s.c 0, s.c 1, s.c 2, s.c 3]
theorem WBase.cs_mid {s : WS} {q : Int → List Int} (h : WBase s q) : ∀ x ∈ s.cs, In64 x := fun x hx => by
 have key : ∀ r, r < 4 → In64 (s.c r) := fun r hr => by
  have := h.c_in hr
  unfold In64; omega
 simp only [WS.cs, List.mem_cons, List.not_mem_nil, or_false] at hx
 rcases hx with rfl | rfl | rfl | rfl
 ·exact key 0 (by decide)
 ·exact key 1 (by decide)
 ·exact key 2 (by decide)
 ·exact key 3 (by decide)
theorem zEh.inn {s : WS} {q : Int → List Int} (hm : zEh s) (h : WBase s q) {t : Int} (ht : 0 ≤ t ∧ t < s.n) : zEh (s.inn t) := by
 have hn := h.rep.n1
 obtain ⟨l0, l1, _⟩ := zGj (now := s.now) (at_ := g0 s.when_ t)
 have hc := h.rep.cnt _ l0 l1
 have := h.rep.len l0 l1
 exact ⟨hm.now, hm.w, hm.k.push (by unfold In64; omega) (by unfold In64; omega) (by rw [hc]; unfold In64; omega)⟩
theorem zEh.out {s : WS} {q : Int → List Int} (hm : zEh s) (h : WBase s q) {t : Int} (ht : 0 ≤ t ∧ t < s.n) (hL : g0 s.k.L t ≠ -1) : zEh (s.out t) := by
 obtain ⟨l0, l1, _⟩ := (h.rep.list t ht.1 ht.2).resolve_left hL
 have hc := h.rep.cnt _ l0 l1
 have := h.rep.len l0 l1
 exact ⟨hm.now, hm.w, hm.k.remove (by rw [hc]; unfold In64; omega)⟩
end Go.Proofs.Wheels
namespace Go.Proofs.Wheels
open Go.Abs
def I (n : Int) : AV := .val (.int .i64 n)
def X (i : Nat) : AV := .sx .i64 (.var i)
def row (l : List AV) : Blk := .cells (Tr.fill l 0 .lf) l.length none
def T1 (a : Nat) (n : SE) : Blk := .arr [.i .i64] (.tab a) n false
def T1r (a : Nat) (n : SE) : Blk := .arr [.i .i64] (.tab a) n true
def nilS : AV := .val (.slice none 0 0)
def L (n : Int) : SE := .lit n
def v (n : Nat) : SE := .var n
def add (a b : SE) : SE := .add a b
def sel (a : Nat) (r : SE) : SE := .sel (.tab a) r 0
def wN : SE := .add (.var 0) (.lit 128)
def n1 : SE := .add (.var 0) (.lit (-1))
def n127 : SE := .add (.var 0) (.lit 127)
def ss (b : Nat) (n : SE) : AV := .ss b 1 (.lit 0) n
def linksB (b : Nat) : List Blk := [row [X 0, ss (b + 1) wN, ss (b + 2) wN, ss (b + 3) (.var 0), ss (b + 4) (.lit 128)], T1 129 wN, T1 130 wN, T1 131 (.var 0), T1 132 (.lit 128)]
def zDr (b : Nat) : List Blk := [row [X 1, ss (b + 1) (.var 0), .ptr (b + 2) 0, X 2, X 3, X 4, X 5], T1 128 (.var 0)] ++ linksB (b + 2)
def tt : SB × Bool := (.eq (.lit 77) (.lit 77), true)
def pcN : List (SB × Bool) := [tt, le (L 1) (v 0), le (v 0) (L 4096)]
def ssOf : Option AV → List Nat
 | some (.ss b _ _ _) => [b]
 | some (.sl b _ _ _ _) => [b]
 | _ => []
def zKu : Option AV → List Nat
 | some (.ptr b _) => [b]
 | _ => []
def cellOf (s : HS) (r i : Nat) : Option AV := match s.h.get r with
  | some (_, .cells c _ _) => c.get i
  | some (_, .ro c _) => c.get i
  | _ => none
def linksOf (s : HS) : Option AV → List Nat
 | some (.ptr r 0) => r :: (ssOf (cellOf s r 1) ++ ssOf (cellOf s r 2) ++ ssOf (cellOf s r 3) ++ ssOf (cellOf s r 4))
 | _ => []
def zIo (s : HS) : Option AV → List Nat
 | some (.ptr r 0) => r :: (ssOf (cellOf s r 1) ++ linksOf s (cellOf s r 2))
 | _ => []
def nmL (xs : List AV) (s : HS) : List Nat := linksOf s xs.head?
def nmW (xs : List AV) (s : HS) : List Nat := zIo s xs.head?
def ok0 : AV := I 0
def void : AV := .tup []
structure Fns where
 G : Nat
 push : Nat
 remove : Nat
 pop : Nat
 inn : Nat
 out : Nat
 down : Nat
 all : Nat
 tick : Nat
 ints : Nat
def shPush (G : Nat) : Nat → Shape
 | 0 => ⟨zHg 0 [.ptr G 0, X 6, X 7], linksB G⟩
 | _ => ⟨[(0, ok0)], linksB G⟩
def shRem (G : Nat) : Nat → Shape
 | 0 => ⟨zHg 0 [.ptr G 0, X 7], linksB G⟩
 | _ => ⟨[(0, ok0)], linksB G⟩
def shPop (G : Nat) : Nat → Shape
 | 0 => ⟨zHg 0 [.ptr G 0, X 6], linksB G⟩
 | _ => ⟨[(0, .tup [X 7, I 0])], linksB G⟩
def fL (n l t : SE) : List SE := [n, L 0, L 0, L 0, L 0, L 0, l, t]
def gL (K : K4) : List SE := .const (L 0) :: K.list
def pushS (f : Fns) (n l t : SE) (K K' : K4) : zAi := ⟨f.push, 3, shPush f.G, fL n l t, gL K, nmL, [⟨.ret, 1, fL n l t, gL K'⟩], 5⟩
def remS (f : Fns) (n t : SE) (K K' : K4) : zAi := ⟨f.remove, 2, shRem f.G, fL n (L 0) t, gL K, nmL, [⟨.ret, 1, fL n (L 0) t, gL K'⟩], 5⟩
def popS (f : Fns) (n l t : SE) (K K' : K4) : zAi := ⟨f.pop, 2, shPop f.G, fL n l (L 0), gL K, nmL, [⟨.ret, 1, fL n l t, gL K'⟩], 5⟩
def plE : SE := sel 130 (add (v 0) (v 6))
def afE : SE := sel 129 plE
def pcPush : List (SB × Bool) := pcN ++ (inR (L 0) (v 6) (L 127) ++ (inR (L 0) (v 7) n1 ++ ([eq (sel 131 (v 7)) (L (-1))] ++ (inR (L 0) plE n127 ++ (inR (L 0) afE n127 ++ inR (L 0) (sel 132 (v 6)) (L 4096))))))
def csPush : Case := ⟨pcPush, .ret, 1, [], [.tab 128, .upd (.upd (.tab 129) plE 0 (v 7)) (v 7) 0 afE, .upd (.upd (.tab 130) (v 7) 0 plE) afE 0 (v 7), .upd (.tab 131) (v 7) 0 (v 6), .upd (.tab 132) (v 6) 0 (add (sel 132 (v 6)) (L 1))], []⟩
def gRem (t : SE) : List SE := [.tab 128, .upd (.tab 129) (sel 130 t) 0 (sel 129 t), .upd (.tab 130) (sel 129 t) 0 (sel 130 t), .upd (.tab 131) t 0 (L (-1)), .upd (.tab 132) (sel 131 t) 0 (add (sel 132 (sel 131 t)) (L (-1)))]
def pcThing (t : SE) : List (SB × Bool) := inR (L 0) t n1 ++ (inR (L 0) (sel 131 t) (L 127) ++ (inR (L 0) (sel 130 t) n127 ++ (inR (L 0) (sel 129 t) n127 ++ inR (L 1) (sel 132 (sel 131 t)) (L 4096))))
def pcRem : List (SB × Bool) := pcN ++ pcThing (v 7)
def csRem : Case := ⟨pcRem, .ret, 1, [], gRem (v 7), []⟩
def topE : SE := sel 129 (add (v 0) (v 6))
def pcPop : List (SB × Bool) := pcN ++ (inR (L 0) (v 6) (L 127) ++ (inR (L 1) (sel 132 (v 6)) (L 4096) ++ pcThing topE))
def csPop : Case := ⟨pcPop, .ret, 1, [.var 0, .var 1, .var 2, .var 3, .var 4, .var 5, .var 6, topE], gRem topE, []⟩
structure C4 where
 a : SE
 b : SE
 c : SE
 d : SE
def C4.list (c : C4) : List SE := [c.a, c.b, c.c, c.d]
def cE (env : Nat → Int) (c : C4) : Nat → Int
 | 0 => c.a.eval env
 | 1 => c.b.eval env
 | 2 => c.c.eval env
 | _ => c.d.eval env
def shIn (G : Nat) : Nat → Shape
 | 0 => ⟨zHg 0 [.ptr G 0, X 6], zDr G⟩
 | _ => ⟨[(0, void)], zDr G⟩
def fW (n now : SE) (c : C4) (t : SE) : List SE := [n, now, c.a, c.b, c.c, c.d, t]
def gW (w : SE) (K : K4) : List SE := w :: K.list
def inS (f : Fns) (n now : SE) (c c' : C4) (t : SE) (w : SE) (K K' : K4) : zAi := ⟨f.inn, 2, shIn f.G, fW n now c t, gW w K ++ K'.list, nmW, [⟨.ret, 1, fW n now c' t, gW w K' ++ K'.list⟩], 7⟩
def outS (f : Fns) (n now : SE) (c c' : C4) (t : SE) (w : SE) (K K' : K4) : zAi := ⟨f.out, 2, shIn f.G, fW n now c t, gW w K ++ K'.list, nmW, [⟨.ret, 1, fW n now c' t, gW w K' ++ K'.list⟩], 7⟩
def K0 : K4 := ⟨.tab 129, .tab 130, .tab 131, .tab 132⟩
def K1 : K4 := ⟨.tab 133, .tab 134, .tab 135, .tab 136⟩
def K2 : K4 := ⟨.tab 137, .tab 138, .tab 139, .tab 140⟩
def C0 : C4 := ⟨v 2, v 3, v 4, v 5⟩
def pwS (r : Nat) : SE := L (pw r)
def qS (r : Nat) (e : SE) : SE := .quo e (pwS r)
def pcRow (e : SE) : Nat → List (SB × Bool)
 | 0 => [eq (qS 1 e) (qS 1 (v 1))]
 | 1 => [ne (qS 1 e) (qS 1 (v 1)), eq (qS 2 e) (qS 2 (v 1))]
 | 2 => [ne (qS 1 e) (qS 1 (v 1)), ne (qS 2 e) (qS 2 (v 1)), eq (qS 3 e) (qS 3 (v 1))]
 | _ => [ne (qS 1 e) (qS 1 (v 1)), ne (qS 2 e) (qS 2 (v 1)), ne (qS 3 e) (qS 3 (v 1))]
def placeS (r : Nat) (e : SE) : SE := if r = 0 then .rem (qS r e) (L 32) else .add (.rem (qS r e) (L 32)) (L (32 * r))
def most : Int := 1000000000
def pcW : List (SB × Bool) := pcN ++ (inR (L 0) (v 1) (L most) ++ (inR (L 0) (v 2) (L 4096) ++ (inR (L 0) (v 3) (L 4096) ++ (inR (L 0) (v 4) (L 4096) ++ inR (L 0) (v 5) (L 4096)))))
def w6 : SE := sel 128 (v 6)
def pcIn (r : Nat) : List (SB × Bool) := pcW ++ (inR (L 0) (v 6) n1 ++ (inR (L 0) w6 (L most) ++ pcRow w6 r))
def bumpF (r : Nat) (d : Int) : List SE := [.var 0, .var 1] ++ ([.var 2, .var 3, .var 4, .var 5].set r (add (.var (2 + r)) (L d))) ++ [.var 6]
def csIn (r : Nat) : Case := ⟨pcIn r, .ret, 1, bumpF r 1, [.tab 128, .tab 133, .tab 134, .tab 135, .tab 136], []⟩
def l6 : SE := sel 131 (v 6)
def pcOut (r : Nat) : List (SB × Bool) := pcW ++ (inR (L 0) (v 6) n1 ++ (inR (L (32 * r)) l6 (L (32 * r + 31)) ++ [eq (.quo l6 (L 32)) (L r)]))
def csOut (r : Nat) : Case := ⟨pcOut r, .ret, 1, bumpF r (-1), [.tab 128, .tab 133, .tab 134, .tab 135, .tab 136], []⟩
def shDn (G r : Nat) : Nat → Shape
 | 0 => ⟨[(0, .ptr G 0), (1, I r), (4, X 6), (18, X 7), (19, X 8)], zDr G⟩
 | _ => ⟨[], zDr G⟩
def nm0 (st : St) (s : HS) : List Nat := zIo s (st.t.get 0)
def fD (n now : SE) (c : C4) (from_ m i : SE) : List SE := [n, now, c.a, c.b, c.c, c.d, from_, m, i]
def dnS (f : Fns) (r : Nat) (n now : SE) (c c' : C4) (from_ m : SE) (w : SE) (K K' : K4) : zAd :=
 ⟨f.down, 3, 44, shDn f.G r, fD n now c from_ m (L 0), gW w K, nm0, [⟨.exit 0, 1, fD n now c' from_ m m, gW w K'⟩], 7⟩
def pcDn : List (SB × Bool) := pcW ++ (inR (L 0) (v 6) (L 127) ++ ([nle (v 7) (v 8), le (L 0) (v 8), le (v 8) (add (v 7) (L (-1))), le (v 8) (L 4095), le (v 7) (L 4096)] ++ inR (L 0) (v 9) n1))
def C1 (r : Nat) : C4 := ⟨if r = 0 then add (v 2) (L (-1)) else v 2, if r = 1 then add (v 3) (L (-1)) else v 3, if r = 2 then add (v 4) (L (-1)) else v 4, if r = 3 then add (v 5) (L (-1)) else v 5⟩
def C2 : C4 := ⟨v 10, v 11, v 12, v 13⟩
def csDn (r : Nat) : Case := ⟨pcDn ++ inR (L 1) (.var (2 + r)) (L 4096), .normal, 0, [.var 0, .var 1, .var 10, .var 11, .var 12, .var 13, .var 6, .var 7, add (v 8) (L 1)], [.tab 128, .tab 137, .tab 138, .tab 139, .tab 140], []⟩
def csDnE : Case := ⟨pcW ++ [le (v 7) (v 8)], .exit 0, 1, [], [], []⟩
def dnFuns (f : Fns) (r : Nat) : List zAi := [popS f (v 0) (v 6) (v 9) K0 K1, inS f (v 0) (v 1) (C1 r) C2 (v 9) (.tab 128) K1 K2]
def rfCode : Code → Option (Code × Code)
 | .rangeFunc _ _ a b => some (a, b)
 | .seq a b => (rfCode a).or (rfCode b)
 | .block _ b => rfCode b
 | .cond _ a b => (rfCode a).or (rfCode b)
 | .scope b => rfCode b
 | _ => none
def loopB (f : Fns) (ab : Code × Code) : Blk := .loop .ready none f.tick (tmps [(4, .ptr (f.G + 4) 0)]) 69 #[45] ab.1 ab.2 (f.G + 6)
def lkRo (b : Nat) : Blk := .ro (Tr.fill [X 0, ss (b + 1) wN] 0 .lf) 2
def blsA (f : Fns) (ab : Code × Code) (l : Bool) : List Blk := [lkRo f.G, T1r 129 wN, .ro (Tr.fill [.ptr f.G 0] 0 .lf) 1, .ro (Tr.fill [X 6] 0 .lf) 1, row [bif l then ss (f.G + 7) (v 7) else nilS], loopB f ab, .dfr] ++ (bif l then [T1 133 (v 7)] else [])
def shA (f : Fns) (ab : Code × Code) : Nat → Shape
 | 0 => ⟨[(0, .yl (f.G + 5)), (1, .ptr (f.G + 2) 0), (2, .ptr (f.G + 3) 0), (4, X 8)], blsA f ab false⟩
 | 1 => ⟨[(0, .yl (f.G + 5)), (1, .ptr (f.G + 2) 0), (2, .ptr (f.G + 3) 0), (4, X 8)], blsA f ab true⟩
 | 2 => ⟨[], blsA f ab false⟩
 | _ => ⟨[], blsA f ab true⟩
def linksN (s : HS) : Option AV → List Nat
 | some (.ptr r 0) => r :: ssOf (cellOf s r 1)
 | _ => []
def nmA (st : St) (s : HS) : List Nat := match st.t.get 0, st.t.get 1, st.t.get 2 with
 | some (.yl l), some (.ptr b 0), some (.ptr c 0) => linksN s (cellOf s b 0) ++ [b, c] ++ (match s.h.get l with
  | some (_, .loop _ _ _ env _ _ _ _ d) => zKu (env.get 4) ++ [l, d]
  | _ => [])
 | _, _, _ => []
def fA (n l i x : SE) : List SE := [n, L 0, L 0, L 0, L 0, L 0, l, i, x]
def gA (N T : SE) : List SE := [.const (L 0), N, .const (L 0), .const (L 0), .const (L 0), T]
def allS (f : Fns) (ab : Code × Code) (n l x m : SE) (N T : SE) (some_ : Bool) : zAd :=
 ⟨f.all, 3, 39, shA f ab, fA n l (L 0) x, gA N (.const (L 0)), nmA, [⟨.exit 0, bif some_ then 3 else 2, fA n l m (add n l), gA N T⟩], 7⟩
def pcA : List (SB × Bool) := pcN ++ (inR (L 0) (v 6) (L 127) ++ (inR (L 0) (v 7) (L 4095) ++ inR (L 0) (v 8) n127))
def endA : SE := add (v 0) (v 6)
def oneE (x : SE) : SE := .upd (.const (L 0)) (L 0) 0 x
def csA0 (G : Nat) : Case := ⟨pcA ++ [ne (v 8) endA], .normal, 1, [.var 0, .var 1, .var 2, .var 3, .var 4, .var 5, .var 6, L 1, sel 129 (v 8)], [.tab 128, .tab 129, .tab 130, .tab 131, .tab 132, oneE (v 8)], [G, G + 1, G + 2, G + 3, G + 4, G + 5, G + 6, G + 8]⟩
def csA1 (G : Nat) : Case := ⟨pcA ++ [ne (v 8) endA], .normal, 1, [.var 0, .var 1, .var 2, .var 3, .var 4, .var 5, .var 6, add (v 7) (L 1), sel 129 (v 8)], [.tab 128, .tab 129, .tab 130, .tab 131, .tab 132, .cat (.tab 133) (v 7) (oneE (v 8))], [G, G + 1, G + 2, G + 3, G + 4, G + 5, G + 6, G + 9]⟩
def pcAE : List (SB × Bool) := pcN ++ (inR (L 0) (v 6) (L 127) ++ [eq (v 8) endA])
def csAE (to : Nat) : Case := ⟨pcAE, .exit 0, to, [], [], []⟩
def shK (G : Nat) : Nat → Shape
 | 0 => ⟨[(0, .ptr G 0), (4, .ptr (G + 7) 0), (50, ss (G + 8) (v 6)), (51, X 6), (52, X 7)], zDr G ++ [row [ss (G + 8) (v 6)], T1 133 (v 6)]⟩
 | _ => ⟨[(0, .ptr G 0), (4, .ptr (G + 7) 0)], zDr G ++ [row [ss (G + 8) (v 6)], T1 133 (v 6)]⟩
def nmK (st : St) (s : HS) : List Nat := zIo s (st.t.get 0) ++ zKu (st.t.get 4) ++ ssOf (st.t.get 50)
def fK (n now : SE) (c : C4) (m i : SE) : List SE := [n, now, c.a, c.b, c.c, c.d, m, i]
def gK (w : SE) (K : K4) (T : SE) : List SE := [w, K.a, K.b, K.c, K.d, T]
def wakeS (f : Fns) (n now : SE) (c c' : C4) (m : SE) (w w' : SE) (K K' : K4) (T : SE) : zAd :=
 ⟨f.tick, 15, 69, shK f.G, fK n now c m (L 0), gK w K T, nmK, [⟨.exit 4, 1, fK n now c' m m, gK w' K' T⟩], 9⟩
def idK : SE := sel 133 (v 7)
def K5 : K4 := ⟨.tab 134, .tab 135, .tab 136, .tab 137⟩
def C5 : C4 := ⟨v 8, v 9, v 10, v 11⟩
def pcK : List (SB × Bool) := pcW ++ ([nle (v 6) (v 7), le (L 0) (v 7), le (v 7) (add (v 6) (L (-1))), le (v 7) (L 4095), le (v 6) (L 4096)] ++ inR (L 0) idK n1)
def csK : Case := ⟨pcK, .normal, 0, [.var 0, .var 1, .var 8, .var 9, .var 10, .var 11, .var 6, add (v 7) (L 1)], [.upd (.tab 128) idK 0 (L 0), .tab 134, .tab 135, .tab 136, .tab 137, .tab 133], []⟩
def csKE : Case := ⟨pcW ++ [le (v 6) (v 7)], .exit 4, 1, [], [], []⟩
def kFuns (f : Fns) : List zAi := [outS f (v 0) (v 1) C0 C5 idK (.tab 128) K0 K5]
def shSo (G : Nat) : Nat → Shape
 | 0 => ⟨zHg 0 [ss G (v 0)], [T1 128 (v 0)]⟩
 | _ => ⟨[(0, void)], [T1 128 (v 0)]⟩
def nmSo (xs : List AV) (_ : HS) : List Nat := ssOf xs.head?
def sortS (f : Fns) (n T T' : SE) : zAi := ⟨f.ints, 1, shSo f.G, [n], [T], nmSo, [⟨.ret, 1, [n], [T']⟩], 1⟩
end Go.Proofs.Wheels
end
