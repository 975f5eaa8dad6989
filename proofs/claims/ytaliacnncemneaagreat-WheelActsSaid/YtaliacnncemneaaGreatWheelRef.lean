/- The document's wheel. Conditions: those that each theorem names. -/
import Derived.Test.YtaliacnncemneaaGreatWheelSkip
open Go
noncomputable section
namespace Go.Proofs.Wheels
open Go.Abs
def yes : AV := .val (.bool true)
def zPe (b : Nat) : List Blk := [row [X 0, X 1, ss (b + 1) (v 0)], T1 128 (v 0)]
def refOf (s : HS) : Option AV → List Nat
 | some (.ptr r 0) => r :: ssOf (cellOf s r 2)
 | _ => []
def nmR0 (st : St) (s : HS) : List Nat := refOf s (st.t.get 0)
def nmR (xs : List AV) (s : HS) : List Nat := refOf s xs.head?
def pcM : List (SB × Bool) := [tt, le (L 1) (v 0), le (v 0) (L 4096), le (L 0) (v 1), le (v 1) (L most)]
def mtT (G : Nat) (l : AV) : List (Nat × AV) := [(0, .ptr G 0), (3, l), (16, ss (G + 1) (v 0)), (17, X 0), (18, X 2)]
def shMt (G : Nat) : Nat → Shape
 | 0 => ⟨mtT G nilS, zPe G⟩
 | 1 => ⟨mtT G (ss (G + 2) (v 3)), zPe G ++ [T1 129 (v 3)]⟩
 | 2 => ⟨[(3, nilS)], zPe G⟩
 | _ => ⟨[(3, ss (G + 2) (v 3))], zPe G ++ [T1 129 (v 3)]⟩
def mtS (g G : Nat) (n now m M M' T : SE) (some_ : Bool) : zAd := ⟨g, 5, 41, shMt G, [n, now, L 0, L 0], [M, zS], nmR0, [⟨.exit 0, if some_ then 3 else 2, [n, now, n, m], [M', T]⟩], 2⟩
def mi : SE := sel 128 (v 2)
def pcMi : List (SB × Bool) := pcM ++ [nle (v 0) (v 2), le (L 0) (v 2), le (v 2) (L 4095), le (v 2) (add (v 0) (L (-1)))]
def csMtN (j : Nat) : Case := ⟨pcMi ++ [ne mi (v 1), le (L 0) (v 3), le (v 3) (L 4095)], .normal, j, [v 0, v 1, add (v 2) (L 1), v 3], [.tab 128, .tab 129], []⟩
def csMt0 (G : Nat) : Case := ⟨pcMi ++ [eq mi (v 1)], .normal, 1, [v 0, v 1, add (v 2) (L 1), L 1], [.upd (.tab 128) (v 2) 0 (L 0), oneE (v 2)], [G, G + 1, G + 3]⟩
def csMt1 (G : Nat) : Case := ⟨pcMi ++ [eq mi (v 1), le (L 0) (v 3), le (v 3) (L 4095)], .normal, 1, [v 0, v 1, add (v 2) (L 1), add (v 3) (L 1)], [.upd (.tab 128) (v 2) 0 (L 0), .cat (.tab 129) (v 3) (oneE (v 2))], [G, G + 1, G + 4]⟩
def csMtE (j : Nat) : Case := ⟨pcM ++ [le (v 0) (v 2)], .exit 0, j, [], [], []⟩
def shMtF (G : Nat) : Nat → Shape
 | 0 => ⟨zGt 0 [.ptr G 0], zPe G⟩
 | 1 => ⟨[(0, nilS)], zPe G⟩
 | _ => ⟨[(0, ss (G + 2) (v 2))], zPe G ++ [T1 129 (v 2)]⟩
def mtickS (g G : Nat) (n now now' m M M' T : SE) (some_ : Bool) : zAj := ⟨g, 1, shMtF G, [n, now, m], [M, T], nmR, [⟨.ret, if some_ then 2 else 1, [n, now', m], [M', T]⟩], 2⟩
def zNu (G : Nat) (some_ : Bool) : Case := ⟨pcM ++ [le (v 1) (L (most - 1)), le (L 0) (v 2), le (v 2) (L 4096)], .ret, if some_ then 2 else 1, [v 0, add (v 1) (L 1), v 2], [.tab 130, .tab 129], if some_ then [G, G + 1, G + 2] else []⟩
def shMn (G : Nat) : Nat → Shape
 | 0 => ⟨[(4, X 3), (10, ss (G + 1) (v 0)), (11, X 0), (12, X 2)], zPe G⟩
 | _ => ⟨[(4, X 3)], zPe G⟩
def mnS (g G : Nat) (n now b M : SE) : zAd := ⟨g, 4, 32, shMn G, [n, now, L 0, L 0], [M], nmR0, [⟨.exit 0, 1, [n, now, n, b], [M]⟩], 2⟩
def pcMb : List (SB × Bool) := pcMi ++ [le (L 0) (v 3), le (v 3) (L most)]
def csMn (k : Nat) : Case := ⟨pcMb ++ (match k with
 | 0 => [le mi (L 0)]
 | 1 => [nle mi (L 0), eq (v 3) (L 0)]
 | 2 => [nle mi (L 0), ne (v 3) (L 0), nle (v 3) mi]
 | _ => [nle mi (L 0), ne (v 3) (L 0), le (v 3) mi]), .normal, 0, [v 0, v 1, add (v 2) (L 1), if k = 1 ∨ k = 2 then mi else v 3], [.tab 128], []⟩
def csMnE : Case := ⟨pcM ++ [le (v 0) (v 2)], .exit 0, 1, [], [], []⟩
def shMnF (G : Nat) (has : Bool) : Nat → Shape
 | 0 => ⟨zGt 0 [.ptr G 0], zPe G⟩
 | _ => ⟨[(0, .tup [bif has then X 2 else I 0, .val (.bool has)])], zPe G⟩
def mnextS (g G : Nat) (n now b M : SE) (has : Bool) : zAj := ⟨g, 1, shMnF G has, [n, now, b], [M], nmR, [⟨.ret, 1, [n, now, b], [M]⟩], 2⟩
def csMnF (has : Bool) : Case := ⟨pcM ++ [bif has then nle (v 2) (L 0) else eq (v 2) (L 0)], .ret, 1, [v 0, v 1, v 2], [.tab 128], []⟩
def shIs (G : Nat) : Nat → Shape
 | 0 => ⟨[(0, ss G (v 0)), (1, ss (G + 1) (v 0)), (12, X 0), (13, X 1)], [T1r 128 (v 0), T1r 128 (v 0)]⟩
 | _ => ⟨[], [T1r 128 (v 0), T1r 128 (v 0)]⟩
def nmIs (st : St) (_ : HS) : List Nat := ssOf (st.t.get 0) ++ ssOf (st.t.get 1)
def isS (g G : Nat) (n T : SE) : zAd := ⟨g, 5, 26, shIs G, [n, L 0], [T], nmIs, [⟨.exit 0, 1, [n, n], [T]⟩], 2⟩
def pcIs : List (SB × Bool) := [tt, le (L 0) (v 0), le (v 0) (L 4096), le (L 0) (v 1)]
def csIs : Case := ⟨pcIs ++ [nle (v 0) (v 1), le (v 1) (L 4095), le (v 1) (add (v 0) (L (-1)))], .normal, 0, [v 0, add (v 1) (L 1)], [.tab 128], []⟩
def csIsE : Case := ⟨pcIs ++ [le (v 0) (v 1)], .exit 0, 1, [], [], []⟩
def shIsF (G : Nat) : Nat → Shape
 | 0 => ⟨zGt 0 [ss G (v 0), ss (G + 1) (v 0)], [T1r 128 (v 0), T1r 128 (v 0)]⟩
 | _ => ⟨[(0, yes)], [T1r 128 (v 0), T1r 128 (v 0)]⟩
def nmIsF (xs : List AV) (_ : HS) : List Nat := match xs with
 | [a, b] => ssOf (some a) ++ ssOf (some b)
 | _ => []
def intsS (g G : Nat) (n T : SE) : zAj := ⟨g, 2, shIsF G, [n], [T], nmIsF, [⟨.ret, 1, [n], [T]⟩], 2⟩
def csIsF : Case := ⟨[tt, le (L 0) (v 0), le (v 0) (L 4096)], .ret, 1, [v 0], [.tab 128], []⟩
def shIsN : Nat → Shape
 | 0 => ⟨zGt 0 [nilS, nilS], []⟩
 | _ => ⟨[(0, yes)], []⟩
def intsN (g : Nat) : zAj := ⟨g, 2, shIsN, [], [], fun _ _ => [], [⟨.ret, 1, [], []⟩], 0⟩
def csIsN : Case := ⟨[tt], .ret, 1, [], [], []⟩
def maT (G : Nat) (l : AV) : List (Nat × AV) := [(0, .ptr G 0), (3, l), (10, ss (G + 1) (v 0)), (11, X 0), (12, X 2)]
def shMa (G : Nat) : Nat → Shape
 | 0 => ⟨maT G nilS, zPe G⟩
 | 1 => ⟨maT G (ss (G + 2) (v 3)), zPe G ++ [T1 129 (v 3)]⟩
 | 2 => ⟨[(3, nilS)], zPe G⟩
 | _ => ⟨[(3, ss (G + 2) (v 3))], zPe G ++ [T1 129 (v 3)]⟩
def shMu (G : Nat) : Nat → Shape
 | 0 => ⟨maT G (ss (G + 2) (v 3)) ++ [(4, X 4), (5, X 5), (6, X 6)], zPe G ++ [T1 129 (v 3)]⟩
 | _ => ⟨maT G (ss (G + 2) (v 3)) ++ [(4, X 4), (6, X 6)], zPe G ++ [T1 129 (v 3)]⟩
def nmMu (st : St) (s : HS) : List Nat := refOf s (st.t.get 0) ++ ssOf (st.t.get 3)
def muS (g G : Nat) (n now i m id at_ k k' M T T' : SE) : zAd := ⟨g, 9, 58, shMu G, [n, now, i, m, id, at_, k], [M, T], nmMu, [⟨.exit 2, 1, [n, now, i, m, id, at_, k'], [M, T']⟩], 3⟩
def zOm : SE := sel 129 (add (v 6) (L (-1)))
def pcMu : List (SB × Bool) := pcM ++ [le (L 0) (v 6), le (v 6) (L 4095), le (v 6) (add (v 3) (L (-1))), le (L 1) (v 3), le (v 3) (L 4096)]
def pcMuB : List (SB × Bool) := [le (L 1) (v 6), le (L 0) zOm, le zOm n1]
def csMu : Case := ⟨pcMu ++ pcMuB ++ [nle (sel 128 zOm) (v 5)], .normal, 0, [v 0, v 1, v 2, v 3, v 4, v 5, add (v 6) (L (-1))], [.tab 128, .upd (.tab 129) (v 6) 0 zOm], []⟩
def csMuE : Case := ⟨pcMu ++ pcMuB ++ [le (sel 128 zOm) (v 5)], .exit 2, 1, [], [], []⟩
def csMuZ : Case := ⟨pcMu ++ [eq (v 6) (L 0)], .exit 2, 1, [], [], []⟩
def maS (g G : Nat) (n now m M T : SE) (some_ : Bool) : zAd := ⟨g, 4, 58, shMa G, [n, now, L 0, L 0], [M, zS], nmR0, [⟨.exit 0, if some_ then 3 else 2, [n, now, n, m], [M, T]⟩], 2⟩
def csMaN (j : Nat) : Case := ⟨pcMi ++ [eq mi (L 0), le (L 0) (v 3), le (v 3) (L 4095)], .normal, j, [v 0, v 1, add (v 2) (L 1), v 3], [.tab 128, .tab 129], []⟩
def csMa0 (G : Nat) : Case := ⟨pcMi ++ [ne mi (L 0)], .normal, 1, [v 0, v 1, add (v 2) (L 1), L 1], [.tab 128, .upd (.tab 131) (L 0) 0 (v 2)], [G, G + 1, G + 3]⟩
def csMa1 (G : Nat) : Case := ⟨pcMi ++ [ne mi (L 0), le (L 1) (v 3), le (v 3) (L 4095), le (L 0) (v 7), le (v 7) (v 3)], .normal, 1, [v 0, v 1, add (v 2) (L 1), add (v 3) (L 1)], [.tab 128, .upd (.tab 131) (v 7) 0 (v 2)], [G, G + 1, G + 4]⟩
def csMaE (j : Nat) : Case := ⟨pcM ++ [le (v 0) (v 2)], .exit 0, j, [], [], []⟩
def shMaF (G : Nat) : Nat → Shape
 | 0 => ⟨zGt 0 [.ptr G 0], zPe G⟩
 | 1 => ⟨[(0, nilS)], zPe G⟩
 | _ => ⟨[(0, ss (G + 2) (v 2))], zPe G ++ [T1 129 (v 2)]⟩
def mallS (g G : Nat) (n now m M T : SE) (some_ : Bool) : zAj := ⟨g, 1, shMaF G, [n, now, m], [M, T], nmR, [⟨.ret, if some_ then 2 else 1, [n, now, m], [M, T]⟩], 2⟩
def csMaF (G : Nat) (some_ : Bool) : Case := ⟨pcM ++ [le (L 0) (v 2), le (v 2) (L 4096)], .ret, if some_ then 2 else 1, [v 0, v 1, v 2], [.tab 128, .tab 129], if some_ then [G, G + 1, G + 2] else []⟩
end Go.Proofs.Wheels
namespace Go.Proofs.Wheels
open Go.Abs
def zDq (M : TT) (t : Int) : Nat → List Int
 | 0 => []
 | i + 1 => if g0 M i = t then zDq M t i ++ [(i : Int)] else zDq M t i
def zHn (M : TT) (t : Int) : Nat → TT
 | 0 => M
 | i + 1 => if g0 M i = t then up (zHn M t i) i 0 else zHn M t i
theorem dueT_ge {M : TT} {t : Int} : ∀ {i : Nat} {k : Int}, (i : Int) ≤ k → g0 (zHn M t i) k = g0 M k := by
 intro i
 induction i with
 | zero => intro k _; rfl
 | succ i ih =>
  intro k hk
  unfold zHn
  split
  ·rw [zCy (by omega) (by omega)]; exact ih (by omega)
  ·exact ih (by omega)
theorem dueT_at {M : TT} {t : Int} : ∀ {i : Nat} {k : Int}, 0 ≤ k → g0 (zHn M t i) k = if k < i ∧ g0 M k = t then 0 else g0 M k := by
 intro i
 induction i with
 | zero => intro k hk; rw [if_neg (by omega)]; rfl
 | succ i ih =>
  intro k hk
  unfold zHn
  by_cases e : k = i
  ·subst e
   by_cases h : g0 M (i : Int) = t
   ·rw [if_pos h, zBp hk, if_pos ⟨by omega, h⟩]
   ·rw [if_neg h, ih hk, if_neg (fun h' => h h'.2), if_neg (fun h' => h h'.2)]
  ·have hi : (k < i ∧ g0 M k = t) ↔ (k < ((i + 1 : Nat) : Int) ∧ g0 M k = t) := ⟨fun h => ⟨by omega, h.2⟩, fun h => ⟨by omega, h.2⟩⟩
   split
   ·rw [zCy hk e, ih hk]
    simp only [hi]
   ·rw [ih hk]
    simp only [hi]
theorem dueT_col {M : TT} {t : Int} : ∀ {i r c : Nat}, c ≠ 0 → zHn M t i r c = M r c := by
 intro i
 induction i with
 | zero => intro r c _; rfl
 | succ i ih =>
  intro r c hc
  unfold zHn
  split
  ·unfold up; rw [if_neg (fun h => hc h.2)]; exact ih hc
  ·exact ih hc
theorem zMy {M : TT} {t : Int} : ∀ {i : Nat} {x : Int}, x ∈ zDq M t i ↔ 0 ≤ x ∧ x < i ∧ g0 M x = t := by
 intro i
 induction i with
 | zero => intro x; exact ⟨fun h => (List.not_mem_nil h).elim, fun h => by omega⟩
 | succ i ih =>
  intro x
  unfold zDq
  split
  ·rename_i h
   rw [List.mem_append, ih]
   simp only [List.mem_cons, List.not_mem_nil, or_false]
   refine ⟨fun hx => ?_, fun hx => ?_⟩
   ·rcases hx with hx | rfl
    ·exact ⟨hx.1, by omega, hx.2.2⟩
    ·exact ⟨by omega, by omega, h⟩
   ·by_cases e : x = i
    ·exact .inr e
    ·exact .inl ⟨hx.1, by omega, hx.2.2⟩
  ·rename_i h
   rw [ih]
   refine ⟨fun hx => ⟨hx.1, by omega, hx.2.2⟩, fun hx => ⟨hx.1, ?_, hx.2.2⟩⟩
   by_cases e : x = i
   ·subst e; exact absurd hx.2.2 h
   ·omega
theorem zKp {M : TT} {t : Int} : ∀ {i : Nat}, (zDq M t i).length ≤ i := by
 intro i
 induction i with
 | zero => exact Nat.le_refl _
 | succ i ih =>
  unfold zDq
  split
  ·rw [List.length_append]
   show (zDq M t i).length + 1 ≤ i + 1
   omega
  ·omega
def zAk (M : TT) : Nat → Int
 | 0 => 0
 | i + 1 => if 0 < g0 M i ∧ (zAk M i = 0 ∨ g0 M i < zAk M i) then g0 M i else zAk M i
def insK (M : TT) (l : List Int) (a : Int) : Nat → Nat
 | 0 => 0
 | k + 1 => if a < g0 M ((l[k]?).getD 0) then insK M l a k else k + 1
def insAt (l : List Int) (k : Nat) (x : Int) : List Int := l.take k ++ x :: l.drop k
def allM (M : TT) : Nat → List Int
 | 0 => []
 | i + 1 => if g0 M i = 0 then allM M i else insAt (allM M i) (insK M (allM M i) (g0 M i) (allM M i).length) i
theorem insK_le {M : TT} {l : List Int} {a : Int} : ∀ {k : Nat}, insK M l a k ≤ k := by
 intro k
 induction k with
 | zero => exact Nat.le_refl _
 | succ k ih =>
  unfold insK
  split
  ·omega
  ·exact Nat.le_refl _
theorem insAt_len {l : List Int} {k : Nat} {x : Int} (h : k ≤ l.length) : (insAt l k x).length = l.length + 1 := by
 unfold insAt
 simp
 omega
theorem insAt_mem {l : List Int} {k : Nat} {x y : Int} : y ∈ insAt l k x ↔ y = x ∨ y ∈ l := by
 unfold insAt
 rw [List.mem_append, List.mem_cons]
 have : y ∈ l ↔ y ∈ l.take k ∨ y ∈ l.drop k := by
  rw [← List.mem_append, List.take_append_drop]
 rw [this]
 exact ⟨fun h => by rcases h with h | h | h <;> simp [h], fun h => by rcases h with h | h | h <;> simp [h]⟩
theorem zFj {M : TT} : ∀ {i : Nat} {x : Int}, x ∈ allM M i ↔ 0 ≤ x ∧ x < i ∧ g0 M x ≠ 0 := by
 intro i
 induction i with
 | zero => intro x; exact ⟨fun h => (List.not_mem_nil h).elim, fun h => by omega⟩
 | succ i ih =>
  intro x
  unfold allM
  split
  ·rename_i h
   rw [ih]
   refine ⟨fun hx => ⟨hx.1, by omega, hx.2.2⟩, fun hx => ⟨hx.1, ?_, hx.2.2⟩⟩
   by_cases e : x = i
   ·subst e; exact absurd h hx.2.2
   ·omega
  ·rename_i h
   rw [insAt_mem, ih]
   refine ⟨fun hx => ?_, fun hx => ?_⟩
   ·rcases hx with rfl | hx
    ·exact ⟨by omega, by omega, h⟩
    ·exact ⟨hx.1, by omega, hx.2.2⟩
   ·by_cases e : x = i
    ·exact .inl e
    ·exact .inr ⟨hx.1, by omega, hx.2.2⟩
theorem zKs {M : TT} : ∀ {i : Nat}, (allM M i).length ≤ i := by
 intro i
 induction i with
 | zero => exact Nat.le_refl _
 | succ i ih =>
  unfold allM
  split
  ·omega
  ·rw [insAt_len insK_le]; omega
def zOj (l : List Int) (x : Int) (k : Nat) : TT := fun r c => if c = 0 then (if r < k then (l[r]?).getD 0 else if r = k then (if k = l.length then x else (l[k]?).getD 0) else (l[r - 1]?).getD 0) else 0
theorem gapT_first {l : List Int} {x : Int} : zAf (zAp (l ++ [x])) (zOj l x l.length) := fun r c _ => by
 unfold zAp zOj
 split
 ·by_cases h : r < l.length
  ·rw [if_pos h, List.getElem?_append_left h]
  ·rw [if_neg h, List.getElem?_append_right (by omega)]
   by_cases e : r = l.length
   ·subst e
    rw [if_pos rfl, if_pos rfl, Nat.sub_self]; rfl
   ·rw [if_neg e, List.getElem?_eq_none (by simp; omega), List.getElem?_eq_none (by omega)]
 ·rfl
theorem gapT_down {l : List Int} {x : Int} {k : Nat} (h : k + 1 ≤ l.length) : zAf (up (zOj l x (k + 1)) ((k : Int) + 1) (g0 (zOj l x (k + 1)) k)) (zOj l x k) := fun r c _ => by
 have e : g0 (zOj l x (k + 1)) (k : Int) = (l[k]?).getD 0 := by
  show zOj l x (k + 1) (k : Int).toNat 0 = _
  unfold zOj
  rw [if_pos rfl, Int.toNat_natCast, if_pos (by omega)]
 rw [e]
 unfold up
 by_cases hr : (r : Int) = (k : Int) + 1 ∧ c = 0
 ·rw [if_pos hr]
  unfold zOj
  rw [if_pos hr.2, if_neg (by omega), if_neg (by omega), show r - 1 = k by omega]
 ·rw [if_neg hr]
  unfold zOj
  by_cases hc : c = 0
  ·rw [if_pos hc, if_pos hc]
   by_cases h1 : r < k
   ·rw [if_pos (by omega), if_pos h1]
   ·by_cases h2 : r = k
    ·subst h2
     rw [if_pos (by omega), if_neg (by omega), if_pos rfl, if_neg (by omega)]
    ·rw [if_neg (by omega), if_neg (by omega), if_neg h1, if_neg h2]
  ·rw [if_neg hc, if_neg hc]
theorem gapT_last {l : List Int} {x : Int} {k : Nat} (h : k ≤ l.length) : zAf (up (zOj l x k) k x) (zAp (insAt l k x)) := fun r c _ => by
 unfold up zAp insAt
 have tl : (l.take k).length = k := by rw [List.length_take]; omega
 by_cases hr : (r : Int) = (k : Int) ∧ c = 0
 ·have : r = k := by omega
  subst this
  rw [if_pos hr, if_pos hr.2, List.getElem?_append_right (by omega), tl, Nat.sub_self]
  rfl
 ·rw [if_neg hr]
  unfold zOj
  by_cases hc : c = 0
  ·rw [if_pos hc, if_pos hc]
   by_cases h1 : r < k
   ·rw [if_pos h1, List.getElem?_append_left (by omega), List.getElem?_take, if_pos h1]
   ·rw [if_neg h1, if_neg (by omega), List.getElem?_append_right (by omega), tl]
    obtain ⟨d, hd⟩ : ∃ d, r = k + 1 + d := ⟨r - (k + 1), by omega⟩
    subst hd
    rw [show k + 1 + d - k = d + 1 by omega, List.getElem?_cons_succ, List.getElem?_drop, show k + 1 + d - 1 = k + d by omega]
  ·rw [if_neg hc, if_neg hc]
theorem cat_one {env : Nat → Int} {a : Nat} {m x : SE} {l : List Int} {X : Int} (hT : zAf (zAv env (.tab a)) (zAp l)) (hm : m.eval env = l.length) (hx : x.eval env = X) : zAf (zAv env (.cat (.tab a) m (oneE x))) (zAp (l ++ [X])) := fun r c hc => by
 show (if (r : Int) < m.eval env then zFl env a r c else (if (r : Int) - m.eval env = 0 ∧ c = 0 then x.eval env else 0)) = _
 have hT : zFl env a r c = zAp l r c := hT r c hc
 rw [hm, hx, hT, zKo]
theorem one_one {env : Nat → Int} {x : SE} {X : Int} (hx : x.eval env = X) : zAf (zAv env (oneE x)) (zAp [X]) := fun r c hc => by
 show (if (r : Int) = 0 ∧ c = 0 then x.eval env else 0) = _
 rw [hx]
 unfold zAp
 by_cases h : c = 0
 ·rw [if_pos h]
  by_cases hr : r = 0
  ·subst hr; rw [if_pos ⟨rfl, h⟩]; rfl
  ·rw [if_neg (by omega), List.getElem?_eq_none (by simp; omega)]; rfl
 ·rw [if_neg h, if_neg (fun g => h g.2)]
end Go.Proofs.Wheels
namespace Go.Proofs.YtaliacnncemneaaGreat.wheels
open Go.Abs Go.Proofs.Wheels
set_option maxRecDepth 1000000
theorem isMt : ((Tryz.prog.funcs[zCx]?).bind (·.body)).map (fun c => zBn 5 (subs c)) = some [zDw zCx 5] := by kernel_rfl
theorem fxMt : zAm (shMt PG) 2 [false, false] := fun i => by rcases i with _ | _ | _ | i <;> exact ⟨Nat.le_of_ble_eq_true rfl, rfl, rfl⟩
theorem goodMt (b : Bool) : zBj PG (shMt PG (if b then 3 else 2)) = true := by cases b <;> kernel_rfl
theorem upsMt : ∀ i, (shMt PG i).ups 4 2 = true := fun i => by rcases i with _ | _ | _ | i <;> kernel_rfl
theorem run_mtN0 : zFm zCx 5 41 (shMt PG) 2 0 (csMtN 0) [] = true := by kernel_rfl
theorem run_mtN1 : zFm zCx 5 41 (shMt PG) 2 1 (csMtN 1) [] = true := by kernel_rfl
theorem run_mt0 : zFm zCx 5 41 (shMt PG) 2 0 (csMt0 PG) [] = true := by kernel_rfl
theorem run_mt1 : zFm zCx 5 41 (shMt PG) 2 1 (csMt1 PG) [] = true := by kernel_rfl
theorem run_mtE0 : zFm zCx 5 41 (shMt PG) 2 0 (csMtE 2) [] = true := by kernel_rfl
theorem run_mtE1 : zFm zCx 5 41 (shMt PG) 2 1 (csMtE 3) [] = true := by kernel_rfl
theorem fxMtF : zAm (shMtF PG) 2 [false, false] := fun i => by rcases i with _ | _ | i <;> exact ⟨Nat.le_of_ble_eq_true rfl, rfl, rfl⟩
theorem goodMtF (b : Bool) : zBj PG (shMtF PG (if b then 2 else 1)) = true := by cases b <;> kernel_rfl
theorem upsMtF : ∀ i, (shMtF PG i).ups 3 2 = true := fun i => by rcases i with _ | _ | i <;> kernel_rfl
theorem run_mtF (b : Bool) : ((zHk (zNu PG b).pc [mtS zCx PG (v 0) (add (v 1) (L 1)) (v 2) (.tab 128) (.tab 130) (.tab 129) b] []) (.f zCx) [.ptr PG 0] ((shMtF PG 0).heap PG [])).every NN (@Case.chkF ⟨(zNu PG b).pc⟩ PG 2 (shMtF PG (zNu PG b).to) (zNu PG b)) = true := by cases b <;> kernel_rfl
theorem isMn : ((Tryz.prog.funcs[zCa]?).bind (·.body)).map (fun c => zBn 4 (subs c)) = some [zDw zCa 4] := by kernel_rfl
theorem fxMn : zAm (shMn PG) 2 [false, false] := fun i => by rcases i with _ | i <;> exact ⟨Nat.le_refl _, rfl, rfl⟩
theorem goodMn : zBj PG (shMn PG 1) = true := by kernel_rfl
theorem upsMn : ∀ i, (shMn PG i).ups 4 1 = true := fun i => by rcases i with _ | i <;> kernel_rfl
theorem run_mn0 : zFm zCa 4 32 (shMn PG) 2 0 (csMn 0) [] = true := by kernel_rfl
theorem run_mn1 : zFm zCa 4 32 (shMn PG) 2 0 (csMn 1) [] = true := by kernel_rfl
theorem run_mn2 : zFm zCa 4 32 (shMn PG) 2 0 (csMn 2) [] = true := by kernel_rfl
theorem run_mn3 : zFm zCa 4 32 (shMn PG) 2 0 (csMn 3) [] = true := by kernel_rfl
theorem run_mnE : zFm zCa 4 32 (shMn PG) 2 0 csMnE [] = true := by kernel_rfl
theorem fxMnF (b : Bool) : zAm (shMnF PG b) 2 [false, false] := fun i => by rcases i with _ | i <;> exact ⟨Nat.le_refl _, rfl, rfl⟩
theorem goodMnF (b : Bool) : zBj PG (shMnF PG b 1) = true := by cases b <;> kernel_rfl
theorem upsMnF (b : Bool) : ∀ i, (shMnF PG b i).ups 3 1 = true := fun i => by cases b <;> rcases i with _ | i <;> kernel_rfl
theorem run_mnF (b : Bool) : ((zHk (csMnF b).pc [mnS zCa PG (v 0) (v 1) (v 2) (.tab 128)] []) (.f zCa) [.ptr PG 0] ((shMnF PG b 0).heap PG [])).every NN (@Case.chkF ⟨(csMnF b).pc⟩ PG 2 (shMnF PG b (csMnF b).to) (csMnF b)) = true := by cases b <;> kernel_rfl
theorem isIs : ((Tryz.prog.funcs[zDf]?).bind (·.body)).map (fun c => zBn 5 (subs c)) = some [zDw zDf 5] := by kernel_rfl
theorem fxIs : zAm (shIs PG) 2 [true, true] := fun i => by rcases i with _ | i <;> exact ⟨Nat.le_refl _, rfl, rfl⟩
theorem goodIs : zBj PG (shIs PG 1) = true := by kernel_rfl
theorem upsIs : ∀ i, (shIs PG i).ups 2 1 = true := fun i => by rcases i with _ | i <;> kernel_rfl
theorem run_is : zFm zDf 5 26 (shIs PG) 2 0 csIs [] = true := by kernel_rfl
theorem run_isE : zFm zDf 5 26 (shIs PG) 2 0 csIsE [] = true := by kernel_rfl
theorem fxIsF : zAm (shIsF PG) 2 [true, true] := fun i => by rcases i with _ | i <;> exact ⟨Nat.le_refl _, rfl, rfl⟩
theorem goodIsF : zBj PG (shIsF PG 1) = true := by kernel_rfl
theorem upsIsF : ∀ i, (shIsF PG i).ups 1 1 = true := fun i => by rcases i with _ | i <;> kernel_rfl
theorem run_isF : ((zHk csIsF.pc [isS zDf PG (v 0) (.tab 128)] []) (.f zDf) [ss PG (v 0), ss (PG + 1) (v 0)] ((shIsF PG 0).heap PG [])).every NN (@Case.chkF ⟨csIsF.pc⟩ PG 2 (shIsF PG csIsF.to) csIsF) = true := by kernel_rfl
theorem fxIsN : zAm shIsN 0 [] := fun i => by rcases i with _ | i <;> exact ⟨Nat.le_refl _, rfl, rfl⟩
theorem goodIsN : zBj PG (shIsN 1) = true := by kernel_rfl
theorem upsIsN : ∀ i, (shIsN i).ups 0 0 = true := fun i => by rcases i with _ | i <;> kernel_rfl
theorem run_isN : ((zHk csIsN.pc [] []) (.f zDf) [nilS, nilS] ((shIsN 0).heap PG [])).every NN (@Case.chkF ⟨csIsN.pc⟩ PG 0 (shIsN csIsN.to) csIsN) = true := by kernel_rfl
theorem zAt {x : Int} (h1 : -1000000000 ≤ x) (h2 : x ≤ 1000000000) : In64 x := by unfold In64; omega
structure Ref (N : Nat) (t : Int) (M : TT) : Prop where
 n : 1 ≤ N ∧ N ≤ 4096
 t : 0 ≤ t ∧ t ≤ most
 mid : zDc M
theorem dueT_mid {M : TT} {t : Int} (h : zDc M) : ∀ {i : Nat}, zDc (zHn M t i) := by
 intro i
 induction i with
 | zero => exact h
 | succ i ih =>
  unfold zHn
  split
  ·exact ih.up (zAt (by omega) (by omega))
  ·exact ih
theorem zMx {M : TT} {t : Int} {i : Nat} (h : i ≤ 4096) : zDc (zAp (zDq M t i)) := zBb fun x hx => by
 have := zMy.1 hx
 exact zAt (by omega) (by omega)
def scMt (M : TT) (N : Nat) (t : Int) (i : Nat) : List Int := [(N : Int), t, (i : Int), (zDq M t i).length]
def tbMt (M : TT) (t : Int) (i : Nat) : List TT := [zHn M t i, zAp (zDq M t i)]
theorem zMi {sc : List Int} {tb : List TT} {N : Nat} {t : Int} {M : TT} (h : Ref N t M) (h0 : sc[0]? = some (N : Int)) (h1 : sc[1]? = some t) : zCj (Says (zBw sc tb)) pcM := by
 have e0 : (v 0).eval (zBw sc tb) = N := zCi h0 (by decide)
 have e1 : (v 1).eval (zBw sc tb) = t := zCi h1 (by decide)
 have := h.n
 have := h.t
 refine ⟨zCz rfl, zAi ?_, zAi ?_, zAi ?_, zAi ?_, trivial⟩
 ·rw [e0]; show (1 : Int) ≤ _; omega
 ·rw [e0]; show _ ≤ (4096 : Int); omega
 ·rw [e1]; show (0 : Int) ≤ _; omega
 ·rw [e1]; show _ ≤ most; omega
theorem pcMi_ok {sc : List Int} {tb : List TT} {N : Nat} {t : Int} {M : TT} {i : Nat} (h : Ref N t M) (h0 : sc[0]? = some (N : Int)) (h1 : sc[1]? = some t) (h2 : sc[2]? = some (i : Int)) (hi : i < N) : zCj (Says (zBw sc tb)) pcMi := by
 have e0 : (v 0).eval (zBw sc tb) = N := zCi h0 (by decide)
 have e2 : (v 2).eval (zBw sc tb) = i := zCi h2 (by decide)
 have := h.n
 refine .app (zMi h h0 h1) ⟨zBt ?_, zAi ?_, zAi ?_, zAi ?_, trivial⟩
 ·rw [e0, e2]; omega
 ·rw [e2]; show (0 : Int) ≤ _; omega
 ·rw [e2]; show _ ≤ (4095 : Int); omega
 ·rw [e2]; show _ ≤ (v 0).eval _ + (-1); rw [e0]; omega
section
variable [F : Facts] [V : zAc] {N : Nat} {t : Int} {M : TT} {n now m Me Me' T : SE}
omit F V in
theorem mt_mid (h : Ref N t M) {i : Nat} (hi : i ≤ N) : zCj In64 (scMt M N t i) ∧ zCj zDc (tbMt M t i) := by
 have hn := h.n
 have ht := h.t
 have hl := zKp (M := M) (t := t) (i := i)
 unfold most at ht
 exact ⟨⟨zAt (by omega) (by omega), zAt (by omega) (by omega), zAt (by omega) (by omega), zAt (by omega) (by omega), trivial⟩, dueT_mid h.mid, zMx (by omega), trivial⟩
theorem mt_proof (h : Ref N t M) (hn : n.eval V.env = N) (hnow : now.eval V.env = t) (hM : zAf (zAv V.env Me) M) (hm : m.eval V.env = (zDq M t N).length) (hM' : zAf (zAv V.env Me') (zHn M t N)) (hT : zAf (zAv V.env T) (zAp (zDq M t N))) {b : Bool} (hb : b = true ↔ zDq M t N ≠ []) :
  zAq Tryz.prog [] (mtS zCx PG n now m Me Me' T b) := by
 have hN := h.n
 refine zLz (key := 5) (mtS zCx PG n now m Me Me' T b) isMt fxMt (o := ⟨.exit 0, if b then 3 else 2, [n, now, n, m], [Me', T]⟩) rfl (goodMt b) (scMt M N t) (tbMt M t) 4 2 (by decide) (by decide) upsMt rfl rfl rfl rfl
  (I := fun μ j i => j = (if zDq M t i = [] then 0 else 1) ∧ i ≤ N ∧ μ = N - i) (Post := fun i => i = N) (fun B μ j i hI => ?_) N 0 ⟨rfl, Nat.zero_le _, rfl⟩ (mt_mid h (Nat.zero_le _)).1 (mt_mid h (Nat.zero_le _)).2 ⟨hn, hnow, rfl, rfl, trivial⟩ ⟨hM, by rw [show zDq M t 0 = [] from rfl, zJw]; exact zDs _, trivial⟩ (fun i hp => ?_)
 ·obtain ⟨rfl, hi, rfl⟩ := hI
  have e0 : (v 0).eval (zBw (scMt M N t i) (tbMt M t i)) = N := zCi rfl (by decide)
  have e1 : (v 1).eval (zBw (scMt M N t i) (tbMt M t i)) = t := zCi rfl (by decide)
  have e2 : (v 2).eval (zBw (scMt M N t i) (tbMt M t i)) = i := zCi rfl (by decide)
  have e3 : (v 3).eval (zBw (scMt M N t i) (tbMt M t i)) = (zDq M t i).length := zCi rfl (by decide)
  have t0 : zAf (zAv (zBw (scMt M N t i) (tbMt M t i)) (.tab 128)) (zHn M t i) := zFz rfl (by decide) (by decide)
  have t1 : zAf (zAv (zBw (scMt M N t i) (tbMt M t i)) (.tab 129)) (zAp (zDq M t i)) := zFz rfl (by decide) (by decide)
  have em : mi.eval (zBw (scMt M N t i) (tbMt M t i)) = g0 M i := (ev_sel (T := zHn M t i) rfl (by decide) (by decide) e2).trans (dueT_ge (by omega))
  have hl := zKp (M := M) (t := t) (i := i)
  by_cases hlt : i < N
  ·have base := pcMi_ok (tb := tbMt M t i) (sc := scMt M N t i) h rfl rfl rfl hlt
   have mid := mt_mid h (i := i + 1) (by omega)
   have ei : (add (v 2) (L 1)).eval (zBw (scMt M N t i) (tbMt M t i)) = ((i + 1 : Nat) : Int) := by
    show (v 2).eval _ + 1 = _
    rw [e2]; omega
   by_cases hd : g0 M i = t
   ·have el : zDq M t (i + 1) = zDq M t i ++ [(i : Int)] := if_pos hd
    have eT : zHn M t (i + 1) = up (zHn M t i) i 0 := if_pos hd
    have hne : zDq M t (i + 1) ≠ [] := by rw [el]; simp
    have hlen : (zDq M t (i + 1)).length = (zDq M t i).length + 1 := by rw [el]; simp
    by_cases hz : zDq M t i = []
    ·have run := run_mt0
     have hz0 : (zDq M t i).length = 0 := by rw [hz]; rfl
     rw [if_pos hz]
     refine ⟨csMt0 PG, i + 1, noLoops, zCb (csMt0 PG).pc [], zDi B _ _ _ (fun V hV S hS => by cases hS), ?_, ?_, mid.1, mid.2, .inr ⟨rfl, rfl, ⟨e0, e1, ei, ?_, trivial⟩, ?_, ?_, trivial⟩, .inl ⟨rfl, N - (i + 1), by omega, ?_, by omega, rfl⟩⟩
     ·exact run
     ·exact zCw (.app base ⟨zCz (by rw [em, e1]; exact hd), trivial⟩)
     ·show (1 : Int) = ((zDq M t (i + 1)).length : Nat)
      rw [hlen, hz0]; rfl
     ·rw [eT]; exact zDt t0 e2 rfl
     ·rw [el, hz]; exact one_one e2
     ·rw [if_neg hne]; rfl
    ·have run := run_mt1
     rw [if_neg hz]
     refine ⟨csMt1 PG, i + 1, noLoops, zCb (csMt1 PG).pc [], zDi B _ _ _ (fun V hV S hS => by cases hS), ?_, ?_, mid.1, mid.2, .inr ⟨rfl, rfl, ⟨e0, e1, ei, ?_, trivial⟩, ?_, ?_, trivial⟩, .inl ⟨rfl, N - (i + 1), by omega, ?_, by omega, rfl⟩⟩
     ·exact run
     ·refine zCw (.app base ⟨zCz (by rw [em, e1]; exact hd), zAi ?_, zAi ?_, trivial⟩)
      ·rw [e3]; show (0 : Int) ≤ _; omega
      ·rw [e3]; show _ ≤ (4095 : Int); omega
     ·show (v 3).eval _ + 1 = ((zDq M t (i + 1)).length : Nat)
      rw [e3, hlen]; omega
     ·rw [eT]; exact zDt t0 e2 rfl
     ·rw [el]; exact cat_one t1 e3 e2
     ·rw [if_neg hne]; rfl
   ·have el : zDq M t (i + 1) = zDq M t i := if_neg hd
    have eT : zHn M t (i + 1) = zHn M t i := if_neg hd
    have pc : ∀ j, Fx (zBw (scMt M N t i) (tbMt M t i)) (csMtN j).pc := fun j => by
     refine zCw (.app base ⟨says_ne (by rw [em, e1]; exact hd), zAi ?_, zAi ?_, trivial⟩)
     ·rw [e3]; show (0 : Int) ≤ _; omega
     ·rw [e3]; show _ ≤ (4095 : Int); omega
    have run : ∀ (j : Nat), j = 0 ∨ j = 1 → zFm zCx 5 41 (shMt PG) 2 j (csMtN j) [] = true := fun j hj => by
     rcases hj with rfl | rfl
     ·exact run_mtN0
     ·exact run_mtN1
    obtain ⟨j, hj⟩ : ∃ j, j = if zDq M t i = [] then 0 else 1 := ⟨_, rfl⟩
    rw [← hj]
    refine ⟨csMtN j, i + 1, noLoops, zCb (csMtN j).pc [], zDi B _ _ _ (fun V hV S hS => by cases hS), run j (by rw [hj]; split <;> simp), pc j, mid.1, mid.2, .inr ⟨rfl, rfl, ⟨e0, e1, ei, ?_, trivial⟩, ?_, ?_, trivial⟩, .inl ⟨rfl, N - (i + 1), by omega, ?_, by omega, rfl⟩⟩
    ·rw [el]; exact e3
    ·rw [eT]; exact t0
    ·rw [el]; exact t1
    ·rw [el]; exact hj
  ·have hiN : i = N := by omega
   subst hiN
   have pc : ∀ j, Fx (zBw (scMt M i t i) (tbMt M t i)) (csMtE j).pc := fun j => by
    refine zCw (.app (zMi h rfl rfl) ⟨zAi ?_, trivial⟩)
    rw [e0, e2]; omega
   have run : ∀ (j : Nat), j = 0 ∨ j = 1 → zFm zCx 5 41 (shMt PG) 2 j (csMtE (j + 2)) [] = true := fun j hj => by
    rcases hj with rfl | rfl
    ·exact run_mtE0
    ·exact run_mtE1
   obtain ⟨j, hj⟩ : ∃ j, j = if zDq M t i = [] then 0 else 1 := ⟨_, rfl⟩
   rw [← hj]
   refine ⟨csMtE (j + 2), i, noLoops, zCb (csMtE (j + 2)).pc [], zDi B _ _ _ (fun V hV S hS => by cases hS), run j (by rw [hj]; split <;> simp), pc _, (mt_mid h hi).1, (mt_mid h hi).2, .inl ⟨rfl, rfl, rfl⟩, .inr ⟨by simp [csMtE], rfl, ?_, rfl⟩⟩
   show j + 2 = if b then 3 else 2
   rw [hj]
   by_cases hz : zDq M t i = []
   ·have : b = false := by
     cases b with
     | false => rfl
     | true => exact absurd hz (hb.1 rfl)
    rw [if_pos hz, this]; rfl
   ·rw [if_neg hz, hb.2 hz]; rfl
 ·subst hp
  exact ⟨⟨hn, hnow, hn, hm, trivial⟩, hM', hT, trivial⟩
theorem mtick_proof {now' : SE} (h : Ref N t M) (ht : t + 1 ≤ most) (hn : n.eval V.env = N) (hnow : now.eval V.env = t) (hnow' : now'.eval V.env = t + 1) (hM : zAf (zAv V.env Me) M) (hm : m.eval V.env = (zDq M (t + 1) N).length) (hM' : zAf (zAv V.env Me') (zHn M (t + 1) N)) (hT : zAf (zAv V.env T) (zAp (zDq M (t + 1) N))) {b : Bool} (hb : b = true ↔ zDq M (t + 1) N ≠ []) :
  zAl Tryz.prog [] (mtickS zCx PG n now now' m Me Me' T b) := by
 have hN := h.n
 have h0 := h.t
 have h1 : Ref N (t + 1) M := ⟨h.n, by omega, h.mid⟩
 have hl := zKp (M := M) (t := t + 1) (i := N)
 have m0 : zCj In64 [(N : Int), t, ((zDq M (t + 1) N).length : Int)] := by
  unfold most at ht h0
  exact ⟨zAt (by omega) (by omega), zAt (by omega) (by omega), zAt (by omega) (by omega), trivial⟩
 have m1 : zCj In64 [(N : Int), t + 1, ((zDq M (t + 1) N).length : Int)] := by
  unfold most at ht h0
  exact ⟨zAt (by omega) (by omega), zAt (by omega) (by omega), zAt (by omega) (by omega), trivial⟩
 have q0 : zCj zDc [M, zAp (zDq M (t + 1) N), zHn M (t + 1) N] := ⟨h.mid, zMx (by omega), dueT_mid h.mid, trivial⟩
 have q1 : zCj zDc [zHn M (t + 1) N, zAp (zDq M (t + 1) N)] := ⟨dueT_mid h.mid, zMx (by omega), trivial⟩
 obtain ⟨E, hE⟩ : ∃ E, E = zBw ([(N : Int), t, ((zDq M (t + 1) N).length : Int)] ++ []) ([M, zAp (zDq M (t + 1) N)] ++ [zHn M (t + 1) N]) := ⟨_, rfl⟩
 have e0 : (v 0).eval E = N := by rw [hE]; exact zCi rfl (by decide)
 have e1 : (v 1).eval E = t := by rw [hE]; exact zCi rfl (by decide)
 have e2 : (v 2).eval E = (zDq M (t + 1) N).length := by rw [hE]; exact zCi rfl (by decide)
 have t0 : zAf (zAv E (.tab 128)) M := by rw [hE]; exact zFz rfl (by decide) (by decide)
 have t1 : zAf (zAv E (.tab 129)) (zAp (zDq M (t + 1) N)) := by rw [hE]; exact zFz rfl (by decide) (by decide)
 have t2 : zAf (zAv E (.tab 130)) (zHn M (t + 1) N) := by rw [hE]; exact zFz rfl (by decide) (by decide)
 have run := run_mtF b
 refine zHj (mtickS zCx PG n now now' m Me Me' T b) fxMtF (av := [.ptr PG 0]) (o := ⟨.ret, if b then 2 else 1, [n, now', m], [Me', T]⟩) rfl rfl (goodMtF b) rfl rfl 3 2 (by decide) (by decide) upsMtF rfl rfl rfl rfl (zNu PG b) rfl (zHk (zNu PG b).pc [mtS zCx PG (v 0) (add (v 1) (L 1)) (v 2) (.tab 128) (.tab 130) (.tab 129) b] []) hE
  (fun B V' hV' => zHw B V' (fun S hS => ?_) (fun S hS => by cases hS)) ?_ (zCw (.app (by rw [hE]; exact zMi h rfl rfl) ⟨zAi ?_, zAi ?_, zAi ?_, trivial⟩)) m0 q0 m1 q1 rfl rfl ⟨e0, ?_, e2, trivial⟩ ⟨t2, t1, trivial⟩ ⟨hn, hnow, hm, trivial⟩ ⟨hM, hT, trivial⟩ ⟨hn, hnow', hm, trivial⟩ ⟨hM', hT, trivial⟩
 ·simp only [List.mem_cons, List.not_mem_nil, or_false] at hS
  subst hS
  refine @mt_proof ⟨_⟩ V' N (t + 1) M (v 0) (add (v 1) (L 1)) (v 2) (.tab 128) (.tab 130) (.tab 129) h1 ?_ ?_ ?_ ?_ ?_ ?_ b hb
  all_goals rw [hV']
  ·exact e0
  ·show (v 1).eval E + 1 = _; rw [e1]
  ·exact t0
  ·exact e2
  ·exact t2
  ·exact t1
 ·exact run
 ·rw [e1]; show _ ≤ most - 1; omega
 ·rw [e2]; show (0 : Int) ≤ _; omega
 ·rw [e2]; show _ ≤ (4096 : Int); omega
 ·show (v 1).eval E + 1 = _; rw [e1]
end
structure RefT (N : Nat) (t : Int) (M : TT) : Prop extends Ref N t M where
 w : ∀ k : Int, 0 ≤ k → k < N → 0 ≤ g0 M k ∧ g0 M k ≤ most
theorem zLr {N : Nat} {t : Int} {M : TT} (h : RefT N t M) : ∀ {i : Nat}, i ≤ N → 0 ≤ zAk M i ∧ zAk M i ≤ most := by
 intro i
 induction i with
 | zero => intro _; exact ⟨Int.le_refl _, by show (0 : Int) ≤ 1000000000; omega⟩
 | succ i ih =>
  intro hi
  have := ih (by omega)
  have := h.w i (by omega) (by omega)
  unfold zAk
  split <;> omega
section
variable [F : Facts] [V : zAc] {N : Nat} {t : Int} {M : TT} {n now b Me : SE}
omit F V in
theorem mn_mid (h : RefT N t M) {i : Nat} (hi : i ≤ N) : zCj In64 ([(N : Int), t, (i : Int), zAk M i] ++ []) ∧ zCj zDc ([M] ++ []) := by
 have hn := h.n
 have ht := h.t
 have hb := zLr h hi
 unfold most at ht hb
 exact ⟨⟨zAt (by omega) (by omega), zAt (by omega) (by omega), zAt (by omega) (by omega), zAt (by omega) (by omega), trivial⟩, h.mid, trivial⟩
theorem mn_proof (h : RefT N t M) (hn : n.eval V.env = N) (hnow : now.eval V.env = t) (hM : zAf (zAv V.env Me) M) (hb : b.eval V.env = zAk M N) : zAq Tryz.prog [] (mnS zCa PG n now b Me) := by
 have hN := h.n
 obtain ⟨E, hE⟩ : ∃ E : Nat → Nat → Int, E = fun (i : Nat) => zBw ([(N : Int), t, (i : Int), zAk M i] ++ []) ([M] ++ []) := ⟨_, rfl⟩
 refine zGx (key := 4) (mnS zCa PG n now b Me) isMn fxMn (o := ⟨.exit 0, 1, [n, now, n, b], [Me]⟩) rfl goodMn E (fun i => [(N : Int), t, (i : Int), zAk M i]) (fun _ => []) (fun _ => [M]) (fun _ => []) (fun i => by rw [hE]) 4 1 (by decide) (by decide) upsMn rfl rfl rfl rfl
  (I := fun μ j i => j = 0 ∧ i ≤ N ∧ μ = N - i) (Post := fun i => i = N) (fun μ j i hI => mn_mid h hI.2.1) (fun B μ j i hI => ?_) N 0 ⟨rfl, Nat.zero_le _, rfl⟩ ⟨hn, hnow, rfl, rfl, trivial⟩ ⟨hM, trivial⟩ (fun i hp => ?_)
 ·obtain ⟨rfl, hi, rfl⟩ := hI
  have e0 : (v 0).eval (E i) = N := by rw [hE]; exact zCi rfl (by decide)
  have e1 : (v 1).eval (E i) = t := by rw [hE]; exact zCi rfl (by decide)
  have e2 : (v 2).eval (E i) = i := by rw [hE]; exact zCi rfl (by decide)
  have e3 : (v 3).eval (E i) = zAk M i := by rw [hE]; exact zCi rfl (by decide)
  have t0 : zAf (zAv (E i) (.tab 128)) M := by rw [hE]; exact zFz rfl (by decide) (by decide)
  have em : mi.eval (E i) = g0 M i := by
   refine (zBl _ 128 (v 2)).trans ?_
   rw [e2]
   exact t0.g _
  have hbi := zLr h hi
  by_cases hlt : i < N
  ·have base : zCj (Says (E i)) pcMb := by
    refine .app (by rw [hE]; exact pcMi_ok h.toRef rfl rfl rfl hlt) ⟨zAi ?_, zAi ?_, trivial⟩
    ·rw [e3]; exact hbi.1
    ·rw [e3]; exact hbi.2
   have ei : (add (v 2) (L 1)).eval (E i) = ((i + 1 : Nat) : Int) := by
    show (v 2).eval _ + 1 = _
    rw [e2]; omega
   have hw := h.w i (by omega) (by omega)
   have eb : zAk M (i + 1) = if 0 < g0 M i ∧ (zAk M i = 0 ∨ g0 M i < zAk M i) then g0 M i else zAk M i := rfl
   have go : ∀ k : Nat, zFm zCa 4 32 (shMn PG) 2 0 (csMn k) [] = true → Fx (E i) (csMn k).pc → (if k = 1 ∨ k = 2 then mi else v 3).eval (E i) = zAk M (i + 1) →
     ∃ (c : Case) (s' : Nat) (Lo : zDd) (call : Tgt → List AV → Go.Abs.M AV), Rnd Tryz.prog B c.pc (E i) Lo call ∧ ((@code ⟨c.pc⟩ Tryz.prog Lo call none (mnS zCa PG n now b Me).fn fuel (zDw (mnS zCa PG n now b Me).fn 4) ⟨tmps ((mnS zCa PG n now b Me).shapes 0).t, (mnS zCa PG n now b Me).nt, [.rest]⟩ (((mnS zCa PG n now b Me).shapes 0).heap PG [])).every NN (@Case.chk ⟨c.pc⟩ PG (mnS zCa PG n now b Me).nt (mnS zCa PG n now b Me).stay ((mnS zCa PG n now b Me).shapes c.to) c)) = true ∧
   Fx (E i) c.pc ∧ ((c.f = [] ∧ c.g = [] ∧ s' = i) ∨ (c.f.length = 4 ∧ c.g.length = 1 ∧ Ev (E i) c.f [(N : Int), t, (s' : Int), zAk M s'] ∧ Rw (E i) c.g [M])) ∧ ((c.e = .normal ∧ ∃ ν, ν < N - i ∧ (c.to = 0 ∧ s' ≤ N ∧ ν = N - s')) ∨ (c.e ≠ .normal ∧ c.e = .exit 0 ∧ c.to = 1 ∧ s' = N ∧ zCj In64 ([(N : Int), t, (s' : Int), zAk M s'] ++ []) ∧ zCj zDc ([M] ++ []))) := fun k run pc hk =>
    ⟨csMn k, i + 1, noLoops, zCb (csMn k).pc [], zDi B _ _ _ (fun V hV S hS => by cases hS), run, pc, .inr ⟨rfl, rfl, ⟨e0, e1, ei, hk, trivial⟩, ⟨t0, trivial⟩⟩, .inl ⟨rfl, N - (i + 1), by omega, rfl, by omega, rfl⟩⟩
   by_cases h1 : 0 < g0 M i
   ·by_cases h2 : zAk M i = 0
    ·refine go 1 run_mn1 (zCw (.app base ⟨zBt ?_, zCz ?_, trivial⟩)) ?_
     ·rw [em]; exact h1
     ·rw [e3]; exact h2
     ·rw [if_pos (by simp), em, eb, if_pos ⟨h1, .inl h2⟩]
    ·by_cases h3 : g0 M i < zAk M i
     ·refine go 2 run_mn2 (zCw (.app base ⟨zBt ?_, says_ne ?_, zBt ?_, trivial⟩)) ?_
      ·rw [em]; exact h1
      ·rw [e3]; exact h2
      ·rw [e3, em]; exact h3
      ·rw [if_pos (by simp), em, eb, if_pos ⟨h1, .inr h3⟩]
     ·refine go 3 run_mn3 (zCw (.app base ⟨zBt ?_, says_ne ?_, zAi ?_, trivial⟩)) ?_
      ·rw [em]; exact h1
      ·rw [e3]; exact h2
      ·rw [e3, em]; omega
      ·rw [if_neg (by simp), e3, eb, if_neg (fun g => by omega)]
   ·refine go 0 run_mn0 (zCw (.app base ⟨zAi ?_, trivial⟩)) ?_
    ·rw [em]; show _ ≤ (0 : Int); omega
    ·rw [if_neg (by simp), e3, eb, if_neg (fun g => h1 g.1)]
  ·have hiN : i = N := by omega
   have run := run_mnE
   refine ⟨csMnE, i, noLoops, zCb csMnE.pc [], zDi B _ _ _ (fun V hV S hS => by cases hS), ?_, ?_, .inl ⟨rfl, rfl, rfl⟩, .inr ⟨by simp [csMnE], rfl, rfl, hiN, mn_mid h hi⟩⟩
   ·exact run
   ·refine zCw (.app (by rw [hE]; exact zMi h.toRef rfl rfl) ⟨zAi ?_, trivial⟩)
    rw [e0, e2]; omega
 ·subst hp
  exact ⟨⟨hn, hnow, hn, hb, trivial⟩, hM, trivial⟩
theorem mnext_proof (h : RefT N t M) (hn : n.eval V.env = N) (hnow : now.eval V.env = t) (hM : zAf (zAv V.env Me) M) (hb : b.eval V.env = zAk M N) {has : Bool} (hh : has = true ↔ 0 < zAk M N) : zAl Tryz.prog [] (mnextS zCa PG n now b Me has) := by
 have hN := h.n
 have ht := h.t
 have hbi := zLr h (Nat.le_refl N)
 have m0 : zCj In64 [(N : Int), t, zAk M N] := by
  unfold most at ht hbi
  exact ⟨zAt (by omega) (by omega), zAt (by omega) (by omega), zAt (by omega) (by omega), trivial⟩
 obtain ⟨E, hE⟩ : ∃ E, E = zBw ([(N : Int), t, zAk M N] ++ []) ([M] ++ []) := ⟨_, rfl⟩
 have e0 : (v 0).eval E = N := by rw [hE]; exact zCi rfl (by decide)
 have e1 : (v 1).eval E = t := by rw [hE]; exact zCi rfl (by decide)
 have e2 : (v 2).eval E = zAk M N := by rw [hE]; exact zCi rfl (by decide)
 have t0 : zAf (zAv E (.tab 128)) M := by rw [hE]; exact zFz rfl (by decide) (by decide)
 have run := run_mnF has
 refine zHj (mnextS zCa PG n now b Me has) (fxMnF has) (av := [.ptr PG 0]) (o := ⟨.ret, 1, [n, now, b], [Me]⟩) rfl rfl (goodMnF has) rfl rfl 3 1 (by decide) (by decide) (upsMnF has) rfl rfl rfl rfl (csMnF has) rfl (zHk (csMnF has).pc [mnS zCa PG (v 0) (v 1) (v 2) (.tab 128)] []) (sc0 := [(N : Int), t, zAk M N]) (scx := []) (sc1 := [(N : Int), t, zAk M N]) (tb0 := [M]) (tbx := []) (tb1 := [M]) hE
  (fun B V' hV' => zHw B V' (fun S hS => ?_) (fun S hS => by cases hS)) ?_ (zCw (.app (by rw [hE]; exact zMi h.toRef rfl rfl) ?_)) m0 ⟨h.mid, trivial⟩ m0 ⟨h.mid, trivial⟩ rfl rfl ⟨e0, e1, e2, trivial⟩ ⟨t0, trivial⟩ ⟨hn, hnow, hb, trivial⟩ ⟨hM, trivial⟩ ⟨hn, hnow, hb, trivial⟩ ⟨hM, trivial⟩
 ·simp only [List.mem_cons, List.not_mem_nil, or_false] at hS
  subst hS
  refine @mn_proof ⟨_⟩ V' N t M (v 0) (v 1) (v 2) (.tab 128) h ?_ ?_ ?_ ?_
  all_goals rw [hV']
  ·exact e0
  ·exact e1
  ·exact t0
  ·exact e2
 ·exact run
 ·cases has with
  | false =>
   refine ⟨zCz ?_, trivial⟩
   rw [e2]
   have : ¬ 0 < zAk M N := fun g => by cases hh.2 g
   show _ = (0 : Int); omega
  | true =>
   refine ⟨zBt ?_, trivial⟩
   rw [e2]; exact hh.1 rfl
theorem intsN_proof : zAl Tryz.prog [] (intsN zDf) := by
 obtain ⟨E, hE⟩ : ∃ E, E = zBw ([] ++ []) ([] ++ []) := ⟨_, rfl⟩
 have run := run_isN
 refine zHj (intsN zDf) fxIsN (av := [nilS, nilS]) (o := ⟨.ret, 1, [], []⟩) rfl rfl goodIsN rfl rfl 0 0 (by decide) (by decide) upsIsN rfl rfl rfl rfl csIsN rfl (zHk csIsN.pc [] []) (sc0 := []) (scx := []) (sc1 := []) (tb0 := []) (tbx := []) (tb1 := []) hE
  (fun B V' hV' => zHw B V' (fun S hS => by cases hS) (fun S hS => by cases hS)) ?_ (zCw ⟨zCz rfl, trivial⟩) trivial trivial trivial trivial rfl rfl trivial trivial trivial trivial trivial trivial
 exact run
end
set_option maxRecDepth 1000000
theorem isMu : ((Tryz.prog.funcs[zGd]?).bind (·.body)).map (fun c => zBn 9 (subs c)) = some [zDw zGd 9] := by kernel_rfl
theorem fxMu : zAm (shMu PG) 3 [false, false, false] := fun i => by rcases i with _ | i <;> exact ⟨Nat.le_of_ble_eq_true rfl, rfl, rfl⟩
theorem goodMu : zBj PG (shMu PG 1) = true := by kernel_rfl
theorem upsMu : ∀ i, (shMu PG i).ups 7 2 = true := fun i => by rcases i with _ | i <;> kernel_rfl
theorem run_mu : zFm zGd 9 58 (shMu PG) 3 0 csMu [] = true := by kernel_rfl
theorem run_muE : zFm zGd 9 58 (shMu PG) 3 0 csMuE [] = true := by kernel_rfl
theorem run_muZ : zFm zGd 9 58 (shMu PG) 3 0 csMuZ [] = true := by kernel_rfl
theorem isMa : ((Tryz.prog.funcs[zGd]?).bind (·.body)).map (fun c => zBn 4 (subs c)) = some [zDw zGd 4] := by kernel_rfl
theorem fxMa : zAm (shMa PG) 2 [false, false] := fun i => by rcases i with _ | _ | _ | i <;> exact ⟨Nat.le_of_ble_eq_true rfl, rfl, rfl⟩
theorem goodMa (b : Bool) : zBj PG (shMa PG (if b then 3 else 2)) = true := by cases b <;> kernel_rfl
theorem upsMa : ∀ i, (shMa PG i).ups 4 2 = true := fun i => by rcases i with _ | _ | _ | i <;> kernel_rfl
noncomputable def mu0 : zAd := muS zGd PG (v 0) (v 1) (v 2) (L 1) (v 2) mi (L 0) (L 0) (.tab 128) (oneE (v 2)) (.tab 131)
noncomputable def mu1 : zAd := muS zGd PG (v 0) (v 1) (v 2) (add (v 3) (L 1)) (v 2) mi (v 3) (v 7) (.tab 128) (.cat (.tab 129) (v 3) (oneE (v 2))) (.tab 131)
noncomputable def runL (fn key nt : Nat) (shapes : Nat → Shape) (stay i : Nat) (c : Case) (ls : List zAd) (fs : List zAj) : Bool :=
 (@code ⟨c.pc⟩ Tryz.prog (@manyLoops ⟨c.pc⟩ PG [] ls) (zHk c.pc ls fs) none fn fuel (zDw fn key) ⟨tmps (shapes i).t, nt, [.rest]⟩ ((shapes i).heap PG [])).every NN (@Case.chk ⟨c.pc⟩ PG nt stay (shapes c.to) c)
theorem manyRnd (B : Nat) (pc : List (SB × Bool)) (env : Nat → Int) (ls : List zAd) (fs : List zAj) (hl : ∀ V : @zAc ⟨pc⟩, V.env = env → ∀ S ∈ ls, @zAq ⟨pc⟩ V Tryz.prog [] S) (h : ∀ V : @zAc ⟨pc⟩, V.env = env → ∀ S ∈ fs, @zAl ⟨pc⟩ V Tryz.prog [] S) :
  Rnd Tryz.prog B pc env (@manyLoops ⟨pc⟩ PG [] ls) (zHk pc ls fs) :=
 ⟨fun V hV => letI : Facts := ⟨pc⟩; letI := V; zDo (hl V hV), fun V hV => letI : Facts := ⟨pc⟩; letI := V; zEu (hl V hV) B, fun V hV => zHw B V (hl V hV) (h V hV)⟩
theorem run_maN0 : zFm zGd 4 58 (shMa PG) 2 0 (csMaN 0) [] = true := by kernel_rfl
theorem run_maN1 : zFm zGd 4 58 (shMa PG) 2 1 (csMaN 1) [] = true := by kernel_rfl
theorem run_ma0 : runL zGd 4 58 (shMa PG) 2 0 (csMa0 PG) [mu0] [] = true := by kernel_rfl
theorem run_ma1 : runL zGd 4 58 (shMa PG) 2 1 (csMa1 PG) [mu1] [] = true := by kernel_rfl
theorem run_maE0 : zFm zGd 4 58 (shMa PG) 2 0 (csMaE 2) [] = true := by kernel_rfl
theorem run_maE1 : zFm zGd 4 58 (shMa PG) 2 1 (csMaE 3) [] = true := by kernel_rfl
theorem fxMaF : zAm (shMaF PG) 2 [false, false] := fun i => by rcases i with _ | _ | i <;> exact ⟨Nat.le_of_ble_eq_true rfl, rfl, rfl⟩
theorem goodMaF (b : Bool) : zBj PG (shMaF PG (if b then 2 else 1)) = true := by cases b <;> kernel_rfl
theorem upsMaF : ∀ i, (shMaF PG i).ups 3 2 = true := fun i => by rcases i with _ | _ | i <;> kernel_rfl
theorem run_maF (b : Bool) : ((zHk (csMaF PG b).pc [maS zGd PG (v 0) (v 1) (v 2) (.tab 128) (.tab 129) b] []) (.f zGd) [.ptr PG 0] ((shMaF PG 0).heap PG [])).every NN (@Case.chkF ⟨(csMaF PG b).pc⟩ PG 2 (shMaF PG (csMaF PG b).to) (csMaF PG b)) = true := by cases b <;> kernel_rfl
theorem gap_mid {l : List Int} {x : Int} {k : Nat} (hl : ∀ y ∈ l, In64 y) (hx : In64 x) : zDc (zOj l x k) := fun r c _ => by
 have z : In64 0 := zAt (by omega) (by omega)
 have one : ∀ i : Nat, In64 ((l[i]?).getD 0) := fun i => by
  cases e : l[i]? with
  | none => exact z
  | some y => exact hl y (List.mem_of_getElem? e)
 unfold zOj
 split
 ·split
  ·exact one _
  ·split
   ·split
    ·exact hx
    ·exact one _
   ·exact one _
 ·exact z
section
variable [F : Facts] [V : zAc] {N : Nat} {t : Int} {M : TT} {n now Me : SE}
theorem mu_proof (h : RefT N t M) {l : List Int} {x a ii : Int} {i m id at_ k k' T T' : SE} (hl : ∀ y ∈ l, 0 ≤ y ∧ y < N) (hlen : l.length + 1 ≤ 4096) (hx : 0 ≤ x ∧ x < N) (ha : 0 ≤ a ∧ a ≤ most) (hii : 0 ≤ ii ∧ ii ≤ 4096) (hn : n.eval V.env = N) (hnow : now.eval V.env = t) (hi : i.eval V.env = ii) (hm : m.eval V.env = (l.length : Int) + 1) (hid : id.eval V.env = x) (hat : at_.eval V.env = a)
  (hk : k.eval V.env = l.length) (hk' : k'.eval V.env = insK M l a l.length) (hM : zAf (zAv V.env Me) M) (hT : zAf (zAv V.env T) (zAp (l ++ [x]))) (hT' : zAf (zAv V.env T') (zOj l x (insK M l a l.length))) : zAq Tryz.prog [] (muS zGd PG n now i m id at_ k k' Me T T') := by
 have hN := h.n
 have ht := h.t
 unfold most at ht ha
 obtain ⟨E, hE⟩ : ∃ E : Nat → Nat → Int, E = fun (k : Nat) => zBw ([(N : Int), t, ii, (l.length : Int) + 1, x, a, (k : Int)] ++ []) ([M, zOj l x k] ++ []) := ⟨_, rfl⟩
 have mid : ∀ k, k ≤ l.length → zCj In64 ([(N : Int), t, ii, (l.length : Int) + 1, x, a, (k : Int)] ++ []) ∧ zCj zDc ([M, zOj l x k] ++ []) := fun k hk =>
  ⟨⟨zAt (by omega) (by omega), zAt (by omega) (by omega), zAt (by omega) (by omega), zAt (by omega) (by omega), zAt (by omega) (by omega), zAt (by omega) (by omega), zAt (by omega) (by omega), trivial⟩, h.mid, gap_mid (fun y hy => by
   have := hl y hy
   exact zAt (by omega) (by omega)) (zAt (by omega) (by omega)), trivial⟩
 refine zGx (key := 9) (muS zGd PG n now i m id at_ k k' Me T T') isMu fxMu (o := ⟨.exit 2, 1, [n, now, i, m, id, at_, k'], [Me, T']⟩) rfl goodMu E (fun (k : Nat) => [(N : Int), t, ii, (l.length : Int) + 1, x, a, (k : Int)]) (fun _ => []) (fun k => [M, zOj l x k]) (fun _ => []) (fun i => by rw [hE]) 7 2 (by decide) (by decide) upsMu rfl rfl rfl rfl
  (I := fun μ j k => j = 0 ∧ k ≤ l.length ∧ insK M l a k = insK M l a l.length ∧ k = μ) (Post := fun k => k = insK M l a l.length) (fun μ j k hI => mid k hI.2.1) (fun B μ j kk hI => ?_) l.length l.length ⟨rfl, Nat.le_refl _, rfl, rfl⟩ ⟨hn, hnow, hi, hm, hid, hat, hk, trivial⟩ ⟨hM, hT.trans gapT_first, trivial⟩ (fun k hp => ?_)
 ·obtain ⟨rfl, hkl, hins, rfl⟩ := hI
  have e0 : (v 0).eval (E kk) = N := by rw [hE]; exact zCi rfl (by decide)
  have e1 : (v 1).eval (E kk) = t := by rw [hE]; exact zCi rfl (by decide)
  have e2 : (v 2).eval (E kk) = ii := by rw [hE]; exact zCi rfl (by decide)
  have e3 : (v 3).eval (E kk) = (l.length : Int) + 1 := by rw [hE]; exact zCi rfl (by decide)
  have e4 : (v 4).eval (E kk) = x := by rw [hE]; exact zCi rfl (by decide)
  have e5 : (v 5).eval (E kk) = a := by rw [hE]; exact zCi rfl (by decide)
  have e6 : (v 6).eval (E kk) = kk := by rw [hE]; exact zCi rfl (by decide)
  have t0 : zAf (zAv (E kk) (.tab 128)) M := by rw [hE]; exact zFz rfl (by decide) (by decide)
  have t1 : zAf (zAv (E kk) (.tab 129)) (zOj l x kk) := by rw [hE]; exact zFz rfl (by decide) (by decide)
  have base : zCj (Says (E kk)) pcMu := by
   refine .app (by rw [hE]; exact zMi h.toRef rfl rfl) ⟨zAi ?_, zAi ?_, zAi ?_, zAi ?_, zAi ?_, trivial⟩
   ·rw [e6]; show (0 : Int) ≤ _; omega
   ·rw [e6]; show _ ≤ (4095 : Int); omega
   ·rw [e6]; show _ ≤ (v 3).eval _ + (-1); rw [e3]; omega
   ·rw [e3]; show (1 : Int) ≤ _; omega
   ·rw [e3]; show _ ≤ (4096 : Int); omega
  cases kk with
  | zero =>
   have run := run_muZ
   refine ⟨csMuZ, 0, noLoops, zCb csMuZ.pc [], zDi B _ _ _ (fun V hV S hS => by cases hS), ?_, zCw (.app base ⟨zCz e6, trivial⟩), .inl ⟨rfl, rfl, rfl⟩, .inr ⟨by simp [csMuZ], rfl, rfl, hins, mid 0 hkl⟩⟩
   exact run
  | succ j =>
   have hget : (l[j]?).getD 0 = l[j] := by rw [List.getElem?_eq_getElem (by omega)]; rfl
   have hin := hl l[j] (List.getElem_mem (by omega))
   have ej : (add (v 6) (L (-1))).eval (E (j + 1)) = (j : Int) := by
    show (v 6).eval _ + (-1) = _
    rw [e6]; omega
   have eb : zOm.eval (E (j + 1)) = l[j] := by
    refine (zBl _ 129 (add (v 6) (L (-1)))).trans ?_
    rw [ej, show g0 (zFl (E (j + 1)) 129) (j : Int) = _ from t1.g _]
    show zOj l x (j + 1) (j : Int).toNat 0 = _
    unfold zOj
    rw [if_pos rfl, Int.toNat_natCast, if_pos (by omega), hget]
   have ew : (sel 128 zOm).eval (E (j + 1)) = g0 M l[j] := by
    refine (zBl _ 128 zOm).trans ?_
    rw [eb]
    exact t0.g _
   have base2 : zCj (Says (E (j + 1))) (pcMu ++ pcMuB) := by
    refine .app base ⟨zAi ?_, zAi ?_, zAi ?_, trivial⟩
    ·rw [e6]; show (1 : Int) ≤ _; omega
    ·rw [eb]; exact hin.1
    ·rw [eb]; show _ ≤ (v 0).eval _ + (-1); rw [e0]; omega
   have hstep : insK M l a (j + 1) = if a < g0 M l[j] then insK M l a j else j + 1 := by
    show (if a < g0 M ((l[j]?).getD 0) then insK M l a j else j + 1) = _
    rw [hget]
   by_cases hgt : a < g0 M l[j]
   ·rw [if_pos hgt] at hstep
    have run := run_mu
    refine ⟨csMu, j, noLoops, zCb csMu.pc [], zDi B _ _ _ (fun V hV S hS => by cases hS), ?_, zCw (.app base2 ⟨zBt ?_, trivial⟩), .inr ⟨rfl, rfl, ⟨e0, e1, e2, e3, e4, e5, ej, trivial⟩, ⟨t0, ?_, trivial⟩⟩, .inl ⟨rfl, j, by omega, rfl, by omega, by rw [← hstep]; exact hins, rfl⟩⟩
    ·exact run
    ·rw [ew, e5]; exact hgt
    ·refine zAf.trans (zDt t1 e6 eb) ?_
     have hg : g0 (zOj l x (j + 1)) (j : Int) = l[j] := by
      show zOj l x (j + 1) (j : Int).toNat 0 = _
      unfold zOj
      rw [if_pos rfl, Int.toNat_natCast, if_pos (by omega), hget]
     have hd := gapT_down (x := x) (show j + 1 ≤ l.length from hkl)
     rw [hg] at hd
     have e : ((j + 1 : Nat) : Int) = (j : Int) + 1 := by omega
     rw [e]; exact hd
   ·rw [if_neg hgt] at hstep
    have run := run_muE
    refine ⟨csMuE, j + 1, noLoops, zCb csMuE.pc [], zDi B _ _ _ (fun V hV S hS => by cases hS), ?_, zCw (.app base2 ⟨zAi ?_, trivial⟩), .inl ⟨rfl, rfl, rfl⟩, .inr ⟨by simp [csMuE], rfl, rfl, by rw [← hins, hstep], mid _ hkl⟩⟩
    ·exact run
    ·rw [ew, e5]; omega
 ·subst hp
  exact ⟨⟨hn, hnow, hi, hm, hid, hat, hk', trivial⟩, hM, hT', trivial⟩
omit F V in
theorem all_in {i : Nat} (hi : i ≤ N) : ∀ y ∈ allM M i, 0 ≤ y ∧ y < N := fun y hy => by
 have := zFj.1 hy
 omega
def atK (M : TT) (i : Nat) : Nat := insK M (allM M i) (g0 M i) (allM M i).length
def scMa (M : TT) (N : Nat) (t : Int) (i : Nat) : List Int := [(N : Int), t, (i : Int), ((allM M i).length : Int)]
def scxMa (M : TT) (i : Nat) : List Int := [0, 0, 0, (atK M i : Int)]
def tbMa (M : TT) (i : Nat) : List TT := [M, zAp (allM M i)]
def tbxMa (M : TT) (i : Nat) : List TT := [zBo, zOj (allM M i) i (atK M i)]
omit F V in
theorem ma_mid (h : RefT N t M) {i : Nat} (hi : i ≤ N) : zCj In64 (scMa M N t i ++ scxMa M i) ∧ zCj zDc (tbMa M i ++ tbxMa M i) := by
 have hn := h.n
 have ht := h.t
 unfold most at ht
 have hl := zKs (M := M) (i := i)
 have hk : atK M i ≤ (allM M i).length := insK_le
 have hx : ∀ y ∈ allM M i, In64 y := fun y hy => by
  have := all_in hi y hy
  exact zAt (by omega) (by omega)
 exact ⟨⟨zAt (by omega) (by omega), zAt (by omega) (by omega), zAt (by omega) (by omega), zAt (by omega) (by omega), zAt (by omega) (by omega), zAt (by omega) (by omega), zAt (by omega) (by omega), zAt (by omega) (by omega), trivial⟩,
  h.mid, zBb hx, zBe, gap_mid hx (zAt (by omega) (by omega)), trivial⟩
theorem ma_proof (h : RefT N t M) {m T : SE} (hn : n.eval V.env = N) (hnow : now.eval V.env = t) (hM : zAf (zAv V.env Me) M) (hm : m.eval V.env = (allM M N).length) (hT : zAf (zAv V.env T) (zAp (allM M N))) {b : Bool} (hb : b = true ↔ allM M N ≠ []) :
  zAq Tryz.prog [] (maS zGd PG n now m Me T b) := by
 have hN := h.n
 obtain ⟨E, hE⟩ : ∃ E : Nat → Nat → Int, E = fun (i : Nat) => zBw (scMa M N t i ++ scxMa M i) (tbMa M i ++ tbxMa M i) := ⟨_, rfl⟩
 refine zGx (key := 4) (maS zGd PG n now m Me T b) isMa fxMa (o := ⟨.exit 0, if b then 3 else 2, [n, now, n, m], [Me, T]⟩) rfl (goodMa b) E (scMa M N t) (scxMa M) (tbMa M) (tbxMa M) (fun i => by rw [hE]) 4 2 (by decide) (by decide) upsMa rfl rfl rfl rfl
  (I := fun μ j i => j = (if allM M i = [] then 0 else 1) ∧ i ≤ N ∧ μ = N - i) (Post := fun i => i = N) (fun μ j i hI => ma_mid h hI.2.1) (fun B μ j i hI => ?_) N 0 ⟨rfl, Nat.zero_le _, rfl⟩ ⟨hn, hnow, rfl, rfl, trivial⟩ ⟨hM, by rw [show allM M 0 = [] from rfl, zJw]; exact zDs _, trivial⟩ (fun i hp => ?_)
 ·obtain ⟨rfl, hi, rfl⟩ := hI
  have e0 : (v 0).eval (E i) = N := by rw [hE]; exact zCi rfl (by decide)
  have e1 : (v 1).eval (E i) = t := by rw [hE]; exact zCi rfl (by decide)
  have e2 : (v 2).eval (E i) = i := by rw [hE]; exact zCi rfl (by decide)
  have e3 : (v 3).eval (E i) = (allM M i).length := by rw [hE]; exact zCi rfl (by decide)
  have e7 : (v 7).eval (E i) = atK M i := by rw [hE]; exact zCi rfl (by decide)
  have t0 : zAf (zAv (E i) (.tab 128)) M := by rw [hE]; exact zFz rfl (by decide) (by decide)
  have t1 : zAf (zAv (E i) (.tab 129)) (zAp (allM M i)) := by rw [hE]; exact zFz rfl (by decide) (by decide)
  have t3 : zAf (zAv (E i) (.tab 131)) (zOj (allM M i) i (atK M i)) := by rw [hE]; exact zFz rfl (by decide) (by decide)
  have em : mi.eval (E i) = g0 M i := by
   refine (zBl _ 128 (v 2)).trans ?_
   rw [e2]
   exact t0.g _
  have hl := zKs (M := M) (i := i)
  have hk : atK M i ≤ (allM M i).length := insK_le
  by_cases hlt : i < N
  ·have base : zCj (Says (E i)) pcMi := by rw [hE]; exact pcMi_ok h.toRef rfl rfl rfl hlt
   have ei : (add (v 2) (L 1)).eval (E i) = ((i + 1 : Nat) : Int) := by
    show (v 2).eval _ + 1 = _
    rw [e2]; omega
   have hw := h.w i (by omega) (by omega)
   by_cases hd : g0 M i = 0
   ·have el : allM M (i + 1) = allM M i := if_pos hd
    have pc : ∀ j, Fx (E i) (csMaN j).pc := fun j => by
     refine zCw (.app base ⟨zCz (by rw [em]; exact hd), zAi ?_, zAi ?_, trivial⟩)
     ·rw [e3]; show (0 : Int) ≤ _; omega
     ·rw [e3]; show _ ≤ (4095 : Int); omega
    have run : ∀ (j : Nat), j = 0 ∨ j = 1 → zFm zGd 4 58 (shMa PG) 2 j (csMaN j) [] = true := fun j hj => by
     rcases hj with rfl | rfl
     ·exact run_maN0
     ·exact run_maN1
    obtain ⟨j, hj⟩ : ∃ j, j = if allM M i = [] then 0 else 1 := ⟨_, rfl⟩
    rw [← hj]
    refine ⟨csMaN j, i + 1, noLoops, zCb (csMaN j).pc [], zDi B _ _ _ (fun V hV S hS => by cases hS), run j (by rw [hj]; split <;> simp), pc j, .inr ⟨rfl, rfl, ⟨e0, e1, ei, ?_, trivial⟩, t0, ?_, trivial⟩, .inl ⟨rfl, N - (i + 1), by omega, ?_, by omega, rfl⟩⟩
    ·rw [el]; exact e3
    ·rw [el]; exact t1
    ·rw [el]; exact hj
   ·have el : allM M (i + 1) = insAt (allM M i) (atK M i) i := if_neg hd
    have hne : allM M (i + 1) ≠ [] := by rw [el]; unfold insAt; simp
    have hlen : (allM M (i + 1)).length = (allM M i).length + 1 := by rw [el]; exact insAt_len hk
    have tL : ∀ e : SE, e.eval (E i) = atK M i → zAf (zAv (E i) (.upd (.tab 131) e 0 (v 2))) (zAp (allM M (i + 1))) := fun e he => by
     rw [el]
     exact zAf.trans (zDt t3 he e2) (gapT_last hk)
    by_cases hz : allM M i = []
    ·have run := run_ma0
     have hz0 : (allM M i).length = 0 := by rw [hz]; rfl
     have hk0 : atK M i = 0 := by omega
     rw [if_pos hz]
     refine ⟨csMa0 PG, i + 1, @manyLoops ⟨(csMa0 PG).pc⟩ PG [] [mu0], zHk (csMa0 PG).pc [mu0] [], manyRnd B _ _ _ _ (fun V hV S hS => ?_) (fun V hV S hS => by cases hS), ?_, zCw (.app base ⟨says_ne (by rw [em]; exact hd), trivial⟩), .inr ⟨rfl, rfl, ⟨e0, e1, ei, ?_, trivial⟩, ⟨t0, tL (L 0) (by rw [hk0]; rfl), trivial⟩⟩, .inl ⟨rfl, N - (i + 1), by omega, ?_, by omega, rfl⟩⟩
     ·simp only [List.mem_cons, List.not_mem_nil, or_false] at hS
      subst hS
      refine @mu_proof ⟨_⟩ V N t M (v 0) (v 1) (.tab 128) h (allM M i) i (g0 M i) i (v 2) (L 1) (v 2) mi (L 0) (L 0) (oneE (v 2)) (.tab 131) (all_in hi) (by omega) (by omega) hw (by omega) ?_ ?_ ?_ ?_ ?_ ?_ ?_ ?_ ?_ ?_ ?_
      all_goals rw [hV]
      ·exact e0
      ·exact e1
      ·exact e2
      ·rw [hz0]; rfl
      ·exact e2
      ·exact em
      ·rw [hz0]; rfl
      ·show (0 : Int) = (atK M i : Int)
       rw [hk0]; rfl
      ·exact t0
      ·rw [hz]; exact one_one e2
      ·exact t3
     ·exact run
     ·show (1 : Int) = ((allM M (i + 1)).length : Nat)
      rw [hlen, hz0]; rfl
     ·rw [if_neg hne]; rfl
    ·have run := run_ma1
     have hl1 : 1 ≤ (allM M i).length := by
      cases e : allM M i with
      | nil => exact absurd e hz
      | cons a b => simp
     rw [if_neg hz]
     refine ⟨csMa1 PG, i + 1, @manyLoops ⟨(csMa1 PG).pc⟩ PG [] [mu1], zHk (csMa1 PG).pc [mu1] [], manyRnd B _ _ _ _ (fun V hV S hS => ?_) (fun V hV S hS => by cases hS), ?_, zCw (.app base ⟨says_ne (by rw [em]; exact hd), zAi ?_, zAi ?_, zAi ?_, zAi ?_, trivial⟩), .inr ⟨rfl, rfl, ⟨e0, e1, ei, ?_, trivial⟩, ⟨t0, tL (v 7) e7, trivial⟩⟩, .inl ⟨rfl, N - (i + 1), by omega, ?_, by omega, rfl⟩⟩
     ·simp only [List.mem_cons, List.not_mem_nil, or_false] at hS
      subst hS
      refine @mu_proof ⟨_⟩ V N t M (v 0) (v 1) (.tab 128) h (allM M i) i (g0 M i) i (v 2) (add (v 3) (L 1)) (v 2) mi (v 3) (v 7) (.cat (.tab 129) (v 3) (oneE (v 2))) (.tab 131) (all_in hi) (by omega) (by omega) hw (by omega) ?_ ?_ ?_ ?_ ?_ ?_ ?_ ?_ ?_ ?_ ?_
      all_goals rw [hV]
      ·exact e0
      ·exact e1
      ·exact e2
      ·show (v 3).eval _ + 1 = _
       rw [e3]
      ·exact e2
      ·exact em
      ·exact e3
      ·exact e7
      ·exact t0
      ·exact cat_one t1 e3 e2
      ·exact t3
     ·exact run
     ·rw [e3]; show (1 : Int) ≤ _; omega
     ·rw [e3]; show _ ≤ (4095 : Int); omega
     ·rw [e7]; show (0 : Int) ≤ _; omega
     ·rw [e7, e3]; omega
     ·show (v 3).eval _ + 1 = ((allM M (i + 1)).length : Nat)
      rw [e3, hlen]; omega
     ·rw [if_neg hne]; rfl
  ·have hiN : i = N := by omega
   subst hiN
   have pc : ∀ j, Fx (E i) (csMaE j).pc := fun j => by
    refine zCw (.app (by rw [hE]; exact zMi h.toRef rfl rfl) ⟨zAi ?_, trivial⟩)
    rw [e0, e2]; omega
   have run : ∀ (j : Nat), j = 0 ∨ j = 1 → zFm zGd 4 58 (shMa PG) 2 j (csMaE (j + 2)) [] = true := fun j hj => by
    rcases hj with rfl | rfl
    ·exact run_maE0
    ·exact run_maE1
   obtain ⟨j, hj⟩ : ∃ j, j = if allM M i = [] then 0 else 1 := ⟨_, rfl⟩
   rw [← hj]
   refine ⟨csMaE (j + 2), i, noLoops, zCb (csMaE (j + 2)).pc [], zDi B _ _ _ (fun V hV S hS => by cases hS), run j (by rw [hj]; split <;> simp), pc _, .inl ⟨rfl, rfl, rfl⟩, .inr ⟨by simp [csMaE], rfl, ?_, rfl, ma_mid h hi⟩⟩
   show j + 2 = if b then 3 else 2
   rw [hj]
   by_cases hz : allM M i = []
   ·have : b = false := by
     cases b with
     | false => rfl
     | true => exact absurd hz (hb.1 rfl)
    rw [if_pos hz, this]; rfl
   ·rw [if_neg hz, hb.2 hz]; rfl
 ·subst hp
  exact ⟨⟨hn, hnow, hn, hm, trivial⟩, hM, hT, trivial⟩
theorem zNr (h : RefT N t M) {m T : SE} (hn : n.eval V.env = N) (hnow : now.eval V.env = t) (hM : zAf (zAv V.env Me) M) (hm : m.eval V.env = (allM M N).length) (hT : zAf (zAv V.env T) (zAp (allM M N))) {b : Bool} (hb : b = true ↔ allM M N ≠ []) :
  zAl Tryz.prog [] (mallS zGd PG n now m Me T b) := by
 have hN := h.n
 have ht := h.t
 have hl := zKs (M := M) (i := N)
 have m0 : zCj In64 [(N : Int), t, ((allM M N).length : Int)] := by
  unfold most at ht
  exact ⟨zAt (by omega) (by omega), zAt (by omega) (by omega), zAt (by omega) (by omega), trivial⟩
 have q0 : zCj zDc [M, zAp (allM M N)] := ⟨h.mid, zBb fun y hy => by
  have := all_in (Nat.le_refl N) y hy
  exact zAt (by omega) (by omega), trivial⟩
 obtain ⟨E, hE⟩ : ∃ E, E = zBw ([(N : Int), t, ((allM M N).length : Int)] ++ []) ([M, zAp (allM M N)] ++ []) := ⟨_, rfl⟩
 have e0 : (v 0).eval E = N := by rw [hE]; exact zCi rfl (by decide)
 have e1 : (v 1).eval E = t := by rw [hE]; exact zCi rfl (by decide)
 have e2 : (v 2).eval E = (allM M N).length := by rw [hE]; exact zCi rfl (by decide)
 have t0 : zAf (zAv E (.tab 128)) M := by rw [hE]; exact zFz rfl (by decide) (by decide)
 have t1 : zAf (zAv E (.tab 129)) (zAp (allM M N)) := by rw [hE]; exact zFz rfl (by decide) (by decide)
 have run := run_maF b
 refine zHj (mallS zGd PG n now m Me T b) fxMaF (av := [.ptr PG 0]) (o := ⟨.ret, if b then 2 else 1, [n, now, m], [Me, T]⟩) rfl rfl (goodMaF b) rfl rfl 3 2 (by decide) (by decide) upsMaF rfl rfl rfl rfl (csMaF PG b) rfl (zHk (csMaF PG b).pc [maS zGd PG (v 0) (v 1) (v 2) (.tab 128) (.tab 129) b] []) (sc0 := [(N : Int), t, ((allM M N).length : Int)]) (scx := []) (sc1 := [(N : Int), t, ((allM M N).length : Int)]) (tb0 := [M, zAp (allM M N)]) (tbx := []) (tb1 := [M, zAp (allM M N)]) hE
  (fun B V' hV' => zHw B V' (fun S hS => ?_) (fun S hS => by cases hS)) ?_ (zCw (.app (by rw [hE]; exact zMi h.toRef rfl rfl) ⟨zAi ?_, zAi ?_, trivial⟩)) m0 q0 m0 q0 rfl rfl ⟨e0, e1, e2, trivial⟩ ⟨t0, t1, trivial⟩ ⟨hn, hnow, hm, trivial⟩ ⟨hM, hT, trivial⟩ ⟨hn, hnow, hm, trivial⟩ ⟨hM, hT, trivial⟩
 ·simp only [List.mem_cons, List.not_mem_nil, or_false] at hS
  subst hS
  refine @ma_proof ⟨_⟩ V' N t M (v 0) (v 1) (.tab 128) h (v 2) (.tab 129) ?_ ?_ ?_ ?_ ?_ b hb
  all_goals rw [hV']
  ·exact e0
  ·exact e1
  ·exact t0
  ·exact e2
  ·exact t1
 ·exact run
 ·rw [e2]; show (0 : Int) ≤ _; omega
 ·rw [e2]; show _ ≤ (4096 : Int); omega
end
end Go.Proofs.YtaliacnncemneaaGreat.wheels
namespace Go.Proofs.Wheels
open Go.Abs
def lenM (i : Nat) : SE := v (3 + i)
def outM (G j : Nat) : AV := if j = 0 then nilS else .sl (G + 2) 0 1 j none
def rowM (G j : Nat) : List Blk := if j = 0 then [] else [.cells (Tr.fill ((List.range j).map fun i => ss (G + 3 + i) (lenM i)) 0 .lf) j (some 1)] ++ (List.range j).map fun i => T1 (129 + i) (lenM i)
def shMs0 (G j : Nat) : Shape := ⟨[(0, .ptr G 0), (1, X 2), (5, outM G j)], zPe G ++ rowM G j⟩
def shMs (G j : Nat) : Shape := shMs0 G (min j 61)
def msS (g G j : Nat) (n now now' k k' M M' : SE) (ls ts : List SE) : zAd :=
 ⟨g, 5, 56, shMs G, [n, now, k] ++ List.replicate 61 (L 0), [M] ++ List.replicate 61 zS, nmR0, [⟨.exit 0, j, [n, now', k'] ++ ls, [M'] ++ ts⟩], 2⟩
def pcMs : List (SB × Bool) := pcM ++ inR (L 1) (v 2) (L 100000)
def dMs : SE := .sub (v 70) (v 1)
def fMsS (gN gT G : Nat) (some_ : Bool) : List zAj := [mnextS gN G (v 0) (v 1) (v 70) (.tab 128) some_] ++ (if some_ then [mtickS gT G (v 0) (add (v 70) (L (-1))) (v 70) (v 71) (.tab 128) (.tab 200) (.tab 201) true] else [])
def csMsE (j : Nat) : Case := ⟨pcM ++ [le (v 2) (L 0)], .exit 0, j, [], [], []⟩
def lens61 (j : Nat) (e : SE) : List SE := (List.range 61).map fun i => if i = j then e else lenM i
def tabs61 (j : Nat) (e : SE) : List SE := (List.range 61).map fun i => if i = j then e else .tab (129 + i)
def csMsN (j : Nat) : Case := ⟨pcMs, .exit 0, j, [v 0, add (v 1) (v 2), v 2] ++ lens61 61 (L 0), [.tab 128] ++ tabs61 61 zS, []⟩
def csMsF (j : Nat) : Case := ⟨pcMs ++ [nle dMs (v 2), le (L 1) dMs, le dMs (L most), le (L 1) (v 70), le (v 70) (L most)], .exit 0, j, [v 0, add (v 1) (v 2), v 2] ++ lens61 61 (L 0), [.tab 128] ++ tabs61 61 zS, []⟩
def nmMs (G j : Nat) : List Nat :=
 let n := if j = 0 then 2 else 3 + j
 [G, G + 1, G + (n + 2)] ++ ((List.range j).map fun i => G + (3 + i)) ++ [G + n]
def csMsT (G j : Nat) : Case := ⟨pcMs ++ [le dMs (v 2), le (L 1) dMs, le dMs (L most), le (L 1) (v 70), le (v 70) (L most), le (L 1) (v 71), le (v 71) (L 4096)], .normal, j + 1, [v 0, v 70, .sub (v 2) dMs] ++ lens61 j (v 71), [.tab 200] ++ tabs61 j (.tab 201), nmMs G j⟩
end Go.Proofs.Wheels
namespace Go.Proofs.YtaliacnncemneaaGreat.wheels
open Go.Abs Go.Proofs.Wheels
set_option maxRecDepth 1000000
noncomputable def runsMs (j : Nat) : Bool := zFm zJi 5 56 (shMs PG) 2 j (csMsE j) [] && (zFm zJi 5 56 (shMs PG) 2 j (csMsN j) (fMsS zCa zCx PG false) && (zFm zJi 5 56 (shMs PG) 2 j (csMsF j) (fMsS zCa zCx PG true) && zFm zJi 5 56 (shMs PG) 2 j (csMsT PG j) (fMsS zCa zCx PG true)))
theorem runsMs0 : (List.range 31).all runsMs = true := by kernel_rfl
theorem runsMs1 : (List.range 16).all (fun j => runsMs (31 + j)) = true := by kernel_rfl
theorem runsMs2 : (List.range 14).all (fun j => runsMs (47 + j)) = true := by kernel_rfl
theorem goodMs0 : (List.range 62).all (fun j => zBj PG (shMs PG j)) = true := by kernel_rfl
theorem upsMs0 : (List.range 62).all (fun j => (shMs PG j).ups 64 62) = true := by kernel_rfl
theorem isMs : ((Tryz.prog.funcs[zJi]?).bind (·.body)).map (fun c => zBn 5 (subs c)) = some [zDw zJi 5] := by kernel_rfl
theorem runsMs_at {j : Nat} (h : j ≤ 60) : zFm zJi 5 56 (shMs PG) 2 j (csMsE j) [] = true ∧ zFm zJi 5 56 (shMs PG) 2 j (csMsN j) (fMsS zCa zCx PG false) = true ∧ zFm zJi 5 56 (shMs PG) 2 j (csMsF j) (fMsS zCa zCx PG true) = true ∧ zFm zJi 5 56 (shMs PG) 2 j (csMsT PG j) (fMsS zCa zCx PG true) = true := by
 have part : ∀ {a n : Nat}, (List.range n).all (fun j => runsMs (a + j)) = true → a ≤ j → j < a + n → runsMs j = true := fun {a n} hr h1 h2 => by
  have := List.all_eq_true.1 hr (j - a) (List.mem_range.2 (by omega))
  rw [show a + (j - a) = j by omega] at this
  exact this
 have : runsMs j = true := by
  by_cases h0 : j < 31
  ·exact List.all_eq_true.1 runsMs0 j (List.mem_range.2 (by omega))
  by_cases h1 : j < 47
  ·exact part runsMs1 (by omega) (by omega)
  exact part runsMs2 (by omega) (by omega)
 unfold runsMs at this
 simp only [Bool.and_eq_true] at this
 exact this
theorem goodMs {j : Nat} : zBj PG (shMs PG j) = true := by
 have := List.all_eq_true.1 goodMs0 (min j 61) (List.mem_range.2 (by omega))
 have e : shMs PG j = shMs PG (min j 61) := by unfold shMs; rw [show min (min j 61) 61 = min j 61 by omega]
 rw [e]; exact this
theorem upsMs (j : Nat) : (shMs PG j).ups 64 62 = true := by
 have := List.all_eq_true.1 upsMs0 (min j 61) (List.mem_range.2 (by omega))
 have e : shMs PG j = shMs PG (min j 61) := by unfold shMs; rw [show min (min j 61) 61 = min j 61 by omega]
 rw [e]; exact this
theorem fxMs : zAm (shMs PG) 2 [false, false] := fun i => by
 refine ⟨?_, rfl, ?_⟩
 ·show 2 ≤ (zPe PG ++ rowM PG (min i 61)).length
  rw [List.length_append]
  exact Nat.le_add_right 2 _
 ·show ((rowM PG (min i 61)).all fun x => !x.fixed) = true
  unfold rowM
  split
  ·rfl
  ·rw [List.all_eq_true]
   intro x hx
   rcases List.mem_append.1 hx with hx | hx
   ·simp only [List.mem_cons, List.not_mem_nil, or_false] at hx
    subst hx; rfl
   ·obtain ⟨k, _, rfl⟩ := List.mem_map.1 hx
    rfl
end Go.Proofs.YtaliacnncemneaaGreat.wheels
namespace Go.Proofs.Wheels
open Go.Abs
structure RS where
 M : TT
 now : Int
 k : Int
 past : List (List Int)
def RS.next (N : Nat) (x : RS) : RS := ⟨zHn x.M (zAk x.M N) N, zAk x.M N, x.k - (zAk x.M N - x.now), x.past ++ [zDq x.M (zAk x.M N) N]⟩
def RS.far (x : RS) : RS := { x with now := x.now + x.k }
def rsk (N : Nat) : Nat → RS → RS
 | 0, x => x
 | f + 1, x => if x.k ≤ 0 then x else if zAk x.M N = 0 ∨ x.k < zAk x.M N - x.now then x.far else rsk N f (x.next N)
theorem best_zero {M : TT} : ∀ {i : Nat}, (∀ k : Nat, k < i → 0 ≤ g0 M k) → zAk M i = 0 → ∀ k : Nat, k < i → g0 M k = 0 := by
 intro i
 induction i with
 | zero => intro _ _ k hk; omega
 | succ i ih =>
  intro h0 hb k hk
  have hi := h0 i (by omega)
  unfold zAk at hb
  split at hb
  ·rename_i h; omega
  ·rename_i h
   have hz : g0 M i = 0 := by
    rcases Int.lt_or_le 0 (g0 M i) with g | g
    ·exact absurd ⟨g, .inl hb⟩ h
    ·omega
   by_cases e : k = i
   ·subst e; exact hz
   ·exact ih (fun k hk => h0 k (by omega)) hb k (by omega)
theorem zIs {M : TT} : ∀ {i : Nat}, (∀ k : Nat, k < i → 0 ≤ g0 M k) → 0 < zAk M i → (∃ k : Nat, k < i ∧ g0 M k = zAk M i) ∧ ∀ k : Nat, k < i → g0 M k ≠ 0 → zAk M i ≤ g0 M k := by
 intro i
 induction i with
 | zero => intro _ h; exact absurd h (by show ¬ (0 : Int) < 0; omega)
 | succ i ih =>
  intro h0 hb
  have hi := h0 i (by omega)
  have h0' : ∀ k : Nat, k < i → 0 ≤ g0 M k := fun k hk => h0 k (by omega)
  by_cases h : 0 < g0 M i ∧ (zAk M i = 0 ∨ g0 M i < zAk M i)
  ·have e : zAk M (i + 1) = g0 M i := if_pos h
   rw [e]
   refine ⟨⟨i, by omega, rfl⟩, fun k hk hne => ?_⟩
   by_cases ek : k = i
   ·subst ek; exact Int.le_refl _
   ·rcases h.2 with g | g
    ·exact absurd (best_zero h0' g k (by omega)) hne
    ·have := (ih h0' (by omega)).2 k (by omega) hne
     omega
  ·have e : zAk M (i + 1) = zAk M i := if_neg h
   rw [e] at hb ⊢
   obtain ⟨⟨k, k1, k2⟩, k3⟩ := ih h0' hb
   refine ⟨⟨k, by omega, k2⟩, fun x hx hne => ?_⟩
   by_cases ek : x = i
   ·subst ek
    rcases Int.lt_or_le (g0 M x) (zAk M x) with g | g
    ·exact absurd ⟨by omega, .inr g⟩ h
    ·exact g
   ·exact k3 x (by omega) hne
def waitM (M : TT) (N : Nat) : Int := zKy (fun t => !decide (g0 M t = 0)) N
theorem due_wait {M : TT} {t : Int} (ht : t ≠ 0) {N : Nat} : waitM (zHn M t N) N = waitM M N - (zDq M t N).length := by
 have : ∀ i : Nat, i ≤ N → zKy (fun k => !decide (g0 (zHn M t N) k = 0)) i = zKy (fun k => !decide (g0 M k = 0)) i - (zDq M t i).length := by
  intro i
  induction i with
  | zero => intro _; show (0 : Int) = 0 - 0; omega
  | succ i ih =>
   intro hi
   have u : ∀ p : Int → Bool, zKy p (i + 1) = zKy p i + b2i (p i) := fun _ => rfl
   rw [u, u, ih (by omega), dueT_at (by omega)]
   have el : zDq M t (i + 1) = if g0 M i = t then zDq M t i ++ [(i : Int)] else zDq M t i := rfl
   rw [el]
   by_cases h : g0 M i = t
   ·rw [if_pos h, if_pos ⟨by omega, h⟩, h, decide_eq_true rfl, decide_eq_false ht, List.length_append]
    show _ + 0 = _ + 1 - _
    simp
    omega
   ·rw [if_neg h, if_neg (fun g => h g.2)]
    omega
 exact this N (Nat.le_refl _)
structure RInv (N : Nat) (x : RS) : Prop where
 n : 1 ≤ N ∧ N ≤ 4096
 now0 : 0 ≤ x.now
 now : x.now + x.k ≤ 999000000 ∧ x.now ≤ 999000000
 mid : zDc x.M
 w : ∀ t : Int, 0 ≤ t → t < N → g0 x.M t = 0 ∨ (x.now < g0 x.M t ∧ g0 x.M t ≤ most)
 k : x.k ≤ 100000 ∧ -9000000000000000000 ≤ x.k
 past : ∀ l ∈ x.past, l.length ≤ 4096 ∧ ∀ t ∈ l, 0 ≤ t ∧ t < N
 room : (x.past.length : Int) + waitM x.M N ≤ 60
theorem waitM_pos {M : TT} {N : Nat} : 0 ≤ waitM M N := zNd.1
theorem RInv.pos {N : Nat} {x : RS} (h : RInv N x) : ∀ k : Nat, k < N → 0 ≤ g0 x.M k := fun k hk => by
 have := h.now0
 rcases h.w k (by omega) (by omega) with g | g
 ·omega
 ·omega
theorem RInv.best {N : Nat} {x : RS} (h : RInv N x) (hb : zAk x.M N ≠ 0) : x.now < zAk x.M N ∧ zAk x.M N ≤ most ∧ zDq x.M (zAk x.M N) N ≠ [] := by
 have hpos : 0 < zAk x.M N := by
  have : ∀ i : Nat, i ≤ N → 0 ≤ zAk x.M i := by
   intro i
   induction i with
   | zero => intro _; exact Int.le_refl _
   | succ i ih =>
    intro hi
    have := ih (by omega)
    unfold zAk
    split
    ·omega
    ·exact this
  have := this N (Nat.le_refl _)
  omega
 obtain ⟨⟨k, k1, k2⟩, _⟩ := zIs h.pos hpos
 have h0 := h.now0
 refine ⟨?_, ?_, fun e => ?_⟩
 ·rcases h.w k (by omega) (by omega) with g | g
  ·omega
  ·omega
 ·rcases h.w k (by omega) (by omega) with g | g
  ·omega
  ·omega
 ·have : (k : Int) ∈ zDq x.M (zAk x.M N) N := zMy.2 ⟨by omega, by omega, k2⟩
  rw [e] at this
  cases this
theorem up_mid0 {M : TT} {t : Int} (h : zDc M) : ∀ {i : Nat}, zDc (zHn M t i) := by
 intro i
 induction i with
 | zero => exact h
 | succ i ih =>
  unfold zHn
  split
  ·exact ih.up (by unfold In64; omega)
  ·exact ih
theorem RInv.next {N : Nat} {x : RS} (h : RInv N x) (hk : 1 ≤ x.k) (hb : zAk x.M N ≠ 0) (hd : zAk x.M N - x.now ≤ x.k) : RInv N (x.next N) ∧ (x.past.length : Int) + 1 ≤ 60 := by
 obtain ⟨b1, b2, b3⟩ := h.best hb
 have h0 := h.now0
 have hnow := h.now
 have hroom := h.room
 have hkk := h.k
 have hw := due_wait (M := x.M) (t := zAk x.M N) (by omega) (N := N)
 have hl : 1 ≤ (zDq x.M (zAk x.M N) N).length := by
  cases e : zDq x.M (zAk x.M N) N with
  | nil => exact absurd e b3
  | cons a l => simp
 have hwp := waitM_pos (M := zHn x.M (zAk x.M N) N) (N := N)
 have hlen := zKp (M := x.M) (t := zAk x.M N) (i := N)
 have hn := h.n
 obtain ⟨_, least⟩ := zIs h.pos (show 0 < zAk x.M N by omega)
 refine ⟨⟨h.n, by show 0 ≤ zAk x.M N; omega, by show zAk x.M N + (x.k - (zAk x.M N - x.now)) ≤ _ ∧ zAk x.M N ≤ _; omega, up_mid0 h.mid, fun t t0 t1 => ?_, by show x.k - (zAk x.M N - x.now) ≤ _ ∧ _ ≤ x.k - (zAk x.M N - x.now); omega, fun l hl => ?_, ?_⟩, by omega⟩
 ·show g0 (zHn x.M (zAk x.M N) N) t = 0 ∨ (zAk x.M N < g0 (zHn x.M (zAk x.M N) N) t ∧ g0 (zHn x.M (zAk x.M N) N) t ≤ most)
  rw [dueT_at t0]
  by_cases e : t < N ∧ g0 x.M t = zAk x.M N
  ·rw [if_pos e]; exact .inl rfl
  ·rw [if_neg e]
   rcases h.w t t0 t1 with g | g
   ·exact .inl g
   ·refine .inr ⟨?_, g.2⟩
    have := least t.toNat (by omega) (by rw [Int.toNat_of_nonneg t0]; omega)
    rw [Int.toNat_of_nonneg t0] at this
    have : g0 x.M t ≠ zAk x.M N := fun e' => e ⟨t1, e'⟩
    omega
 ·rcases List.mem_append.1 hl with hl | hl
  ·exact h.past l hl
  ·simp only [List.mem_cons, List.not_mem_nil, or_false] at hl
   subst hl
   refine ⟨by omega, fun t ht => ?_⟩
   have := zMy.1 ht
   omega
 ·show ((x.past ++ [zDq x.M (zAk x.M N) N]).length : Int) + waitM (zHn x.M (zAk x.M N) N) N ≤ 60
  rw [hw, List.length_append]
  show ((x.past.length + 1 : Nat) : Int) + _ ≤ 60
  omega
def lenP (p : List (List Int)) (i : Nat) : Int := ((p[i]?).map fun l => (l.length : Int)).getD 0
def tabP (p : List (List Int)) (i : Nat) : TT := ((p[i]?).map zAp).getD zBo
theorem lenP_more {p : List (List Int)} {l : List Int} {i : Nat} : lenP (p ++ [l]) i = if i = p.length then (l.length : Int) else lenP p i := by
 unfold lenP
 by_cases h : i < p.length
 ·rw [List.getElem?_append_left h, if_neg (by omega)]
 ·rw [List.getElem?_append_right (by omega)]
  by_cases e : i = p.length
  ·subst e
   rw [if_pos rfl, Nat.sub_self]; rfl
  ·rw [if_neg e, List.getElem?_eq_none (l := p) (by omega)]
   obtain ⟨d, hd⟩ : ∃ d, i - p.length = d + 1 := ⟨i - p.length - 1, by omega⟩
   rw [hd]; rfl
theorem tabP_more {p : List (List Int)} {l : List Int} {i : Nat} : tabP (p ++ [l]) i = if i = p.length then zAp l else tabP p i := by
 unfold tabP
 by_cases h : i < p.length
 ·rw [List.getElem?_append_left h, if_neg (by omega)]
 ·rw [List.getElem?_append_right (by omega)]
  by_cases e : i = p.length
  ·subst e
   rw [if_pos rfl, Nat.sub_self]; rfl
  ·rw [if_neg e, List.getElem?_eq_none (l := p) (by omega)]
   obtain ⟨d, hd⟩ : ∃ d, i - p.length = d + 1 := ⟨i - p.length - 1, by omega⟩
   rw [hd]; rfl
theorem range_get {α : Type} {f : Nat → α} {n i : Nat} {a : α} (h : ((List.range n).map f)[i]? = some a) : i < n ∧ a = f i := by
 rw [List.getElem?_map, Option.map_eq_some_iff] at h
 obtain ⟨x, h1, h2⟩ := h
 obtain ⟨h3, h4⟩ := List.getElem?_eq_some_iff.1 h1
 simp at h3
 rw [List.getElem_range] at h4
 exact ⟨h3, by rw [← h2, h4]⟩
theorem range2 {α β : Type} {p : α → β → Prop} {n : Nat} {f : Nat → α} {g : Nat → β} (h : ∀ i, i < n → p (f i) (g i)) : zOs p ((List.range n).map f) ((List.range n).map g) :=
 .of_get (by simp) fun i a b ha hb => by
  obtain ⟨h1, rfl⟩ := range_get ha
  obtain ⟨_, rfl⟩ := range_get hb
  exact h i h1
theorem range1 {α : Type} {p : α → Prop} {n : Nat} {f : Nat → α} (h : ∀ i, i < n → p (f i)) : zCj p ((List.range n).map f) :=
 .of fun x hx => by
  obtain ⟨i, hi, rfl⟩ := List.mem_map.1 hx
  exact h i (List.mem_range.1 hi)
theorem repl2 {α β : Type} {p : α → β → Prop} {n : Nat} {a : α} {g : Nat → β} (h : ∀ i, i < n → p a (g i)) : zOs p (List.replicate n a) ((List.range n).map g) :=
 .of_get (by simp) fun i x b hx hb => by
  obtain ⟨h1, rfl⟩ := range_get hb
  have : x = a := List.eq_of_mem_replicate (List.mem_of_getElem? hx)
  subst this
  exact h i h1
end Go.Proofs.Wheels
namespace Go.Proofs.YtaliacnncemneaaGreat.wheels
open Go.Abs Go.Proofs.Wheels
def scMs (N : Nat) (x : RS) : List Int := [(N : Int), x.now, x.k] ++ (List.range 61).map (lenP x.past)
def scxMs (N : Nat) (x : RS) : List Int := [0, 0, 0, 0, 0, 0, zAk x.M N, ((zDq x.M (zAk x.M N) N).length : Int)]
def tbMs (x : RS) : List TT := [x.M] ++ (List.range 61).map (tabP x.past)
def tbxMs (N : Nat) (x : RS) : List TT := [zBo, zBo, zBo, zBo, zBo, zBo, zBo, zBo, zBo, zBo, zHn x.M (zAk x.M N) N, zAp (zDq x.M (zAk x.M N) N)]
theorem lenP_le {N : Nat} {p : List (List Int)} (h : ∀ l ∈ p, l.length ≤ 4096 ∧ ∀ t ∈ l, 0 ≤ t ∧ t < (N : Int)) (i : Nat) : 0 ≤ lenP p i ∧ lenP p i ≤ 4096 := by
 unfold lenP
 cases e : p[i]? with
 | none => exact ⟨Int.le_refl _, by show (0 : Int) ≤ 4096; omega⟩
 | some l =>
  have := (h l (List.mem_of_getElem? e)).1
  show 0 ≤ (l.length : Int) ∧ (l.length : Int) ≤ 4096
  omega
theorem tabP_mid {N : Nat} {p : List (List Int)} (hN : N ≤ 4096) (h : ∀ l ∈ p, l.length ≤ 4096 ∧ ∀ t ∈ l, 0 ≤ t ∧ t < (N : Int)) (i : Nat) : zDc (tabP p i) := by
 unfold tabP
 cases e : p[i]? with
 | none => exact zBe
 | some l =>
  have hp := (h l (List.mem_of_getElem? e)).2
  exact zBb fun t ht => by
   have := hp t ht
   exact zAt (by omega) (by omega)
theorem zPd {N : Nat} {x : RS} (h : RInv N x) : RefT N x.now x.M := by
 have h0 := h.now0
 have hnow := h.now
 refine ⟨⟨h.n, by unfold most; omega, h.mid⟩, fun k k0 k1 => ?_⟩
 rcases h.w k k0 k1 with g | g
 ·rw [g]; exact ⟨Int.le_refl _, by show (0 : Int) ≤ 1000000000; omega⟩
 ·omega
structure RMid (N : Nat) (x : RS) : Prop where
 ref : RefT N x.now x.M
 k : x.k ≤ 100000 ∧ -9000000000000000000 ≤ x.k
 past : ∀ l ∈ x.past, l.length ≤ 4096 ∧ ∀ t ∈ l, 0 ≤ t ∧ t < (N : Int)
theorem rinv_mid {N : Nat} {x : RS} (h : RInv N x) : RMid N x := ⟨zPd h, h.k, h.past⟩
theorem far_mid {N : Nat} {x : RS} (h : RInv N x) (hk : 0 ≤ x.k) : RMid N x.far := by
 have r := zPd h
 have h0 := h.now0
 have hnow := h.now
 exact ⟨⟨⟨h.n, by show 0 ≤ x.now + x.k ∧ x.now + x.k ≤ 1000000000; omega, h.mid⟩, r.w⟩, h.k, h.past⟩
theorem ms_mid {N : Nat} {x : RS} (h : RMid N x) : zCj In64 (scMs N x ++ scxMs N x) ∧ zCj zDc (tbMs x ++ tbxMs N x) := by
 have hn := h.ref.n
 have h0 := h.ref.t
 have hk := h.k
 have hb := zLr h.ref (Nat.le_refl N)
 unfold most at hb h0
 have hl := zKp (M := x.M) (t := zAk x.M N) (i := N)
 have z : In64 0 := zAt (by omega) (by omega)
 exact ⟨.app (.app ⟨zAt (by omega) (by omega), zAt (by omega) (by omega), by unfold In64; omega, trivial⟩ (range1 fun i _ => by
   have := lenP_le h.past i
   exact zAt (by omega) (by omega))) ⟨z, z, z, z, z, z, zAt (by omega) (by omega), zAt (by omega) (by omega), trivial⟩,
  .app (.app ⟨h.ref.mid, trivial⟩ (range1 fun i _ => tabP_mid hn.2 h.past i)) ⟨zBe, zBe, zBe, zBe, zBe, zBe, zBe, zBe, zBe, zBe, dueT_mid h.ref.mid, zMx hn.2, trivial⟩⟩
def FunProofs (fs : List zAj) (env : Nat → Int) : Prop := ∀ {pc : List (SB × Bool)} (V : @zAc ⟨pc⟩), V.env = env → ∀ S ∈ fs, @zAl ⟨pc⟩ V Tryz.prog [] S
theorem mt70 {N : Nat} {y : RS} {E : Nat → Int} (hy : RInv N y) (hb0 : zAk y.M N ≠ 0) (e0 : (v 0).eval E = N) (e70 : (v 70).eval E = zAk y.M N) (e71 : (v 71).eval E = (zDq y.M (zAk y.M N) N).length) (t0 : zAf (zAv E (.tab 128)) y.M) (t200 : zAf (zAv E (.tab 200)) (zHn y.M (zAk y.M N) N)) (t201 : zAf (zAv E (.tab 201)) (zAp (zDq y.M (zAk y.M N) N)))
  {pc : List (SB × Bool)} (V : @zAc ⟨pc⟩) (hV : V.env = E) : @zAl ⟨pc⟩ V Tryz.prog [] (mtickS zCx PG (v 0) (add (v 70) (L (-1))) (v 70) (v 71) (.tab 128) (.tab 200) (.tab 201) true) := by
 obtain ⟨b1, b2, b3⟩ := hy.best hb0
 have h0 := hy.now0
 have hb : zAk y.M N - 1 + 1 = zAk y.M N := by omega
 refine @mtick_proof ⟨_⟩ V N (zAk y.M N - 1) y.M (v 0) (add (v 70) (L (-1))) (v 71) (.tab 128) (.tab 200) (.tab 201) (v 70) ⟨hy.n, by omega, hy.mid⟩ (by omega) ?_ ?_ ?_ ?_ ?_ ?_ ?_ true ?_
 all_goals try rw [hV]
 ·exact e0
 ·show (v 70).eval E + (-1) = _
  rw [e70]; omega
 ·rw [e70]; omega
 ·exact t0
 ·rw [hb]; exact e71
 ·rw [hb]; exact t200
 ·rw [hb]; exact t201
 ·rw [hb]; exact ⟨fun _ => b3, fun _ => rfl⟩
section
variable [F : Facts] [V : zAc] {N : Nat}
theorem ms_proof {x e : RS} {f : Nat} (h : RInv N x) (hp : x.past = []) (hf : x.k ≤ f) (he : rsk N f x = e) {n now now' k k' M M' : SE} {ls ts : List SE} (hls : ls.length = 61) (hts : ts.length = 61) (hn : n.eval V.env = N) (hnow : now.eval V.env = x.now) (hk : k.eval V.env = x.k) (hM : zAf (zAv V.env M) x.M)
  (hnow' : now'.eval V.env = e.now) (hk' : k'.eval V.env = e.k) (hM' : zAf (zAv V.env M') e.M) (hl : Ev V.env ls ((List.range 61).map (lenP e.past))) (ht : Rw V.env ts ((List.range 61).map (tabP e.past))) : zAq Tryz.prog [] (msS zJi PG e.past.length n now now' k k' M M' ls ts) := by
 have hN := h.n
 obtain ⟨E, hE⟩ : ∃ E : RS → Nat → Int, E = fun x => zBw (scMs N x ++ scxMs N x) (tbMs x ++ tbxMs N x) := ⟨_, rfl⟩
 refine zGx (key := 5) (msS zJi PG e.past.length n now now' k k' M M' ls ts) isMs fxMs (o := ⟨.exit 0, e.past.length, [n, now', k'] ++ ls, [M'] ++ ts⟩) rfl goodMs E (scMs N) (scxMs N) tbMs (tbxMs N) (fun x => by rw [hE]) 64 62 (by decide) (by decide) upsMs rfl rfl (by show (ls.length + 1 + 1 + 1) = 64; omega) (by show (ts.length + 1) = 62; omega)
  (I := fun μ j y => j = y.past.length ∧ RInv N y ∧ rsk N μ y = e ∧ y.k ≤ μ) (Post := fun y => y = e) (fun μ j y hI => ms_mid (rinv_mid hI.2.1)) (fun B μ j y hI => ?_) f x ⟨by rw [hp]; rfl, h, he, hf⟩ ?_ ?_ (fun y hq => ?_)
 ·obtain ⟨rfl, hy, hr, hkf⟩ := hI
  have hroom := hy.room
  have hwp := waitM_pos (M := y.M) (N := N)
  obtain ⟨r1, r2, r3, r4⟩ := runsMs_at (j := y.past.length) (by omega)
  have e0 : (v 0).eval (E y) = N := by rw [hE]; exact zCi rfl (by decide)
  have e1 : (v 1).eval (E y) = y.now := by rw [hE]; exact zCi rfl (by decide)
  have e2 : (v 2).eval (E y) = y.k := by rw [hE]; exact zCi rfl (by decide)
  have e70 : (v 70).eval (E y) = zAk y.M N := by
   rw [hE]
   refine zCi ?_ (by decide)
   rw [List.getElem?_append_right (by simp [scMs])]
   simp [scMs, scxMs]
  have e71 : (v 71).eval (E y) = (zDq y.M (zAk y.M N) N).length := by
   rw [hE]
   refine zCi ?_ (by decide)
   rw [List.getElem?_append_right (by simp [scMs])]
   simp [scMs, scxMs]
  have t0 : zAf (zAv (E y) (.tab 128)) y.M := by rw [hE]; exact zFz rfl (by decide) (by decide)
  have t200 : zAf (zAv (E y) (.tab 200)) (zHn y.M (zAk y.M N) N) := by
   rw [hE]
   refine zFz ?_ (by decide) (by decide)
   rw [List.getElem?_append_right (by simp [tbMs])]
   simp [tbMs, tbxMs]
  have t201 : zAf (zAv (E y) (.tab 201)) (zAp (zDq y.M (zAk y.M N) N)) := by
   rw [hE]
   refine zFz ?_ (by decide) (by decide)
   rw [List.getElem?_append_right (by simp [tbMs])]
   simp [tbMs, tbxMs]
  have el : ∀ i, i < 61 → (lenM i).eval (E y) = lenP y.past i := fun i hi => by
   rw [hE]
   refine zCi ?_ (by omega)
   rw [List.getElem?_append_left (by simp [scMs]; omega)]
   show ([(N : Int), y.now, y.k] ++ (List.range 61).map (lenP y.past))[3 + i]? = _
   rw [List.getElem?_append_right (by simp), List.getElem?_map, show 3 + i - [(N : Int), y.now, y.k].length = i by simp, List.getElem?_range hi]
   rfl
  have et : ∀ i, i < 61 → zAf (zAv (E y) (.tab (129 + i))) (tabP y.past i) := fun i hi => by
   rw [hE]
   refine zFz ?_ (by omega) (by omega)
   rw [List.getElem?_append_left (by simp [tbMs]; omega)]
   show ([y.M] ++ (List.range 61).map (tabP y.past))[129 + i - 128]? = _
   rw [List.getElem?_append_right (by simp; omega), List.getElem?_map, show 129 + i - 128 - [y.M].length = i by simp; omega, List.getElem?_range hi]
   rfl
  have hm : zCj (Says (E y)) pcM := by rw [hE]; exact zMi (zPd hy).toRef rfl rfl
  have hkk := hy.k
  by_cases hk0 : y.k ≤ 0
  ·have hye : y = e := by
    cases μ with
    | zero => exact hr
    | succ μ =>
     unfold rsk at hr
     rw [if_pos hk0] at hr
     exact hr
   refine ⟨csMsE y.past.length, y, noLoops, zCb (csMsE y.past.length).pc [], zDi B _ _ _ (fun V hV S hS => by cases hS), r1, zCw (.app hm ⟨zAi (by rw [e2]; exact hk0), trivial⟩), .inl ⟨rfl, rfl, rfl⟩, .inr ⟨by simp [csMsE], rfl, by rw [← hye]; rfl, hye, ms_mid (rinv_mid hy)⟩⟩
  ·obtain ⟨m, rfl⟩ : ∃ m, μ = m + 1 := ⟨μ - 1, by omega⟩
   unfold rsk at hr
   rw [if_neg hk0] at hr
   have base : zCj (Says (E y)) pcMs := .app hm ⟨zAi (by rw [e2]; show (1 : Int) ≤ _; omega), zAi (by rw [e2]; show _ ≤ (100000 : Int); omega), trivial⟩
   have hfar := far_mid hy (by omega)
   have lfar : Ev (E y) ([v 0, add (v 1) (v 2), v 2] ++ lens61 61 (L 0)) (scMs N y.far) := by
    refine zOs.app ⟨e0, ?_, e2, trivial⟩ (range2 fun i hi => ?_)
    ·show (v 1).eval (E y) + (v 2).eval (E y) = y.now + y.k
     rw [e1, e2]
    ·show (if i = 61 then L 0 else lenM i).eval (E y) = _
     rw [if_neg (by omega)]
     exact el i hi
   have tfar : Rw (E y) ([.tab 128] ++ tabs61 61 zS) (tbMs y.far) := by
    refine zOs.app ⟨t0, trivial⟩ (range2 fun i hi => ?_)
    show zAf (zAv (E y) (if i = 61 then zS else .tab (129 + i))) _
    rw [if_neg (by omega)]
    exact et i hi
   have nx : ∀ b : Bool, (b = true ↔ 0 < zAk y.M N) → ∀ {pc : List (SB × Bool)} (V' : @zAc ⟨pc⟩), V'.env = E y → @zAl ⟨pc⟩ V' Tryz.prog [] (mnextS zCa PG (v 0) (v 1) (v 70) (.tab 128) b) := fun b hb pc V' hV => by
    refine @mnext_proof ⟨_⟩ V' N y.now y.M (v 0) (v 1) (v 70) (.tab 128) (zPd hy) ?_ ?_ ?_ ?_ b hb
    all_goals rw [hV]
    ·exact e0
    ·exact e1
    ·exact t0
    ·exact e70
   by_cases hb0 : zAk y.M N = 0
   ·rw [if_pos (.inl hb0)] at hr
    refine ⟨csMsN y.past.length, y.far, noLoops, zCb (csMsN y.past.length).pc (fMsS zCa zCx PG false), zDi B _ _ _ (fun V hV S hS => ?_), r2, zCw base, .inr ⟨rfl, rfl, lfar, tfar⟩, .inr ⟨by simp [csMsN], rfl, by rw [← hr]; rfl, hr, ms_mid hfar⟩⟩
    simp only [fMsS, Bool.false_eq_true, if_false, List.append_nil, List.mem_cons, List.not_mem_nil, or_false] at hS
    subst hS
    exact nx false ⟨fun g => (by cases g), fun g => (by omega)⟩ V hV
   ·obtain ⟨b1, b2, b3⟩ := hy.best hb0
    have hbp : 0 < zAk y.M N := by
     have := hy.now0
     omega
    have ed : dMs.eval (E y) = zAk y.M N - y.now := by
     show (v 70).eval (E y) - (v 1).eval (E y) = _
     rw [e70, e1]
    have hnow0 := hy.now0
    have d1 : Says (E y) (le (L 1) dMs) := zAi (by rw [ed]; show (1 : Int) ≤ _; omega)
    have d2 : Says (E y) (le dMs (L most)) := zAi (by rw [ed]; show _ ≤ most; omega)
    have d3 : Says (E y) (le (L 1) (v 70)) := zAi (by rw [e70]; show (1 : Int) ≤ _; omega)
    have d4 : Says (E y) (le (v 70) (L most)) := zAi (by rw [e70]; exact b2)
    by_cases hd : y.k < zAk y.M N - y.now
    ·rw [if_pos (.inr hd)] at hr
     have tk : FunProofs (fMsS zCa zCx PG true) (E y) := fun {pc} V' hV S hS => by
      simp only [fMsS, if_true, List.mem_append, List.mem_cons, List.not_mem_nil, or_false] at hS
      rcases hS with rfl | rfl
      ·exact nx true ⟨fun _ => hbp, fun _ => rfl⟩ V' hV
      ·exact mt70 hy hb0 e0 e70 e71 t0 t200 t201 V' hV
     refine ⟨csMsF y.past.length, y.far, noLoops, zCb (csMsF y.past.length).pc (fMsS zCa zCx PG true), zDi B _ _ _ (fun V hV S hS => tk V hV S hS), r3, zCw (.app base ⟨zBt (by rw [ed, e2]; omega), d1, d2, d3, d4, trivial⟩), .inr ⟨rfl, rfl, lfar, tfar⟩, .inr ⟨by simp [csMsF], rfl, by rw [← hr]; rfl, hr, ms_mid hfar⟩⟩
    ·rw [if_neg (fun g => g.elim hb0 hd)] at hr
     have tk : FunProofs (fMsS zCa zCx PG true) (E y) := fun {pc} V' hV S hS => by
      simp only [fMsS, if_true, List.mem_append, List.mem_cons, List.not_mem_nil, or_false] at hS
      rcases hS with rfl | rfl
      ·exact nx true ⟨fun _ => hbp, fun _ => rfl⟩ V' hV
      ·exact mt70 hy hb0 e0 e70 e71 t0 t200 t201 V' hV
     obtain ⟨hnx, _⟩ := hy.next (by omega) hb0 (by omega)
     have hl1 : 1 ≤ (zDq y.M (zAk y.M N) N).length := by
      cases e : zDq y.M (zAk y.M N) N with
      | nil => exact absurd e b3
      | cons a l => simp
     have hlen := zKp (M := y.M) (t := zAk y.M N) (i := N)
     refine ⟨csMsT PG y.past.length, y.next N, noLoops, zCb (csMsT PG y.past.length).pc (fMsS zCa zCx PG true), zDi B _ _ _ (fun V hV S hS => tk V hV S hS), r4, zCw (.app base ⟨zAi (by rw [ed, e2]; omega), d1, d2, d3, d4, zAi (by rw [e71]; show (1 : Int) ≤ _; omega), zAi (by rw [e71]; show _ ≤ (4096 : Int); omega), trivial⟩), .inr ⟨rfl, rfl, ?_, ?_⟩, .inl ⟨rfl, m, by omega, by show y.past.length + 1 = (y.past ++ [zDq y.M (zAk y.M N) N]).length; simp, hnx, hr, by show y.k - (zAk y.M N - y.now) ≤ (m : Int); omega⟩⟩
     ·refine zOs.app ⟨e0, e70, ?_, trivial⟩ (range2 fun i hi => ?_)
      ·show (v 2).eval (E y) - dMs.eval (E y) = y.k - (zAk y.M N - y.now)
       rw [e2, ed]
      ·show (if i = y.past.length then v 71 else lenM i).eval (E y) = lenP (y.past ++ [zDq y.M (zAk y.M N) N]) i
       rw [lenP_more]
       by_cases e : i = y.past.length
       ·rw [if_pos e, if_pos e]; exact e71
       ·rw [if_neg e, if_neg e]; exact el i hi
     ·refine zOs.app ⟨t200, trivial⟩ (range2 fun i hi => ?_)
      show zAf (zAv (E y) (if i = y.past.length then .tab 201 else .tab (129 + i))) (tabP (y.past ++ [zDq y.M (zAk y.M N) N]) i)
      rw [tabP_more]
      by_cases e : i = y.past.length
      ·rw [if_pos e, if_pos e]; exact t201
      ·rw [if_neg e, if_neg e]; exact et i hi
 ·refine zOs.app ⟨hn, hnow, hk, trivial⟩ (repl2 fun i hi => ?_)
  rw [hp]; rfl
 ·refine zOs.app ⟨hM, trivial⟩ (repl2 fun i hi => ?_)
  rw [hp]; exact zDs _
 ·subst hq
  exact ⟨zOs.app ⟨hn, hnow', hk', trivial⟩ hl, zOs.app ⟨hM', trivial⟩ ht⟩
end
end Go.Proofs.YtaliacnncemneaaGreat.wheels
namespace Go.Proofs.Wheels
open Go.Abs
theorem asc_ext : ∀ {l m : List Int}, l.Pairwise (· < ·) → m.Pairwise (· < ·) → (∀ x, x ∈ l ↔ x ∈ m) → l = m := by
 intro l
 induction l with
 | nil =>
  intro m _ _ h
  cases m with
  | nil => rfl
  | cons b m => exact absurd ((h b).2 (.head _)) (by simp)
 | cons a l ih =>
  intro m hl hm h
  cases m with
  | nil => exact absurd ((h a).1 (.head _)) (by simp)
  | cons b m =>
   have hl' := List.pairwise_cons.1 hl
   have hm' := List.pairwise_cons.1 hm
   have e : a = b := by
    rcases List.mem_cons.1 ((h a).1 (.head _)) with g | g
    ·exact g
    ·rcases List.mem_cons.1 ((h b).2 (.head _)) with g' | g'
     ·exact g'.symm
     ·have := hm'.1 a g
      have := hl'.1 b g'
      omega
   subst e
   rw [ih hl'.2 hm'.2 fun x => ?_]
   refine ⟨fun hx => ?_, fun hx => ?_⟩
   ·rcases List.mem_cons.1 ((h x).1 (.tail _ hx)) with g | g
    ·have := hl'.1 x hx
     omega
    ·exact g
   ·rcases List.mem_cons.1 ((h x).2 (.tail _ hx)) with g | g
    ·have := hm'.1 x hx
     omega
    ·exact g
theorem dueL_asc {M : TT} {t : Int} : ∀ {i : Nat}, (zDq M t i).Pairwise (· < ·) := by
 intro i
 induction i with
 | zero => exact .nil
 | succ i ih =>
  unfold zDq
  split
  ·refine List.pairwise_append.2 ⟨ih, List.pairwise_singleton _ _, fun a ha b hb => ?_⟩
   have := zMy.1 ha
   simp only [List.mem_cons, List.not_mem_nil, or_false] at hb
   omega
  ·exact ih
theorem dueT_none {M : TT} {t : Int} : ∀ {i : Nat}, zDq M t i = [] → zHn M t i = M := by
 intro i
 induction i with
 | zero => intro _; rfl
 | succ i ih =>
  intro h
  unfold zDq at h
  unfold zHn
  split at h
  ·simp at h
  ·rename_i g
   rw [if_neg g]
   exact ih h
theorem wakes_col : ∀ {l : List Int} {s : WS} {r c : Nat}, c ≠ 0 → (WS.wakes l s).when_ r c = s.when_ r c := by
 intro l
 induction l with
 | nil => intro s r c _; rfl
 | cons t l ih =>
  intro s r c hc
  show (WS.wakes l (s.wake t)).when_ r c = _
  rw [ih hc]
  show up s.when_ t 0 r c = _
  unfold up
  rw [if_neg (fun h => hc h.2)]
theorem dueT_eq {M M' : TT} {t : Int} (h : zAf M M') : ∀ i : Nat, zAf (zHn M t i) (zHn M' t i) := by
 intro i
 induction i with
 | zero => exact h
 | succ i ih =>
  unfold zHn
  rw [h.g]
  split
  ·exact zDt ih rfl rfl
  ·exact ih
theorem dueL_eq {M M' : TT} {t : Int} (h : zAf M M') : ∀ i : Nat, zDq M t i = zDq M' t i := by
 intro i
 induction i with
 | zero => rfl
 | succ i ih =>
  unfold zDq
  rw [h.g, ih]
theorem bestM_eq {M M' : TT} (h : zAf M M') : ∀ i : Nat, zAk M i = zAk M' i := by
 intro i
 induction i with
 | zero => rfl
 | succ i ih =>
  unfold zAk
  rw [h.g, ih]
end Go.Proofs.Wheels
namespace Go.Proofs.YtaliacnncemneaaGreat.wheels
open Go.Abs Go.Proofs.Wheels
theorem sorted_asc {l : List Int} (h : l.Nodup) : (sorted l).Pairwise (· < ·) := by
 have hp : (sorted l).Pairwise (fun a b => decide (a ≤ b) = true) := List.pairwise_mergeSort (le := fun x y => decide (x ≤ y)) (fun a b c h1 h2 => by simp at *; omega) (fun a b => by simp; omega) l
 have hn : (sorted l).Nodup := (List.mergeSort_perm l _).nodup_iff.2 h
 refine (List.Pairwise.and hp hn).imp fun {a b} hab => ?_
 have := hab.1
 have := hab.2
 simp at *
 omega
section
variable {s : WS} {qt qf : Int → List Int} {N : Nat}
theorem raw_due (ha : zNg s qt qf) (hn : s.n = N) : sorted s.raw = zDq s.when_ (s.now + 1) N :=
 asc_ext (sorted_asc ha.wk.nd) dueL_asc fun x => by
  rw [zEr, raw_mem ha, zMy, hn]
theorem fin_due (ha : zNg s qt qf) (hn : s.n = N) : zAf s.fin.when_ (zHn s.when_ (s.now + 1) N) := fun r c _ => by
 by_cases hc : c = 0
 ·subst hc
  have h1 : g0 s.fin.when_ (r : Int) = _ := fin_when ha (t := (r : Int)) (by omega)
  have h2 : g0 (zHn s.when_ (s.now + 1) N) (r : Int) = _ := dueT_at (M := s.when_) (t := s.now + 1) (i := N) (k := (r : Int)) (by omega)
  have e1 : g0 s.fin.when_ (r : Int) = s.fin.when_ r 0 := by unfold g0; rw [Int.toNat_natCast]
  have e2 : g0 (zHn s.when_ (s.now + 1) N) (r : Int) = zHn s.when_ (s.now + 1) N r 0 := by unfold g0; rw [Int.toNat_natCast]
  rw [← e1, ← e2, h1, h2]
  have hm : (r : Int) ∈ s.raw ↔ ((r : Int) < N ∧ g0 s.when_ (r : Int) = s.now + 1) := by
   rw [raw_mem ha, hn]
   exact ⟨fun h => h.2, fun h => ⟨by omega, h⟩⟩
  by_cases h : (r : Int) ∈ s.raw
  ·rw [if_pos h, if_pos (hm.1 h)]
  ·rw [if_neg h, if_neg (fun g => h (hm.2 g))]
 ·rw [dueT_col hc]
  show (WS.wakes s.raw s.downs).when_ r c = _
  rw [wakes_col hc, zBy.2.2]
end
structure Like (N : Nat) (x : SkS) (y : RS) : Prop where
 n : x.s.n = N
 M : zAf y.M x.s.when_
 now : y.now = x.s.now
 k : y.k = x.k
 past : y.past = x.past
structure LikeE (x : SkS) (y : RS) : Prop where
 M : zAf y.M x.s.when_
 now : y.now = x.s.now
 past : y.past = x.past
theorem wait_eq {s : WS} {N : Nat} (hn : s.n = N) : s.wait = waitM s.when_ N := by
 unfold WS.wait waitM
 rw [hn]
 congr 1
theorem best_none {s : WS} {q : Int → List Int} {N : Nat} (h : zEq s q) (hn : s.n = N) : zAk s.when_ N = 0 ↔ s.wait = 0 := by
 have h0 := h.now0
 have pos : ∀ k : Nat, k < N → 0 ≤ g0 s.when_ k := fun k hk => by
  rcases h.w k (by omega) (by omega) with g | ⟨g, _⟩
  ·omega
  ·omega
 constructor
 ·intro hb
  refine wait_none fun t t0 t1 => ?_
  have := best_zero pos hb t.toNat (by omega)
  rw [Int.toNat_of_nonneg t0] at this
  exact this
 ·intro hw
  have hz : ∀ k : Nat, k < N → g0 s.when_ k = 0 := fun k hk => wait_zero hw (by omega) (by omega)
  have : ∀ i : Nat, i ≤ N → zAk s.when_ i = 0 := by
   intro i
   induction i with
   | zero => intro _; rfl
   | succ i ih =>
    intro hi
    unfold zAk
    rw [if_neg (fun g => by rw [hz i (by omega)] at g; omega), ih (by omega)]
  exact this N (Nat.le_refl _)
theorem best_now {s : WS} {q : Int → List Int} {N : Nat} (h : zEq s q) (hn : s.n = N) (hb : zAk s.when_ N ≠ 0) : s.now < zAk s.when_ N ∧ (∃ k : Nat, k < N ∧ g0 s.when_ k = zAk s.when_ N) ∧ ∀ k : Nat, k < N → g0 s.when_ k ≠ 0 → zAk s.when_ N ≤ g0 s.when_ k := by
 have h0 := h.now0
 have pos : ∀ k : Nat, k < N → 0 ≤ g0 s.when_ k := fun k hk => by
  rcases h.w k (by omega) (by omega) with g | ⟨g, _⟩
  ·omega
  ·omega
 have hbp : ∀ i : Nat, i ≤ N → 0 ≤ zAk s.when_ i := by
  intro i
  induction i with
  | zero => intro _; exact Int.le_refl _
  | succ i ih =>
   intro hi
   have := ih (by omega)
   unfold zAk
   split <;> omega
 have := hbp N (Nat.le_refl _)
 obtain ⟨⟨k, k1, k2⟩, k3⟩ := zIs pos (show 0 < zAk s.when_ N by omega)
 refine ⟨?_, ⟨k, k1, k2⟩, k3⟩
 rcases h.w k (by omega) (by omega) with g | ⟨g, _⟩
 ·omega
 ·omega
theorem skips_rsk {N R : Nat} : ∀ {n f : Nat} {x : SkS} {y : RS}, n ≤ f → SkInv R x → x.k = n → Like N x y → LikeE (zEy n x) (rsk N f y) := by
 intro n
 induction n with
 | zero =>
  intro f x y _ h hk hl
  have e : rsk N f y = y := by
   cases f with
   | zero => rfl
   | succ f =>
    unfold rsk
    rw [if_pos (by rw [hl.k, hk]; exact Int.le_refl _)]
  rw [e]
  exact ⟨hl.M, hl.now, hl.past⟩
 | succ n ih =>
  intro f x y hf h hk hl
  obtain ⟨f, rfl⟩ : ∃ f', f = f' + 1 := ⟨f - 1, by omega⟩
  obtain ⟨q, hq⟩ := h.q
  have hnow := h.now
  have hyk : y.k = (n : Int) + 1 := by rw [hl.k, hk]; omega
  have hbe : zAk y.M N = zAk x.s.when_ N := bestM_eq hl.M N
  unfold zEy
  by_cases h0 : x.s.len = 0
  ·rw [if_pos h0]
   have hw : x.s.wait = 0 := by rw [← zJc hq]; exact h0
   have e : rsk N (f + 1) y = y.far := by
    unfold rsk
    rw [if_neg (by omega), if_pos (.inl (by rw [hbe]; exact (best_none hq hl.n).2 hw))]
   rw [e]
   exact ⟨hl.M, by show y.now + y.k = x.s.now + (x.k : Int); rw [hl.now, hl.k], hl.past⟩
  ·rw [if_neg h0]
   have hw : x.s.wait ≠ 0 := by rw [← zJc hq]; exact h0
   have hb0 : zAk x.s.when_ N ≠ 0 := fun g => hw ((best_none hq hl.n).1 g)
   obtain ⟨b1, ⟨k, k1, k2⟩, b3⟩ := best_now hq hl.n hb0
   obtain ⟨qt, qf, ha⟩ := zOb hq h.mid (by omega)
   have hkeep := zHv (s := x.s)
   have hraw := raw_due ha hl.n
   have hfin := fin_due ha hl.n
   obtain ⟨n1, _⟩ := h.next (by omega)
   by_cases hb : zAk x.s.when_ N = x.s.now + 1
   ·have hne : x.s.raw ≠ [] := fun e => by
     have : (k : Int) ∈ x.s.raw := (raw_mem ha).2 ⟨by omega, by have := hl.n; omega, by omega⟩
     rw [e] at this
     cases this
    have en : x.next = ⟨x.s.fin, x.k - 1, x.past ++ [sorted x.s.raw]⟩ := by unfold SkS.next; rw [if_neg hne]
    have e : rsk N (f + 1) y = rsk N f (y.next N) := by
     show (if y.k ≤ 0 then y else if zAk y.M N = 0 ∨ y.k < zAk y.M N - y.now then y.far else rsk N f (y.next N)) = _
     rw [if_neg (by omega), if_neg]
     rw [hbe, hl.now]
     omega
    rw [e]
    refine ih (by omega) n1 (by rw [en]; show x.k - 1 = n; omega) ?_
    rw [en]
    refine ⟨hkeep.1.trans hl.n, ?_, ?_, ?_, ?_⟩
    ·show zAf (zHn y.M (zAk y.M N) N) x.s.fin.when_
     rw [hbe, hb]
     exact (dueT_eq hl.M N).trans hfin.symm
    ·show zAk y.M N = x.s.fin.now
     rw [hbe, hb, hkeep.2]
    ·show y.k - (zAk y.M N - y.now) = ((x.k - 1 : Nat) : Int)
     rw [hbe, hb, hl.now]
     omega
    ·show y.past ++ [zDq y.M (zAk y.M N) N] = x.past ++ [sorted x.s.raw]
     rw [hbe, hb, hraw, hl.past, dueL_eq hl.M]
   ·have hre : x.s.raw = [] := by
     cases e : x.s.raw with
     | nil => rfl
     | cons a l =>
      have := (raw_mem ha).1 (show a ∈ x.s.raw by rw [e]; exact .head _)
      have := b3 a.toNat (by have := hl.n; omega) (by rw [Int.toNat_of_nonneg this.1]; have := hq.now0; omega)
      rename_i g
      rw [Int.toNat_of_nonneg g.1] at this
      omega
    have hde : zDq x.s.when_ (x.s.now + 1) N = [] := by rw [← hraw, hre]; simp [sorted]
    have en : x.next = ⟨x.s.fin, x.k - 1, x.past⟩ := by unfold SkS.next; rw [if_pos hre]
    obtain ⟨y', hy'⟩ : ∃ y' : RS, y' = ⟨y.M, y.now + 1, y.k - 1, y.past⟩ := ⟨_, rfl⟩
    have hi := ih (f := f + 1) (x := x.next) (y := y') (by omega) n1 (by rw [en]; show x.k - 1 = n; omega) (by
     rw [en, hy']
     refine ⟨hkeep.1.trans hl.n, ?_, ?_, ?_, hl.past⟩
     ·rw [dueT_none hde] at hfin
      exact hl.M.trans hfin.symm
     ·show y.now + 1 = x.s.fin.now
      rw [hkeep.2, hl.now]
     ·show y.k - 1 = ((x.k - 1 : Nat) : Int)
      omega)
    have hbl : y.now + 1 < zAk y.M N := by rw [hbe, hl.now]; omega
    have hdel : (rsk N (f + 1) y).M = (rsk N (f + 1) y').M ∧ (rsk N (f + 1) y).now = (rsk N (f + 1) y').now ∧ (rsk N (f + 1) y).past = (rsk N (f + 1) y').past := by
     have e1 : rsk N (f + 1) y = if y.k ≤ 0 then y else if zAk y.M N = 0 ∨ y.k < zAk y.M N - y.now then y.far else rsk N f (y.next N) := rfl
     have e2 : rsk N (f + 1) y' = if y'.k ≤ 0 then y' else if zAk y'.M N = 0 ∨ y'.k < zAk y'.M N - y'.now then y'.far else rsk N f (y'.next N) := rfl
     have e3 : y'.next N = y.next N := by
      rw [hy']
      show RS.mk _ _ (y.k - 1 - (zAk y.M N - (y.now + 1))) _ = RS.mk _ _ (y.k - (zAk y.M N - y.now)) _
      rw [show y.k - 1 - (zAk y.M N - (y.now + 1)) = y.k - (zAk y.M N - y.now) by omega]
     have k' : y'.k = y.k - 1 := by rw [hy']
     have m' : y'.M = y.M := by rw [hy']
     have w' : y'.now = y.now + 1 := by rw [hy']
     have p' : y'.past = y.past := by rw [hy']
     have hbne : zAk y.M N ≠ 0 := by rw [hbe]; exact hb0
     rw [e1, e2, e3, if_neg (by omega)]
     by_cases hfar : y.k < zAk y.M N - y.now
     ·rw [if_pos (.inr hfar)]
      by_cases hz : y'.k ≤ 0
      ·rw [if_pos hz]
       exact ⟨m'.symm, by show y.now + y.k = y'.now; omega, p'.symm⟩
      ·rw [if_neg hz, if_pos (.inr (by rw [m', k', w']; omega))]
       exact ⟨m'.symm, by show y.now + y.k = y'.now + y'.k; omega, p'.symm⟩
     ·rw [if_neg (fun g => g.elim hbne hfar), if_neg (by omega), if_neg (by rw [m', k', w']; omega)]
      exact ⟨rfl, rfl, rfl⟩
    exact ⟨by rw [hdel.1]; exact hi.M, hdel.2.1.trans hi.now, hdel.2.2.trans hi.past⟩
end Go.Proofs.YtaliacnncemneaaGreat.wheels
end
