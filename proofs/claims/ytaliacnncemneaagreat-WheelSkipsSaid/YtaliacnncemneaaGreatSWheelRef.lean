/- The document's wheel. Conditions: those that each theorem names. -/
import Derived.Test.YtaliacnncemneaaGreatSWheelSkip
open Go
noncomputable section
namespace Go.Proofs.Wheels
open Go.Abs
def yes : AV := .val (.bool true)
def refB (b : Nat) : List Blk := [row [X 0, X 1, ss (b + 1) (v 0)], T1 128 (v 0)]
def refOf (s : HS) : Option AV → List Nat
 | some (.ptr r 0) => r :: ssOf (cellOf s r 2)
 | _ => []
def nmR0 (st : St) (s : HS) : List Nat := refOf s (st.t.get 0)
def nmR (xs : List AV) (s : HS) : List Nat := refOf s xs.head?
def pcM : List (SB × Bool) := [tt, le (L 1) (v 0), le (v 0) (L 4096), le (L 0) (v 1), le (v 1) (L most)]
def mtT (G : Nat) (l : AV) : List (Nat × AV) := [(0, .ptr G 0), (3, l), (16, ss (G + 1) (v 0)), (17, X 0), (18, X 2)]
def shMt (G : Nat) : Nat → Shape
 | 0 => ⟨mtT G nilS, refB G⟩
 | 1 => ⟨mtT G (ss (G + 2) (v 3)), refB G ++ [T1 129 (v 3)]⟩
 | 2 => ⟨[(3, nilS)], refB G⟩
 | _ => ⟨[(3, ss (G + 2) (v 3))], refB G ++ [T1 129 (v 3)]⟩
def mtS (g G : Nat) (n now m M M' T : SE) (some_ : Bool) : zAd := ⟨g, 5, 41, shMt G, [n, now, L 0, L 0], [M, zS], nmR0, [⟨.exit 0, if some_ then 3 else 2, [n, now, n, m], [M', T]⟩], 2⟩
def mi : SE := sel 128 (v 2)
def pcMi : List (SB × Bool) := pcM ++ [nle (v 0) (v 2), le (L 0) (v 2), le (v 2) (L 4095), le (v 2) (add (v 0) (L (-1)))]
def csMtN (j : Nat) : Case := ⟨pcMi ++ [ne mi (v 1), le (L 0) (v 3), le (v 3) (L 4095)], .normal, j, [v 0, v 1, add (v 2) (L 1), v 3], [.tab 128, .tab 129], []⟩
def csMt0 (G : Nat) : Case := ⟨pcMi ++ [eq mi (v 1)], .normal, 1, [v 0, v 1, add (v 2) (L 1), L 1], [.upd (.tab 128) (v 2) 0 (L 0), oneE (v 2)], [G, G + 1, G + 3]⟩
def csMt1 (G : Nat) : Case := ⟨pcMi ++ [eq mi (v 1), le (L 0) (v 3), le (v 3) (L 4095)], .normal, 1, [v 0, v 1, add (v 2) (L 1), add (v 3) (L 1)], [.upd (.tab 128) (v 2) 0 (L 0), .cat (.tab 129) (v 3) (oneE (v 2))], [G, G + 1, G + 4]⟩
def csMtE (j : Nat) : Case := ⟨pcM ++ [le (v 0) (v 2)], .exit 0, j, [], [], []⟩
def shMtF (G : Nat) : Nat → Shape
 | 0 => ⟨zHg 0 [.ptr G 0], refB G⟩
 | 1 => ⟨[(0, nilS)], refB G⟩
 | _ => ⟨[(0, ss (G + 2) (v 2))], refB G ++ [T1 129 (v 2)]⟩
def mtickS (g G : Nat) (n now now' m M M' T : SE) (some_ : Bool) : zAi := ⟨g, 1, shMtF G, [n, now, m], [M, T], nmR, [⟨.ret, if some_ then 2 else 1, [n, now', m], [M', T]⟩], 2⟩
def zNw (G : Nat) (some_ : Bool) : Case := ⟨pcM ++ [le (v 1) (L (most - 1)), le (L 0) (v 2), le (v 2) (L 4096)], .ret, if some_ then 2 else 1, [v 0, add (v 1) (L 1), v 2], [.tab 130, .tab 129], if some_ then [G, G + 1, G + 2] else []⟩
def shMn (G : Nat) : Nat → Shape
 | 0 => ⟨[(4, X 3), (10, ss (G + 1) (v 0)), (11, X 0), (12, X 2)], refB G⟩
 | _ => ⟨[(4, X 3)], refB G⟩
def mnS (g G : Nat) (n now b M : SE) : zAd := ⟨g, 4, 32, shMn G, [n, now, L 0, L 0], [M], nmR0, [⟨.exit 0, 1, [n, now, n, b], [M]⟩], 2⟩
def pcMb : List (SB × Bool) := pcMi ++ [le (L 0) (v 3), le (v 3) (L most)]
def csMn (k : Nat) : Case := ⟨pcMb ++ (match k with
 | 0 => [le mi (L 0)]
 | 1 => [nle mi (L 0), eq (v 3) (L 0)]
 | 2 => [nle mi (L 0), ne (v 3) (L 0), nle (v 3) mi]
 | _ => [nle mi (L 0), ne (v 3) (L 0), le (v 3) mi]), .normal, 0, [v 0, v 1, add (v 2) (L 1), if k = 1 ∨ k = 2 then mi else v 3], [.tab 128], []⟩
def csMnE : Case := ⟨pcM ++ [le (v 0) (v 2)], .exit 0, 1, [], [], []⟩
def shMnF (G : Nat) (has : Bool) : Nat → Shape
 | 0 => ⟨zHg 0 [.ptr G 0], refB G⟩
 | _ => ⟨[(0, .tup [bif has then X 2 else I 0, .val (.bool has)])], refB G⟩
def mnextS (g G : Nat) (n now b M : SE) (has : Bool) : zAi := ⟨g, 1, shMnF G has, [n, now, b], [M], nmR, [⟨.ret, 1, [n, now, b], [M]⟩], 2⟩
def csMnF (has : Bool) : Case := ⟨pcM ++ [bif has then nle (v 2) (L 0) else eq (v 2) (L 0)], .ret, 1, [v 0, v 1, v 2], [.tab 128], []⟩
def shIs (G : Nat) : Nat → Shape
 | 0 => ⟨[(0, ss G (v 0)), (1, ss (G + 1) (v 0)), (12, X 0), (13, X 1)], [T1r 128 (v 0), T1r 128 (v 0)]⟩
 | _ => ⟨[], [T1r 128 (v 0), T1r 128 (v 0)]⟩
def nmIs (st : St) (_ : HS) : List Nat := ssOf (st.t.get 0) ++ ssOf (st.t.get 1)
def isS (g G : Nat) (n T : SE) : zAd := ⟨g, 5, 26, shIs G, [n, L 0], [T], nmIs, [⟨.exit 0, 1, [n, n], [T]⟩], 2⟩
def pcIs : List (SB × Bool) := [tt, le (L 0) (v 0), le (v 0) (L 4096), le (L 0) (v 1)]
def csIs : Case := ⟨pcIs ++ [nle (v 0) (v 1), le (v 1) (L 4095), le (v 1) (add (v 0) (L (-1)))], .normal, 0, [v 0, add (v 1) (L 1)], [.tab 128], []⟩
def csIsE : Case := ⟨pcIs ++ [le (v 0) (v 1)], .exit 0, 1, [], [], []⟩
def shIsF (G : Nat) : Nat → Shape
 | 0 => ⟨zHg 0 [ss G (v 0), ss (G + 1) (v 0)], [T1r 128 (v 0), T1r 128 (v 0)]⟩
 | _ => ⟨[(0, yes)], [T1r 128 (v 0), T1r 128 (v 0)]⟩
def nmIsF (xs : List AV) (_ : HS) : List Nat := match xs with
 | [a, b] => ssOf (some a) ++ ssOf (some b)
 | _ => []
def intsS (g G : Nat) (n T : SE) : zAi := ⟨g, 2, shIsF G, [n], [T], nmIsF, [⟨.ret, 1, [n], [T]⟩], 2⟩
def csIsF : Case := ⟨[tt, le (L 0) (v 0), le (v 0) (L 4096)], .ret, 1, [v 0], [.tab 128], []⟩
def shIsN : Nat → Shape
 | 0 => ⟨zHg 0 [nilS, nilS], []⟩
 | _ => ⟨[(0, yes)], []⟩
def intsN (g : Nat) : zAi := ⟨g, 2, shIsN, [], [], fun _ _ => [], [⟨.ret, 1, [], []⟩], 0⟩
def csIsN : Case := ⟨[tt], .ret, 1, [], [], []⟩
end Go.Proofs.Wheels
namespace Go.Proofs.Wheels
open Go.Abs
def zDp (M : TT) (t : Int) : Nat → List Int
 | 0 => []
 | i + 1 => if g0 M i = t then zDp M t i ++ [(i : Int)] else zDp M t i
def zHk (M : TT) (t : Int) : Nat → TT
 | 0 => M
 | i + 1 => if g0 M i = t then up (zHk M t i) i 0 else zHk M t i
theorem dueT_ge {M : TT} {t : Int} : ∀ {i : Nat} {k : Int}, (i : Int) ≤ k → g0 (zHk M t i) k = g0 M k := by
 intro i
 induction i with
 | zero => intro k _; rfl
 | succ i ih =>
  intro k hk
  unfold zHk
  split
  ·rw [zCx (by omega) (by omega)]; exact ih (by omega)
  ·exact ih (by omega)
theorem dueT_at {M : TT} {t : Int} : ∀ {i : Nat} {k : Int}, 0 ≤ k → g0 (zHk M t i) k = if k < i ∧ g0 M k = t then 0 else g0 M k := by
 intro i
 induction i with
 | zero => intro k hk; rw [if_neg (by omega)]; rfl
 | succ i ih =>
  intro k hk
  unfold zHk
  by_cases e : k = i
  ·subst e
   by_cases h : g0 M (i : Int) = t
   ·rw [if_pos h, zBn hk, if_pos ⟨by omega, h⟩]
   ·rw [if_neg h, ih hk, if_neg (fun h' => h h'.2), if_neg (fun h' => h h'.2)]
  ·have hi : (k < i ∧ g0 M k = t) ↔ (k < ((i + 1 : Nat) : Int) ∧ g0 M k = t) := ⟨fun h => ⟨by omega, h.2⟩, fun h => ⟨by omega, h.2⟩⟩
   split
   ·rw [zCx hk e, ih hk]
    simp only [hi]
   ·rw [ih hk]
    simp only [hi]
theorem dueT_col {M : TT} {t : Int} : ∀ {i r c : Nat}, c ≠ 0 → zHk M t i r c = M r c := by
 intro i
 induction i with
 | zero => intro r c _; rfl
 | succ i ih =>
  intro r c hc
  unfold zHk
  split
  ·unfold up; rw [if_neg (fun h => hc h.2)]; exact ih hc
  ·exact ih hc
theorem zMz {M : TT} {t : Int} : ∀ {i : Nat} {x : Int}, x ∈ zDp M t i ↔ 0 ≤ x ∧ x < i ∧ g0 M x = t := by
 intro i
 induction i with
 | zero => intro x; exact ⟨fun h => (List.not_mem_nil h).elim, fun h => by omega⟩
 | succ i ih =>
  intro x
  unfold zDp
  split
  ·rename_i h
   rw [List.mem_append, ih]
   simp only [List.mem_cons, List.not_mem_nil, or_false]
   refine ⟨fun hx => ?_, fun hx => ?_⟩
   ·rcases hx with hx | rfl
    ·exact ⟨hx.1, by omega, hx.2.2⟩
    ·exact ⟨by omega, by omega, h⟩
   ·by_cases e : x = i
    ·exact .inr e
    ·exact .inl ⟨hx.1, by omega, hx.2.2⟩
  ·rename_i h
   rw [ih]
   refine ⟨fun hx => ⟨hx.1, by omega, hx.2.2⟩, fun hx => ⟨hx.1, ?_, hx.2.2⟩⟩
   by_cases e : x = i
   ·subst e; exact absurd hx.2.2 h
   ·omega
theorem zKo {M : TT} {t : Int} : ∀ {i : Nat}, (zDp M t i).length ≤ i := by
 intro i
 induction i with
 | zero => exact Nat.le_refl _
 | succ i ih =>
  unfold zDp
  split
  ·rw [List.length_append]
   show (zDp M t i).length + 1 ≤ i + 1
   omega
  ·omega
def zAk (M : TT) : Nat → Int
 | 0 => 0
 | i + 1 => if 0 < g0 M i ∧ (zAk M i = 0 ∨ g0 M i < zAk M i) then g0 M i else zAk M i
def insK (M : TT) (l : List Int) (a : Int) : Nat → Nat
 | 0 => 0
 | k + 1 => if a < g0 M ((l[k]?).getD 0) then insK M l a k else k + 1
def insAt (l : List Int) (k : Nat) (x : Int) : List Int := l.take k ++ x :: l.drop k
def allM (M : TT) : Nat → List Int
 | 0 => []
 | i + 1 => if g0 M i = 0 then allM M i else insAt (allM M i) (insK M (allM M i) (g0 M i) (allM M i).length) i
theorem insK_le {M : TT} {l : List Int} {a : Int} : ∀ {k : Nat}, insK M l a k ≤ k := by
 intro k
 induction k with
 | zero => exact Nat.le_refl _
 | succ k ih =>
  unfold insK
  split
  ·omega
  ·exact Nat.le_refl _
theorem insAt_len {l : List Int} {k : Nat} {x : Int} (h : k ≤ l.length) : (insAt l k x).length = l.length + 1 := by
 unfold insAt
 simp
 omega
theorem insAt_mem {l : List Int} {k : Nat} {x y : Int} : y ∈ insAt l k x ↔ y = x ∨ y ∈ l := by
 unfold insAt
 rw [List.mem_append, List.mem_cons]
 have : y ∈ l ↔ y ∈ l.take k ∨ y ∈ l.drop k := by
  rw [← List.mem_append, List.take_append_drop]
 rw [this]
 exact ⟨fun h => by rcases h with h | h | h <;> simp [h], fun h => by rcases h with h | h | h <;> simp [h]⟩
theorem zNg {M : TT} : ∀ {i : Nat} {x : Int}, x ∈ allM M i ↔ 0 ≤ x ∧ x < i ∧ g0 M x ≠ 0 := by
 intro i
 induction i with
 | zero => intro x; exact ⟨fun h => (List.not_mem_nil h).elim, fun h => by omega⟩
 | succ i ih =>
  intro x
  unfold allM
  split
  ·rename_i h
   rw [ih]
   refine ⟨fun hx => ⟨hx.1, by omega, hx.2.2⟩, fun hx => ⟨hx.1, ?_, hx.2.2⟩⟩
   by_cases e : x = i
   ·subst e; exact absurd h hx.2.2
   ·omega
  ·rename_i h
   rw [insAt_mem, ih]
   refine ⟨fun hx => ?_, fun hx => ?_⟩
   ·rcases hx with rfl | hx
    ·exact ⟨by omega, by omega, h⟩
    ·exact ⟨hx.1, by omega, hx.2.2⟩
   ·by_cases e : x = i
    ·exact .inl e
    ·exact .inr ⟨hx.1, by omega, hx.2.2⟩
theorem allM_len {M : TT} : ∀ {i : Nat}, (allM M i).length ≤ i := by
 intro i
 induction i with
 | zero => exact Nat.le_refl _
 | succ i ih =>
  unfold allM
  split
  ·omega
  ·rw [insAt_len insK_le]; omega
theorem cat_one {env : Nat → Int} {a : Nat} {m x : SE} {l : List Int} {X : Int} (hT : zAg (zAw env (.tab a)) (zAs l)) (hm : m.eval env = l.length) (hx : x.eval env = X) : zAg (zAw env (.cat (.tab a) m (oneE x))) (zAs (l ++ [X])) := fun r c hc => by
 show (if (r : Int) < m.eval env then zFl env a r c else (if (r : Int) - m.eval env = 0 ∧ c = 0 then x.eval env else 0)) = _
 have hT : zFl env a r c = zAs l r c := hT r c hc
 rw [hm, hx, hT, zKn]
theorem one_one {env : Nat → Int} {x : SE} {X : Int} (hx : x.eval env = X) : zAg (zAw env (oneE x)) (zAs [X]) := fun r c hc => by
 show (if (r : Int) = 0 ∧ c = 0 then x.eval env else 0) = _
 rw [hx]
 unfold zAs
 by_cases h : c = 0
 ·rw [if_pos h]
  by_cases hr : r = 0
  ·subst hr; rw [if_pos ⟨rfl, h⟩]; rfl
  ·rw [if_neg (by omega), List.getElem?_eq_none (by simp; omega)]; rfl
 ·rw [if_neg h, if_neg (fun g => h g.2)]
end Go.Proofs.Wheels
namespace Go.Proofs.YtaliacnncemneaaGreat.wheels
open Go.Abs Go.Proofs.Wheels
set_option maxRecDepth 1000000
theorem isMt : ((Tryz.prog.funcs[zCw]?).bind (·.body)).map (fun c => zBm 5 (subs c)) = some [zEf zCw 5] := by kernel_rfl
theorem fxMt : zAl (shMt PG) 2 [false, false] := fun i => by rcases i with _ | _ | _ | i <;> exact ⟨Nat.le_of_ble_eq_true rfl, rfl, rfl⟩
theorem goodMt (b : Bool) : zBk PG (shMt PG (if b then 3 else 2)) = true := by cases b <;> kernel_rfl
theorem upsMt : ∀ i, (shMt PG i).ups 4 2 = true := fun i => by rcases i with _ | _ | _ | i <;> kernel_rfl
theorem run_mtN0 : zFp zCw 5 41 (shMt PG) 2 0 (csMtN 0) [] = true := by kernel_rfl
theorem run_mtN1 : zFp zCw 5 41 (shMt PG) 2 1 (csMtN 1) [] = true := by kernel_rfl
theorem run_mt0 : zFp zCw 5 41 (shMt PG) 2 0 (csMt0 PG) [] = true := by kernel_rfl
theorem run_mt1 : zFp zCw 5 41 (shMt PG) 2 1 (csMt1 PG) [] = true := by kernel_rfl
theorem run_mtE0 : zFp zCw 5 41 (shMt PG) 2 0 (csMtE 2) [] = true := by kernel_rfl
theorem run_mtE1 : zFp zCw 5 41 (shMt PG) 2 1 (csMtE 3) [] = true := by kernel_rfl
theorem fxMtF : zAl (shMtF PG) 2 [false, false] := fun i => by rcases i with _ | _ | i <;> exact ⟨Nat.le_of_ble_eq_true rfl, rfl, rfl⟩
theorem goodMtF (b : Bool) : zBk PG (shMtF PG (if b then 2 else 1)) = true := by cases b <;> kernel_rfl
theorem upsMtF : ∀ i, (shMtF PG i).ups 3 2 = true := fun i => by rcases i with _ | _ | i <;> kernel_rfl
theorem run_mtF (b : Bool) : ((zJk (zNw PG b).pc [mtS zCw PG (v 0) (add (v 1) (L 1)) (v 2) (.tab 128) (.tab 130) (.tab 129) b] []) (.f zCw) [.ptr PG 0] ((shMtF PG 0).heap PG [])).every NN (@Case.chkF ⟨(zNw PG b).pc⟩ PG 2 (shMtF PG (zNw PG b).to) (zNw PG b)) = true := by cases b <;> kernel_rfl
theorem isMn : ((Tryz.prog.funcs[zBy]?).bind (·.body)).map (fun c => zBm 4 (subs c)) = some [zEf zBy 4] := by kernel_rfl
theorem fxMn : zAl (shMn PG) 2 [false, false] := fun i => by rcases i with _ | i <;> exact ⟨Nat.le_refl _, rfl, rfl⟩
theorem goodMn : zBk PG (shMn PG 1) = true := by kernel_rfl
theorem upsMn : ∀ i, (shMn PG i).ups 4 1 = true := fun i => by rcases i with _ | i <;> kernel_rfl
theorem run_mn0 : zFp zBy 4 32 (shMn PG) 2 0 (csMn 0) [] = true := by kernel_rfl
theorem run_mn1 : zFp zBy 4 32 (shMn PG) 2 0 (csMn 1) [] = true := by kernel_rfl
theorem run_mn2 : zFp zBy 4 32 (shMn PG) 2 0 (csMn 2) [] = true := by kernel_rfl
theorem run_mn3 : zFp zBy 4 32 (shMn PG) 2 0 (csMn 3) [] = true := by kernel_rfl
theorem run_mnE : zFp zBy 4 32 (shMn PG) 2 0 csMnE [] = true := by kernel_rfl
theorem fxMnF (b : Bool) : zAl (shMnF PG b) 2 [false, false] := fun i => by rcases i with _ | i <;> exact ⟨Nat.le_refl _, rfl, rfl⟩
theorem goodMnF (b : Bool) : zBk PG (shMnF PG b 1) = true := by cases b <;> kernel_rfl
theorem upsMnF (b : Bool) : ∀ i, (shMnF PG b i).ups 3 1 = true := fun i => by cases b <;> rcases i with _ | i <;> kernel_rfl
theorem run_mnF (b : Bool) : ((zJk (csMnF b).pc [mnS zBy PG (v 0) (v 1) (v 2) (.tab 128)] []) (.f zBy) [.ptr PG 0] ((shMnF PG b 0).heap PG [])).every NN (@Case.chkF ⟨(csMnF b).pc⟩ PG 2 (shMnF PG b (csMnF b).to) (csMnF b)) = true := by cases b <;> kernel_rfl
theorem isIs : ((Tryz.prog.funcs[zDe]?).bind (·.body)).map (fun c => zBm 5 (subs c)) = some [zEf zDe 5] := by kernel_rfl
theorem fxIs : zAl (shIs PG) 2 [true, true] := fun i => by rcases i with _ | i <;> exact ⟨Nat.le_refl _, rfl, rfl⟩
theorem goodIs : zBk PG (shIs PG 1) = true := by kernel_rfl
theorem upsIs : ∀ i, (shIs PG i).ups 2 1 = true := fun i => by rcases i with _ | i <;> kernel_rfl
theorem run_is : zFp zDe 5 26 (shIs PG) 2 0 csIs [] = true := by kernel_rfl
theorem run_isE : zFp zDe 5 26 (shIs PG) 2 0 csIsE [] = true := by kernel_rfl
theorem fxIsF : zAl (shIsF PG) 2 [true, true] := fun i => by rcases i with _ | i <;> exact ⟨Nat.le_refl _, rfl, rfl⟩
theorem goodIsF : zBk PG (shIsF PG 1) = true := by kernel_rfl
theorem upsIsF : ∀ i, (shIsF PG i).ups 1 1 = true := fun i => by rcases i with _ | i <;> kernel_rfl
theorem run_isF : ((zJk csIsF.pc [isS zDe PG (v 0) (.tab 128)] []) (.f zDe) [ss PG (v 0), ss (PG + 1) (v 0)] ((shIsF PG 0).heap PG [])).every NN (@Case.chkF ⟨csIsF.pc⟩ PG 2 (shIsF PG csIsF.to) csIsF) = true := by kernel_rfl
theorem fxIsN : zAl shIsN 0 [] := fun i => by rcases i with _ | i <;> exact ⟨Nat.le_refl _, rfl, rfl⟩
theorem goodIsN : zBk PG (shIsN 1) = true := by kernel_rfl
theorem upsIsN : ∀ i, (shIsN i).ups 0 0 = true := fun i => by rcases i with _ | i <;> kernel_rfl
theorem run_isN : ((zJk csIsN.pc [] []) (.f zDe) [nilS, nilS] ((shIsN 0).heap PG [])).every NN (@Case.chkF ⟨csIsN.pc⟩ PG 0 (shIsN csIsN.to) csIsN) = true := by kernel_rfl
theorem zBx {x : Int} (h1 : -1000000000 ≤ x) (h2 : x ≤ 1000000000) : In64 x := by unfold In64; omega
structure Ref (N : Nat) (t : Int) (M : TT) : Prop where
 n : 1 ≤ N ∧ N ≤ 4096
 t : 0 ≤ t ∧ t ≤ most
 mid : zDc M
theorem dueT_mid {M : TT} {t : Int} (h : zDc M) : ∀ {i : Nat}, zDc (zHk M t i) := by
 intro i
 induction i with
 | zero => exact h
 | succ i ih =>
  unfold zHk
  split
  ·exact ih.up (zBx (by omega) (by omega))
  ·exact ih
theorem zMy {M : TT} {t : Int} {i : Nat} (h : i ≤ 4096) : zDc (zAs (zDp M t i)) := zBf fun x hx => by
 have := zMz.1 hx
 exact zBx (by omega) (by omega)
def scMt (M : TT) (N : Nat) (t : Int) (i : Nat) : List Int := [(N : Int), t, (i : Int), (zDp M t i).length]
def tbMt (M : TT) (t : Int) (i : Nat) : List TT := [zHk M t i, zAs (zDp M t i)]
theorem pcM_ok {sc : List Int} {tb : List TT} {N : Nat} {t : Int} {M : TT} (h : Ref N t M) (h0 : sc[0]? = some (N : Int)) (h1 : sc[1]? = some t) : zCr (Says (zCb sc tb)) pcM := by
 have e0 : (v 0).eval (zCb sc tb) = N := zDb h0 (by decide)
 have e1 : (v 1).eval (zCb sc tb) = t := zDb h1 (by decide)
 have := h.n
 have := h.t
 refine ⟨zEq rfl, zAm ?_, zAm ?_, zAm ?_, zAm ?_, trivial⟩
 ·rw [e0]; show (1 : Int) ≤ _; omega
 ·rw [e0]; show _ ≤ (4096 : Int); omega
 ·rw [e1]; show (0 : Int) ≤ _; omega
 ·rw [e1]; show _ ≤ most; omega
theorem pcMi_ok {sc : List Int} {tb : List TT} {N : Nat} {t : Int} {M : TT} {i : Nat} (h : Ref N t M) (h0 : sc[0]? = some (N : Int)) (h1 : sc[1]? = some t) (h2 : sc[2]? = some (i : Int)) (hi : i < N) : zCr (Says (zCb sc tb)) pcMi := by
 have e0 : (v 0).eval (zCb sc tb) = N := zDb h0 (by decide)
 have e2 : (v 2).eval (zCb sc tb) = i := zDb h2 (by decide)
 have := h.n
 refine .app (pcM_ok h h0 h1) ⟨zBz ?_, zAm ?_, zAm ?_, zAm ?_, trivial⟩
 ·rw [e0, e2]; omega
 ·rw [e2]; show (0 : Int) ≤ _; omega
 ·rw [e2]; show _ ≤ (4095 : Int); omega
 ·rw [e2]; show _ ≤ (v 0).eval _ + (-1); rw [e0]; omega
section
variable [F : Facts] [V : zAc] {N : Nat} {t : Int} {M : TT} {n now m Me Me' T : SE}
omit F V in
theorem mt_mid (h : Ref N t M) {i : Nat} (hi : i ≤ N) : zCr In64 (scMt M N t i) ∧ zCr zDc (tbMt M t i) := by
 have hn := h.n
 have ht := h.t
 have hl := zKo (M := M) (t := t) (i := i)
 unfold most at ht
 exact ⟨⟨zBx (by omega) (by omega), zBx (by omega) (by omega), zBx (by omega) (by omega), zBx (by omega) (by omega), trivial⟩, dueT_mid h.mid, zMy (by omega), trivial⟩
theorem mt_proof (h : Ref N t M) (hn : n.eval V.env = N) (hnow : now.eval V.env = t) (hM : zAg (zAw V.env Me) M) (hm : m.eval V.env = (zDp M t N).length) (hM' : zAg (zAw V.env Me') (zHk M t N)) (hT : zAg (zAw V.env T) (zAs (zDp M t N))) {b : Bool} (hb : b = true ↔ zDp M t N ≠ []) :
  zAp Tryz.prog [] (mtS zCw PG n now m Me Me' T b) := by
 have hN := h.n
 refine zMa (key := 5) (mtS zCw PG n now m Me Me' T b) isMt fxMt (o := ⟨.exit 0, if b then 3 else 2, [n, now, n, m], [Me', T]⟩) rfl (goodMt b) (scMt M N t) (tbMt M t) 4 2 (by decide) (by decide) upsMt rfl rfl rfl rfl
  (I := fun μ j i => j = (if zDp M t i = [] then 0 else 1) ∧ i ≤ N ∧ μ = N - i) (Post := fun i => i = N) (fun B μ j i hI => ?_) N 0 ⟨rfl, Nat.zero_le _, rfl⟩ (mt_mid h (Nat.zero_le _)).1 (mt_mid h (Nat.zero_le _)).2 ⟨hn, hnow, rfl, rfl, trivial⟩ ⟨hM, by rw [show zDp M t 0 = [] from rfl, zMl]; exact zDq _, trivial⟩ (fun i hp => ?_)
 ·obtain ⟨rfl, hi, rfl⟩ := hI
  have e0 : (v 0).eval (zCb (scMt M N t i) (tbMt M t i)) = N := zDb rfl (by decide)
  have e1 : (v 1).eval (zCb (scMt M N t i) (tbMt M t i)) = t := zDb rfl (by decide)
  have e2 : (v 2).eval (zCb (scMt M N t i) (tbMt M t i)) = i := zDb rfl (by decide)
  have e3 : (v 3).eval (zCb (scMt M N t i) (tbMt M t i)) = (zDp M t i).length := zDb rfl (by decide)
  have t0 : zAg (zAw (zCb (scMt M N t i) (tbMt M t i)) (.tab 128)) (zHk M t i) := zHj rfl (by decide) (by decide)
  have t1 : zAg (zAw (zCb (scMt M N t i) (tbMt M t i)) (.tab 129)) (zAs (zDp M t i)) := zHj rfl (by decide) (by decide)
  have em : mi.eval (zCb (scMt M N t i) (tbMt M t i)) = g0 M i := (ev_sel (T := zHk M t i) rfl (by decide) (by decide) e2).trans (dueT_ge (by omega))
  have hl := zKo (M := M) (t := t) (i := i)
  by_cases hlt : i < N
  ·have base := pcMi_ok (tb := tbMt M t i) (sc := scMt M N t i) h rfl rfl rfl hlt
   have mid := mt_mid h (i := i + 1) (by omega)
   have ei : (add (v 2) (L 1)).eval (zCb (scMt M N t i) (tbMt M t i)) = ((i + 1 : Nat) : Int) := by
    show (v 2).eval _ + 1 = _
    rw [e2]; omega
   by_cases hd : g0 M i = t
   ·have el : zDp M t (i + 1) = zDp M t i ++ [(i : Int)] := if_pos hd
    have eT : zHk M t (i + 1) = up (zHk M t i) i 0 := if_pos hd
    have hne : zDp M t (i + 1) ≠ [] := by rw [el]; simp
    have hlen : (zDp M t (i + 1)).length = (zDp M t i).length + 1 := by rw [el]; simp
    by_cases hz : zDp M t i = []
    ·have run := run_mt0
     have hz0 : (zDp M t i).length = 0 := by rw [hz]; rfl
     rw [if_pos hz]
     refine ⟨csMt0 PG, i + 1, noLoops, zCg (csMt0 PG).pc [], zDo B _ _ _ (fun V hV S hS => by cases hS), ?_, ?_, mid.1, mid.2, .inr ⟨rfl, rfl, ⟨e0, e1, ei, ?_, trivial⟩, ?_, ?_, trivial⟩, .inl ⟨rfl, N - (i + 1), by omega, ?_, by omega, rfl⟩⟩
     ·exact run
     ·exact zDt (.app base ⟨zEq (by rw [em, e1]; exact hd), trivial⟩)
     ·show (1 : Int) = ((zDp M t (i + 1)).length : Nat)
      rw [hlen, hz0]; rfl
     ·rw [eT]; exact zEd t0 e2 rfl
     ·rw [el, hz]; exact one_one e2
     ·rw [if_neg hne]; rfl
    ·have run := run_mt1
     rw [if_neg hz]
     refine ⟨csMt1 PG, i + 1, noLoops, zCg (csMt1 PG).pc [], zDo B _ _ _ (fun V hV S hS => by cases hS), ?_, ?_, mid.1, mid.2, .inr ⟨rfl, rfl, ⟨e0, e1, ei, ?_, trivial⟩, ?_, ?_, trivial⟩, .inl ⟨rfl, N - (i + 1), by omega, ?_, by omega, rfl⟩⟩
     ·exact run
     ·refine zDt (.app base ⟨zEq (by rw [em, e1]; exact hd), zAm ?_, zAm ?_, trivial⟩)
      ·rw [e3]; show (0 : Int) ≤ _; omega
      ·rw [e3]; show _ ≤ (4095 : Int); omega
     ·show (v 3).eval _ + 1 = ((zDp M t (i + 1)).length : Nat)
      rw [e3, hlen]; omega
     ·rw [eT]; exact zEd t0 e2 rfl
     ·rw [el]; exact cat_one t1 e3 e2
     ·rw [if_neg hne]; rfl
   ·have el : zDp M t (i + 1) = zDp M t i := if_neg hd
    have eT : zHk M t (i + 1) = zHk M t i := if_neg hd
    have pc : ∀ j, Fx (zCb (scMt M N t i) (tbMt M t i)) (csMtN j).pc := fun j => by
     refine zDt (.app base ⟨says_ne (by rw [em, e1]; exact hd), zAm ?_, zAm ?_, trivial⟩)
     ·rw [e3]; show (0 : Int) ≤ _; omega
     ·rw [e3]; show _ ≤ (4095 : Int); omega
    have run : ∀ (j : Nat), j = 0 ∨ j = 1 → zFp zCw 5 41 (shMt PG) 2 j (csMtN j) [] = true := fun j hj => by
     rcases hj with rfl | rfl
     ·exact run_mtN0
     ·exact run_mtN1
    obtain ⟨j, hj⟩ : ∃ j, j = if zDp M t i = [] then 0 else 1 := ⟨_, rfl⟩
    rw [← hj]
    refine ⟨csMtN j, i + 1, noLoops, zCg (csMtN j).pc [], zDo B _ _ _ (fun V hV S hS => by cases hS), run j (by rw [hj]; split <;> simp), pc j, mid.1, mid.2, .inr ⟨rfl, rfl, ⟨e0, e1, ei, ?_, trivial⟩, ?_, ?_, trivial⟩, .inl ⟨rfl, N - (i + 1), by omega, ?_, by omega, rfl⟩⟩
    ·rw [el]; exact e3
    ·rw [eT]; exact t0
    ·rw [el]; exact t1
    ·rw [el]; exact hj
  ·have hiN : i = N := by omega
   subst hiN
   have pc : ∀ j, Fx (zCb (scMt M i t i) (tbMt M t i)) (csMtE j).pc := fun j => by
    refine zDt (.app (pcM_ok h rfl rfl) ⟨zAm ?_, trivial⟩)
    rw [e0, e2]; omega
   have run : ∀ (j : Nat), j = 0 ∨ j = 1 → zFp zCw 5 41 (shMt PG) 2 j (csMtE (j + 2)) [] = true := fun j hj => by
    rcases hj with rfl | rfl
    ·exact run_mtE0
    ·exact run_mtE1
   obtain ⟨j, hj⟩ : ∃ j, j = if zDp M t i = [] then 0 else 1 := ⟨_, rfl⟩
   rw [← hj]
   refine ⟨csMtE (j + 2), i, noLoops, zCg (csMtE (j + 2)).pc [], zDo B _ _ _ (fun V hV S hS => by cases hS), run j (by rw [hj]; split <;> simp), pc _, (mt_mid h hi).1, (mt_mid h hi).2, .inl ⟨rfl, rfl, rfl⟩, .inr ⟨by simp [csMtE], rfl, ?_, rfl⟩⟩
   show j + 2 = if b then 3 else 2
   rw [hj]
   by_cases hz : zDp M t i = []
   ·have : b = false := by
     cases b with
     | false => rfl
     | true => exact absurd hz (hb.1 rfl)
    rw [if_pos hz, this]; rfl
   ·rw [if_neg hz, hb.2 hz]; rfl
 ·subst hp
  exact ⟨⟨hn, hnow, hn, hm, trivial⟩, hM', hT, trivial⟩
theorem mtick_proof {now' : SE} (h : Ref N t M) (ht : t + 1 ≤ most) (hn : n.eval V.env = N) (hnow : now.eval V.env = t) (hnow' : now'.eval V.env = t + 1) (hM : zAg (zAw V.env Me) M) (hm : m.eval V.env = (zDp M (t + 1) N).length) (hM' : zAg (zAw V.env Me') (zHk M (t + 1) N)) (hT : zAg (zAw V.env T) (zAs (zDp M (t + 1) N))) {b : Bool} (hb : b = true ↔ zDp M (t + 1) N ≠ []) :
  zAj Tryz.prog [] (mtickS zCw PG n now now' m Me Me' T b) := by
 have hN := h.n
 have h0 := h.t
 have h1 : Ref N (t + 1) M := ⟨h.n, by omega, h.mid⟩
 have hl := zKo (M := M) (t := t + 1) (i := N)
 have m0 : zCr In64 [(N : Int), t, ((zDp M (t + 1) N).length : Int)] := by
  unfold most at ht h0
  exact ⟨zBx (by omega) (by omega), zBx (by omega) (by omega), zBx (by omega) (by omega), trivial⟩
 have m1 : zCr In64 [(N : Int), t + 1, ((zDp M (t + 1) N).length : Int)] := by
  unfold most at ht h0
  exact ⟨zBx (by omega) (by omega), zBx (by omega) (by omega), zBx (by omega) (by omega), trivial⟩
 have q0 : zCr zDc [M, zAs (zDp M (t + 1) N), zHk M (t + 1) N] := ⟨h.mid, zMy (by omega), dueT_mid h.mid, trivial⟩
 have q1 : zCr zDc [zHk M (t + 1) N, zAs (zDp M (t + 1) N)] := ⟨dueT_mid h.mid, zMy (by omega), trivial⟩
 obtain ⟨E, hE⟩ : ∃ E, E = zCb ([(N : Int), t, ((zDp M (t + 1) N).length : Int)] ++ []) ([M, zAs (zDp M (t + 1) N)] ++ [zHk M (t + 1) N]) := ⟨_, rfl⟩
 have e0 : (v 0).eval E = N := by rw [hE]; exact zDb rfl (by decide)
 have e1 : (v 1).eval E = t := by rw [hE]; exact zDb rfl (by decide)
 have e2 : (v 2).eval E = (zDp M (t + 1) N).length := by rw [hE]; exact zDb rfl (by decide)
 have t0 : zAg (zAw E (.tab 128)) M := by rw [hE]; exact zHj rfl (by decide) (by decide)
 have t1 : zAg (zAw E (.tab 129)) (zAs (zDp M (t + 1) N)) := by rw [hE]; exact zHj rfl (by decide) (by decide)
 have t2 : zAg (zAw E (.tab 130)) (zHk M (t + 1) N) := by rw [hE]; exact zHj rfl (by decide) (by decide)
 have run := run_mtF b
 refine zIl (mtickS zCw PG n now now' m Me Me' T b) fxMtF (av := [.ptr PG 0]) (o := ⟨.ret, if b then 2 else 1, [n, now', m], [Me', T]⟩) rfl rfl (goodMtF b) rfl rfl 3 2 (by decide) (by decide) upsMtF rfl rfl rfl rfl (zNw PG b) rfl (zJk (zNw PG b).pc [mtS zCw PG (v 0) (add (v 1) (L 1)) (v 2) (.tab 128) (.tab 130) (.tab 129) b] []) hE
  (fun B V' hV' => zJc B V' (fun S hS => ?_) (fun S hS => by cases hS)) ?_ (zDt (.app (by rw [hE]; exact pcM_ok h rfl rfl) ⟨zAm ?_, zAm ?_, zAm ?_, trivial⟩)) m0 q0 m1 q1 rfl rfl ⟨e0, ?_, e2, trivial⟩ ⟨t2, t1, trivial⟩ ⟨hn, hnow, hm, trivial⟩ ⟨hM, hT, trivial⟩ ⟨hn, hnow', hm, trivial⟩ ⟨hM', hT, trivial⟩
 ·simp only [List.mem_cons, List.not_mem_nil, or_false] at hS
  subst hS
  refine @mt_proof ⟨_⟩ V' N (t + 1) M (v 0) (add (v 1) (L 1)) (v 2) (.tab 128) (.tab 130) (.tab 129) h1 ?_ ?_ ?_ ?_ ?_ ?_ b hb
  all_goals rw [hV']
  ·exact e0
  ·show (v 1).eval E + 1 = _; rw [e1]
  ·exact t0
  ·exact e2
  ·exact t2
  ·exact t1
 ·exact run
 ·rw [e1]; show _ ≤ most - 1; omega
 ·rw [e2]; show (0 : Int) ≤ _; omega
 ·rw [e2]; show _ ≤ (4096 : Int); omega
 ·show (v 1).eval E + 1 = _; rw [e1]
end
structure RefT (N : Nat) (t : Int) (M : TT) : Prop extends Ref N t M where
 w : ∀ k : Int, 0 ≤ k → k < N → 0 ≤ g0 M k ∧ g0 M k ≤ most
theorem best_in {N : Nat} {t : Int} {M : TT} (h : RefT N t M) : ∀ {i : Nat}, i ≤ N → 0 ≤ zAk M i ∧ zAk M i ≤ most := by
 intro i
 induction i with
 | zero => intro _; exact ⟨Int.le_refl _, by show (0 : Int) ≤ 1000000000; omega⟩
 | succ i ih =>
  intro hi
  have := ih (by omega)
  have := h.w i (by omega) (by omega)
  unfold zAk
  split <;> omega
section
variable [F : Facts] [V : zAc] {N : Nat} {t : Int} {M : TT} {n now b Me : SE}
omit F V in
theorem mn_mid (h : RefT N t M) {i : Nat} (hi : i ≤ N) : zCr In64 ([(N : Int), t, (i : Int), zAk M i] ++ []) ∧ zCr zDc ([M] ++ []) := by
 have hn := h.n
 have ht := h.t
 have hb := best_in h hi
 unfold most at ht hb
 exact ⟨⟨zBx (by omega) (by omega), zBx (by omega) (by omega), zBx (by omega) (by omega), zBx (by omega) (by omega), trivial⟩, h.mid, trivial⟩
theorem mn_proof (h : RefT N t M) (hn : n.eval V.env = N) (hnow : now.eval V.env = t) (hM : zAg (zAw V.env Me) M) (hb : b.eval V.env = zAk M N) : zAp Tryz.prog [] (mnS zBy PG n now b Me) := by
 have hN := h.n
 obtain ⟨E, hE⟩ : ∃ E : Nat → Nat → Int, E = fun (i : Nat) => zCb ([(N : Int), t, (i : Int), zAk M i] ++ []) ([M] ++ []) := ⟨_, rfl⟩
 refine zId (key := 4) (mnS zBy PG n now b Me) isMn fxMn (o := ⟨.exit 0, 1, [n, now, n, b], [Me]⟩) rfl goodMn E (fun i => [(N : Int), t, (i : Int), zAk M i]) (fun _ => []) (fun _ => [M]) (fun _ => []) (fun i => by rw [hE]) 4 1 (by decide) (by decide) upsMn rfl rfl rfl rfl
  (I := fun μ j i => j = 0 ∧ i ≤ N ∧ μ = N - i) (Post := fun i => i = N) (fun μ j i hI => mn_mid h hI.2.1) (fun B μ j i hI => ?_) N 0 ⟨rfl, Nat.zero_le _, rfl⟩ ⟨hn, hnow, rfl, rfl, trivial⟩ ⟨hM, trivial⟩ (fun i hp => ?_)
 ·obtain ⟨rfl, hi, rfl⟩ := hI
  have e0 : (v 0).eval (E i) = N := by rw [hE]; exact zDb rfl (by decide)
  have e1 : (v 1).eval (E i) = t := by rw [hE]; exact zDb rfl (by decide)
  have e2 : (v 2).eval (E i) = i := by rw [hE]; exact zDb rfl (by decide)
  have e3 : (v 3).eval (E i) = zAk M i := by rw [hE]; exact zDb rfl (by decide)
  have t0 : zAg (zAw (E i) (.tab 128)) M := by rw [hE]; exact zHj rfl (by decide) (by decide)
  have em : mi.eval (E i) = g0 M i := by
   refine (zBv _ 128 (v 2)).trans ?_
   rw [e2]
   exact t0.g _
  have hbi := best_in h hi
  by_cases hlt : i < N
  ·have base : zCr (Says (E i)) pcMb := by
    refine .app (by rw [hE]; exact pcMi_ok h.toRef rfl rfl rfl hlt) ⟨zAm ?_, zAm ?_, trivial⟩
    ·rw [e3]; exact hbi.1
    ·rw [e3]; exact hbi.2
   have ei : (add (v 2) (L 1)).eval (E i) = ((i + 1 : Nat) : Int) := by
    show (v 2).eval _ + 1 = _
    rw [e2]; omega
   have hw := h.w i (by omega) (by omega)
   have eb : zAk M (i + 1) = if 0 < g0 M i ∧ (zAk M i = 0 ∨ g0 M i < zAk M i) then g0 M i else zAk M i := rfl
   have go : ∀ k : Nat, zFp zBy 4 32 (shMn PG) 2 0 (csMn k) [] = true → Fx (E i) (csMn k).pc → (if k = 1 ∨ k = 2 then mi else v 3).eval (E i) = zAk M (i + 1) →
     ∃ (c : Case) (s' : Nat) (Lo : zDa) (call : Tgt → List AV → Go.Abs.M AV), Rnd Tryz.prog B c.pc (E i) Lo call ∧ ((@code ⟨c.pc⟩ Tryz.prog Lo call none (mnS zBy PG n now b Me).fn fuel (zEf (mnS zBy PG n now b Me).fn 4) ⟨tmps ((mnS zBy PG n now b Me).shapes 0).t, (mnS zBy PG n now b Me).nt, [.rest]⟩ (((mnS zBy PG n now b Me).shapes 0).heap PG [])).every NN (@Case.chk ⟨c.pc⟩ PG (mnS zBy PG n now b Me).nt (mnS zBy PG n now b Me).stay ((mnS zBy PG n now b Me).shapes c.to) c)) = true ∧
   Fx (E i) c.pc ∧ ((c.f = [] ∧ c.g = [] ∧ s' = i) ∨ (c.f.length = 4 ∧ c.g.length = 1 ∧ Ev (E i) c.f [(N : Int), t, (s' : Int), zAk M s'] ∧ Rw (E i) c.g [M])) ∧ ((c.e = .normal ∧ ∃ ν, ν < N - i ∧ (c.to = 0 ∧ s' ≤ N ∧ ν = N - s')) ∨ (c.e ≠ .normal ∧ c.e = .exit 0 ∧ c.to = 1 ∧ s' = N ∧ zCr In64 ([(N : Int), t, (s' : Int), zAk M s'] ++ []) ∧ zCr zDc ([M] ++ []))) := fun k run pc hk =>
    ⟨csMn k, i + 1, noLoops, zCg (csMn k).pc [], zDo B _ _ _ (fun V hV S hS => by cases hS), run, pc, .inr ⟨rfl, rfl, ⟨e0, e1, ei, hk, trivial⟩, ⟨t0, trivial⟩⟩, .inl ⟨rfl, N - (i + 1), by omega, rfl, by omega, rfl⟩⟩
   by_cases h1 : 0 < g0 M i
   ·by_cases h2 : zAk M i = 0
    ·refine go 1 run_mn1 (zDt (.app base ⟨zBz ?_, zEq ?_, trivial⟩)) ?_
     ·rw [em]; exact h1
     ·rw [e3]; exact h2
     ·rw [if_pos (by simp), em, eb, if_pos ⟨h1, .inl h2⟩]
    ·by_cases h3 : g0 M i < zAk M i
     ·refine go 2 run_mn2 (zDt (.app base ⟨zBz ?_, says_ne ?_, zBz ?_, trivial⟩)) ?_
      ·rw [em]; exact h1
      ·rw [e3]; exact h2
      ·rw [e3, em]; exact h3
      ·rw [if_pos (by simp), em, eb, if_pos ⟨h1, .inr h3⟩]
     ·refine go 3 run_mn3 (zDt (.app base ⟨zBz ?_, says_ne ?_, zAm ?_, trivial⟩)) ?_
      ·rw [em]; exact h1
      ·rw [e3]; exact h2
      ·rw [e3, em]; omega
      ·rw [if_neg (by simp), e3, eb, if_neg (fun g => by omega)]
   ·refine go 0 run_mn0 (zDt (.app base ⟨zAm ?_, trivial⟩)) ?_
    ·rw [em]; show _ ≤ (0 : Int); omega
    ·rw [if_neg (by simp), e3, eb, if_neg (fun g => h1 g.1)]
  ·have hiN : i = N := by omega
   have run := run_mnE
   refine ⟨csMnE, i, noLoops, zCg csMnE.pc [], zDo B _ _ _ (fun V hV S hS => by cases hS), ?_, ?_, .inl ⟨rfl, rfl, rfl⟩, .inr ⟨by simp [csMnE], rfl, rfl, hiN, mn_mid h hi⟩⟩
   ·exact run
   ·refine zDt (.app (by rw [hE]; exact pcM_ok h.toRef rfl rfl) ⟨zAm ?_, trivial⟩)
    rw [e0, e2]; omega
 ·subst hp
  exact ⟨⟨hn, hnow, hn, hb, trivial⟩, hM, trivial⟩
theorem mnext_proof (h : RefT N t M) (hn : n.eval V.env = N) (hnow : now.eval V.env = t) (hM : zAg (zAw V.env Me) M) (hb : b.eval V.env = zAk M N) {has : Bool} (hh : has = true ↔ 0 < zAk M N) : zAj Tryz.prog [] (mnextS zBy PG n now b Me has) := by
 have hN := h.n
 have ht := h.t
 have hbi := best_in h (Nat.le_refl N)
 have m0 : zCr In64 [(N : Int), t, zAk M N] := by
  unfold most at ht hbi
  exact ⟨zBx (by omega) (by omega), zBx (by omega) (by omega), zBx (by omega) (by omega), trivial⟩
 obtain ⟨E, hE⟩ : ∃ E, E = zCb ([(N : Int), t, zAk M N] ++ []) ([M] ++ []) := ⟨_, rfl⟩
 have e0 : (v 0).eval E = N := by rw [hE]; exact zDb rfl (by decide)
 have e1 : (v 1).eval E = t := by rw [hE]; exact zDb rfl (by decide)
 have e2 : (v 2).eval E = zAk M N := by rw [hE]; exact zDb rfl (by decide)
 have t0 : zAg (zAw E (.tab 128)) M := by rw [hE]; exact zHj rfl (by decide) (by decide)
 have run := run_mnF has
 refine zIl (mnextS zBy PG n now b Me has) (fxMnF has) (av := [.ptr PG 0]) (o := ⟨.ret, 1, [n, now, b], [Me]⟩) rfl rfl (goodMnF has) rfl rfl 3 1 (by decide) (by decide) (upsMnF has) rfl rfl rfl rfl (csMnF has) rfl (zJk (csMnF has).pc [mnS zBy PG (v 0) (v 1) (v 2) (.tab 128)] []) (sc0 := [(N : Int), t, zAk M N]) (scx := []) (sc1 := [(N : Int), t, zAk M N]) (tb0 := [M]) (tbx := []) (tb1 := [M]) hE
  (fun B V' hV' => zJc B V' (fun S hS => ?_) (fun S hS => by cases hS)) ?_ (zDt (.app (by rw [hE]; exact pcM_ok h.toRef rfl rfl) ?_)) m0 ⟨h.mid, trivial⟩ m0 ⟨h.mid, trivial⟩ rfl rfl ⟨e0, e1, e2, trivial⟩ ⟨t0, trivial⟩ ⟨hn, hnow, hb, trivial⟩ ⟨hM, trivial⟩ ⟨hn, hnow, hb, trivial⟩ ⟨hM, trivial⟩
 ·simp only [List.mem_cons, List.not_mem_nil, or_false] at hS
  subst hS
  refine @mn_proof ⟨_⟩ V' N t M (v 0) (v 1) (v 2) (.tab 128) h ?_ ?_ ?_ ?_
  all_goals rw [hV']
  ·exact e0
  ·exact e1
  ·exact t0
  ·exact e2
 ·exact run
 ·cases has with
  | false =>
   refine ⟨zEq ?_, trivial⟩
   rw [e2]
   have : ¬ 0 < zAk M N := fun g => by cases hh.2 g
   show _ = (0 : Int); omega
  | true =>
   refine ⟨zBz ?_, trivial⟩
   rw [e2]; exact hh.1 rfl
theorem intsN_proof : zAj Tryz.prog [] (intsN zDe) := by
 obtain ⟨E, hE⟩ : ∃ E, E = zCb ([] ++ []) ([] ++ []) := ⟨_, rfl⟩
 have run := run_isN
 refine zIl (intsN zDe) fxIsN (av := [nilS, nilS]) (o := ⟨.ret, 1, [], []⟩) rfl rfl goodIsN rfl rfl 0 0 (by decide) (by decide) upsIsN rfl rfl rfl rfl csIsN rfl (zJk csIsN.pc [] []) (sc0 := []) (scx := []) (sc1 := []) (tb0 := []) (tbx := []) (tb1 := []) hE
  (fun B V' hV' => zJc B V' (fun S hS => by cases hS) (fun S hS => by cases hS)) ?_ (zDt ⟨zEq rfl, trivial⟩) trivial trivial trivial trivial rfl rfl trivial trivial trivial trivial trivial trivial
 exact run
end
set_option maxRecDepth 1000000
theorem manyRnd (B : Nat) (pc : List (SB × Bool)) (env : Nat → Int) (ls : List zAd) (fs : List zAi) (hl : ∀ V : @zAc ⟨pc⟩, V.env = env → ∀ S ∈ ls, @zAp ⟨pc⟩ V Tryz.prog [] S) (h : ∀ V : @zAc ⟨pc⟩, V.env = env → ∀ S ∈ fs, @zAj ⟨pc⟩ V Tryz.prog [] S) :
  Rnd Tryz.prog B pc env (@manyLoops ⟨pc⟩ PG [] ls) (zJk pc ls fs) :=
 ⟨fun V hV => letI : Facts := ⟨pc⟩; letI := V; zDm (hl V hV), fun V hV => letI : Facts := ⟨pc⟩; letI := V; zEw (hl V hV) B, fun V hV => zJc B V (hl V hV) (h V hV)⟩
end Go.Proofs.YtaliacnncemneaaGreat.wheels
namespace Go.Proofs.Wheels
open Go.Abs
def lenM (i : Nat) : SE := v (3 + i)
def outM (G j : Nat) : AV := if j = 0 then nilS else .sl (G + 2) 0 1 j none
def rowM (G j : Nat) : List Blk := if j = 0 then [] else [.cells (Tr.fill ((List.range j).map fun i => ss (G + 3 + i) (lenM i)) 0 .lf) j (some 1)] ++ (List.range j).map fun i => T1 (129 + i) (lenM i)
def shMs0 (G j : Nat) : Shape := ⟨[(0, .ptr G 0), (1, X 2), (5, outM G j)], refB G ++ rowM G j⟩
def shMs (G j : Nat) : Shape := shMs0 G (min j 61)
def msS (g G j : Nat) (n now now' k k' M M' : SE) (ls ts : List SE) : zAd :=
 ⟨g, 5, 56, shMs G, [n, now, k] ++ List.replicate 61 (L 0), [M] ++ List.replicate 61 zS, nmR0, [⟨.exit 0, j, [n, now', k'] ++ ls, [M'] ++ ts⟩], 2⟩
def pcMs : List (SB × Bool) := pcM ++ inR (L 1) (v 2) (L 100000)
def dMs : SE := .sub (v 70) (v 1)
def fMsS (gN gT G : Nat) (some_ : Bool) : List zAi := [mnextS gN G (v 0) (v 1) (v 70) (.tab 128) some_] ++ (if some_ then [mtickS gT G (v 0) (add (v 70) (L (-1))) (v 70) (v 71) (.tab 128) (.tab 200) (.tab 201) true] else [])
def csMsE (j : Nat) : Case := ⟨pcM ++ [le (v 2) (L 0)], .exit 0, j, [], [], []⟩
def lens61 (j : Nat) (e : SE) : List SE := (List.range 61).map fun i => if i = j then e else lenM i
def tabs61 (j : Nat) (e : SE) : List SE := (List.range 61).map fun i => if i = j then e else .tab (129 + i)
def csMsN (j : Nat) : Case := ⟨pcMs, .exit 0, j, [v 0, add (v 1) (v 2), v 2] ++ lens61 61 (L 0), [.tab 128] ++ tabs61 61 zS, []⟩
def csMsF (j : Nat) : Case := ⟨pcMs ++ [nle dMs (v 2), le (L 1) dMs, le dMs (L most), le (L 1) (v 70), le (v 70) (L most)], .exit 0, j, [v 0, add (v 1) (v 2), v 2] ++ lens61 61 (L 0), [.tab 128] ++ tabs61 61 zS, []⟩
def nmMs (G j : Nat) : List Nat :=
 let n := if j = 0 then 2 else 3 + j
 [G, G + 1, G + (n + 2)] ++ ((List.range j).map fun i => G + (3 + i)) ++ [G + n]
def csMsT (G j : Nat) : Case := ⟨pcMs ++ [le dMs (v 2), le (L 1) dMs, le dMs (L most), le (L 1) (v 70), le (v 70) (L most), le (L 1) (v 71), le (v 71) (L 4096)], .normal, j + 1, [v 0, v 70, .sub (v 2) dMs] ++ lens61 j (v 71), [.tab 200] ++ tabs61 j (.tab 201), nmMs G j⟩
end Go.Proofs.Wheels
namespace Go.Proofs.YtaliacnncemneaaGreat.wheels
open Go.Abs Go.Proofs.Wheels
set_option maxRecDepth 1000000
noncomputable def runsMs (j : Nat) : Bool := zFp zJf 5 56 (shMs PG) 2 j (csMsE j) [] && (zFp zJf 5 56 (shMs PG) 2 j (csMsN j) (fMsS zBy zCw PG false) && (zFp zJf 5 56 (shMs PG) 2 j (csMsF j) (fMsS zBy zCw PG true) && zFp zJf 5 56 (shMs PG) 2 j (csMsT PG j) (fMsS zBy zCw PG true)))
theorem runsMs0 : (List.range 31).all runsMs = true := by kernel_rfl
theorem runsMs1 : (List.range 16).all (fun j => runsMs (31 + j)) = true := by kernel_rfl
theorem runsMs2 : (List.range 14).all (fun j => runsMs (47 + j)) = true := by kernel_rfl
theorem goodMs0 : (List.range 62).all (fun j => zBk PG (shMs PG j)) = true := by kernel_rfl
theorem upsMs0 : (List.range 62).all (fun j => (shMs PG j).ups 64 62) = true := by kernel_rfl
theorem isMs : ((Tryz.prog.funcs[zJf]?).bind (·.body)).map (fun c => zBm 5 (subs c)) = some [zEf zJf 5] := by kernel_rfl
theorem runsMs_at {j : Nat} (h : j ≤ 60) : zFp zJf 5 56 (shMs PG) 2 j (csMsE j) [] = true ∧ zFp zJf 5 56 (shMs PG) 2 j (csMsN j) (fMsS zBy zCw PG false) = true ∧ zFp zJf 5 56 (shMs PG) 2 j (csMsF j) (fMsS zBy zCw PG true) = true ∧ zFp zJf 5 56 (shMs PG) 2 j (csMsT PG j) (fMsS zBy zCw PG true) = true := by
 have part : ∀ {a n : Nat}, (List.range n).all (fun j => runsMs (a + j)) = true → a ≤ j → j < a + n → runsMs j = true := fun {a n} hr h1 h2 => by
  have := List.all_eq_true.1 hr (j - a) (List.mem_range.2 (by omega))
  rw [show a + (j - a) = j by omega] at this
  exact this
 have : runsMs j = true := by
  by_cases h0 : j < 31
  ·exact List.all_eq_true.1 runsMs0 j (List.mem_range.2 (by omega))
  by_cases h1 : j < 47
  ·exact part runsMs1 (by omega) (by omega)
  exact part runsMs2 (by omega) (by omega)
 unfold runsMs at this
 simp only [Bool.and_eq_true] at this
 exact this
theorem goodMs {j : Nat} : zBk PG (shMs PG j) = true := by
 have := List.all_eq_true.1 goodMs0 (min j 61) (List.mem_range.2 (by omega))
 have e : shMs PG j = shMs PG (min j 61) := by unfold shMs; rw [show min (min j 61) 61 = min j 61 by omega]
 rw [e]; exact this
theorem upsMs (j : Nat) : (shMs PG j).ups 64 62 = true := by
 have := List.all_eq_true.1 upsMs0 (min j 61) (List.mem_range.2 (by omega))
 have e : shMs PG j = shMs PG (min j 61) := by unfold shMs; rw [show min (min j 61) 61 = min j 61 by omega]
 rw [e]; exact this
theorem fxMs : zAl (shMs PG) 2 [false, false] := fun i => by
 refine ⟨?_, rfl, ?_⟩
 ·show 2 ≤ (refB PG ++ rowM PG (min i 61)).length
  rw [List.length_append]
  exact Nat.le_add_right 2 _
 ·show ((rowM PG (min i 61)).all fun x => !x.fixed) = true
  unfold rowM
  split
  ·rfl
  ·rw [List.all_eq_true]
   intro x hx
   rcases List.mem_append.1 hx with hx | hx
   ·simp only [List.mem_cons, List.not_mem_nil, or_false] at hx
    subst hx; rfl
   ·obtain ⟨k, _, rfl⟩ := List.mem_map.1 hx
    rfl
end Go.Proofs.YtaliacnncemneaaGreat.wheels
namespace Go.Proofs.Wheels
open Go.Abs
structure RS where
 M : TT
 now : Int
 k : Int
 past : List (List Int)
def RS.next (N : Nat) (x : RS) : RS := ⟨zHk x.M (zAk x.M N) N, zAk x.M N, x.k - (zAk x.M N - x.now), x.past ++ [zDp x.M (zAk x.M N) N]⟩
def RS.far (x : RS) : RS := { x with now := x.now + x.k }
def rsk (N : Nat) : Nat → RS → RS
 | 0, x => x
 | f + 1, x => if x.k ≤ 0 then x else if zAk x.M N = 0 ∨ x.k < zAk x.M N - x.now then x.far else rsk N f (x.next N)
theorem best_zero {M : TT} : ∀ {i : Nat}, (∀ k : Nat, k < i → 0 ≤ g0 M k) → zAk M i = 0 → ∀ k : Nat, k < i → g0 M k = 0 := by
 intro i
 induction i with
 | zero => intro _ _ k hk; omega
 | succ i ih =>
  intro h0 hb k hk
  have hi := h0 i (by omega)
  unfold zAk at hb
  split at hb
  ·rename_i h; omega
  ·rename_i h
   have hz : g0 M i = 0 := by
    rcases Int.lt_or_le 0 (g0 M i) with g | g
    ·exact absurd ⟨g, .inl hb⟩ h
    ·omega
   by_cases e : k = i
   ·subst e; exact hz
   ·exact ih (fun k hk => h0 k (by omega)) hb k (by omega)
theorem zOb {M : TT} : ∀ {i : Nat}, (∀ k : Nat, k < i → 0 ≤ g0 M k) → 0 < zAk M i → (∃ k : Nat, k < i ∧ g0 M k = zAk M i) ∧ ∀ k : Nat, k < i → g0 M k ≠ 0 → zAk M i ≤ g0 M k := by
 intro i
 induction i with
 | zero => intro _ h; exact absurd h (by show ¬ (0 : Int) < 0; omega)
 | succ i ih =>
  intro h0 hb
  have hi := h0 i (by omega)
  have h0' : ∀ k : Nat, k < i → 0 ≤ g0 M k := fun k hk => h0 k (by omega)
  by_cases h : 0 < g0 M i ∧ (zAk M i = 0 ∨ g0 M i < zAk M i)
  ·have e : zAk M (i + 1) = g0 M i := if_pos h
   rw [e]
   refine ⟨⟨i, by omega, rfl⟩, fun k hk hne => ?_⟩
   by_cases ek : k = i
   ·subst ek; exact Int.le_refl _
   ·rcases h.2 with g | g
    ·exact absurd (best_zero h0' g k (by omega)) hne
    ·have := (ih h0' (by omega)).2 k (by omega) hne
     omega
  ·have e : zAk M (i + 1) = zAk M i := if_neg h
   rw [e] at hb ⊢
   obtain ⟨⟨k, k1, k2⟩, k3⟩ := ih h0' hb
   refine ⟨⟨k, by omega, k2⟩, fun x hx hne => ?_⟩
   by_cases ek : x = i
   ·subst ek
    rcases Int.lt_or_le (g0 M x) (zAk M x) with g | g
    ·exact absurd ⟨by omega, .inr g⟩ h
    ·exact g
   ·exact k3 x (by omega) hne
def waitM (M : TT) (N : Nat) : Int := zLf (fun t => !decide (g0 M t = 0)) N
theorem due_wait {M : TT} {t : Int} (ht : t ≠ 0) {N : Nat} : waitM (zHk M t N) N = waitM M N - (zDp M t N).length := by
 have : ∀ i : Nat, i ≤ N → zLf (fun k => !decide (g0 (zHk M t N) k = 0)) i = zLf (fun k => !decide (g0 M k = 0)) i - (zDp M t i).length := by
  intro i
  induction i with
  | zero => intro _; show (0 : Int) = 0 - 0; omega
  | succ i ih =>
   intro hi
   have u : ∀ p : Int → Bool, zLf p (i + 1) = zLf p i + b2i (p i) := fun _ => rfl
   rw [u, u, ih (by omega), dueT_at (by omega)]
   have el : zDp M t (i + 1) = if g0 M i = t then zDp M t i ++ [(i : Int)] else zDp M t i := rfl
   rw [el]
   by_cases h : g0 M i = t
   ·rw [if_pos h, if_pos ⟨by omega, h⟩, h, decide_eq_true rfl, decide_eq_false ht, List.length_append]
    show _ + 0 = _ + 1 - _
    simp
    omega
   ·rw [if_neg h, if_neg (fun g => h g.2)]
    omega
 exact this N (Nat.le_refl _)
structure RInv (N : Nat) (x : RS) : Prop where
 n : 1 ≤ N ∧ N ≤ 4096
 now0 : 0 ≤ x.now
 now : x.now + x.k ≤ 999000000 ∧ x.now ≤ 999000000
 mid : zDc x.M
 w : ∀ t : Int, 0 ≤ t → t < N → g0 x.M t = 0 ∨ (x.now < g0 x.M t ∧ g0 x.M t ≤ most)
 k : x.k ≤ 100000 ∧ -9000000000000000000 ≤ x.k
 past : ∀ l ∈ x.past, l.length ≤ 4096 ∧ ∀ t ∈ l, 0 ≤ t ∧ t < N
 room : (x.past.length : Int) + waitM x.M N ≤ 60
theorem waitM_pos {M : TT} {N : Nat} : 0 ≤ waitM M N := zKp.1
theorem RInv.pos {N : Nat} {x : RS} (h : RInv N x) : ∀ k : Nat, k < N → 0 ≤ g0 x.M k := fun k hk => by
 have := h.now0
 rcases h.w k (by omega) (by omega) with g | g
 ·omega
 ·omega
theorem RInv.best {N : Nat} {x : RS} (h : RInv N x) (hb : zAk x.M N ≠ 0) : x.now < zAk x.M N ∧ zAk x.M N ≤ most ∧ zDp x.M (zAk x.M N) N ≠ [] := by
 have hpos : 0 < zAk x.M N := by
  have : ∀ i : Nat, i ≤ N → 0 ≤ zAk x.M i := by
   intro i
   induction i with
   | zero => intro _; exact Int.le_refl _
   | succ i ih =>
    intro hi
    have := ih (by omega)
    unfold zAk
    split
    ·omega
    ·exact this
  have := this N (Nat.le_refl _)
  omega
 obtain ⟨⟨k, k1, k2⟩, _⟩ := zOb h.pos hpos
 have h0 := h.now0
 refine ⟨?_, ?_, fun e => ?_⟩
 ·rcases h.w k (by omega) (by omega) with g | g
  ·omega
  ·omega
 ·rcases h.w k (by omega) (by omega) with g | g
  ·omega
  ·omega
 ·have : (k : Int) ∈ zDp x.M (zAk x.M N) N := zMz.2 ⟨by omega, by omega, k2⟩
  rw [e] at this
  cases this
theorem up_mid0 {M : TT} {t : Int} (h : zDc M) : ∀ {i : Nat}, zDc (zHk M t i) := by
 intro i
 induction i with
 | zero => exact h
 | succ i ih =>
  unfold zHk
  split
  ·exact ih.up (by unfold In64; omega)
  ·exact ih
theorem RInv.next {N : Nat} {x : RS} (h : RInv N x) (hk : 1 ≤ x.k) (hb : zAk x.M N ≠ 0) (hd : zAk x.M N - x.now ≤ x.k) : RInv N (x.next N) ∧ (x.past.length : Int) + 1 ≤ 60 := by
 obtain ⟨b1, b2, b3⟩ := h.best hb
 have h0 := h.now0
 have hnow := h.now
 have hroom := h.room
 have hkk := h.k
 have hw := due_wait (M := x.M) (t := zAk x.M N) (by omega) (N := N)
 have hl : 1 ≤ (zDp x.M (zAk x.M N) N).length := by
  cases e : zDp x.M (zAk x.M N) N with
  | nil => exact absurd e b3
  | cons a l => simp
 have hwp := waitM_pos (M := zHk x.M (zAk x.M N) N) (N := N)
 have hlen := zKo (M := x.M) (t := zAk x.M N) (i := N)
 have hn := h.n
 obtain ⟨_, least⟩ := zOb h.pos (show 0 < zAk x.M N by omega)
 refine ⟨⟨h.n, by show 0 ≤ zAk x.M N; omega, by show zAk x.M N + (x.k - (zAk x.M N - x.now)) ≤ _ ∧ zAk x.M N ≤ _; omega, up_mid0 h.mid, fun t t0 t1 => ?_, by show x.k - (zAk x.M N - x.now) ≤ _ ∧ _ ≤ x.k - (zAk x.M N - x.now); omega, fun l hl => ?_, ?_⟩, by omega⟩
 ·show g0 (zHk x.M (zAk x.M N) N) t = 0 ∨ (zAk x.M N < g0 (zHk x.M (zAk x.M N) N) t ∧ g0 (zHk x.M (zAk x.M N) N) t ≤ most)
  rw [dueT_at t0]
  by_cases e : t < N ∧ g0 x.M t = zAk x.M N
  ·rw [if_pos e]; exact .inl rfl
  ·rw [if_neg e]
   rcases h.w t t0 t1 with g | g
   ·exact .inl g
   ·refine .inr ⟨?_, g.2⟩
    have := least t.toNat (by omega) (by rw [Int.toNat_of_nonneg t0]; omega)
    rw [Int.toNat_of_nonneg t0] at this
    have : g0 x.M t ≠ zAk x.M N := fun e' => e ⟨t1, e'⟩
    omega
 ·rcases List.mem_append.1 hl with hl | hl
  ·exact h.past l hl
  ·simp only [List.mem_cons, List.not_mem_nil, or_false] at hl
   subst hl
   refine ⟨by omega, fun t ht => ?_⟩
   have := zMz.1 ht
   omega
 ·show ((x.past ++ [zDp x.M (zAk x.M N) N]).length : Int) + waitM (zHk x.M (zAk x.M N) N) N ≤ 60
  rw [hw, List.length_append]
  show ((x.past.length + 1 : Nat) : Int) + _ ≤ 60
  omega
def zNk (p : List (List Int)) (i : Nat) : Int := ((p[i]?).map fun l => (l.length : Int)).getD 0
def zOy (p : List (List Int)) (i : Nat) : TT := ((p[i]?).map zAs).getD zBj
theorem lenP_more {p : List (List Int)} {l : List Int} {i : Nat} : zNk (p ++ [l]) i = if i = p.length then (l.length : Int) else zNk p i := by
 unfold zNk
 by_cases h : i < p.length
 ·rw [List.getElem?_append_left h, if_neg (by omega)]
 ·rw [List.getElem?_append_right (by omega)]
  by_cases e : i = p.length
  ·subst e
   rw [if_pos rfl, Nat.sub_self]; rfl
  ·rw [if_neg e, List.getElem?_eq_none (l := p) (by omega)]
   obtain ⟨d, hd⟩ : ∃ d, i - p.length = d + 1 := ⟨i - p.length - 1, by omega⟩
   rw [hd]; rfl
theorem tabP_more {p : List (List Int)} {l : List Int} {i : Nat} : zOy (p ++ [l]) i = if i = p.length then zAs l else zOy p i := by
 unfold zOy
 by_cases h : i < p.length
 ·rw [List.getElem?_append_left h, if_neg (by omega)]
 ·rw [List.getElem?_append_right (by omega)]
  by_cases e : i = p.length
  ·subst e
   rw [if_pos rfl, Nat.sub_self]; rfl
  ·rw [if_neg e, List.getElem?_eq_none (l := p) (by omega)]
   obtain ⟨d, hd⟩ : ∃ d, i - p.length = d + 1 := ⟨i - p.length - 1, by omega⟩
   rw [hd]; rfl
theorem range_get {α : Type} {f : Nat → α} {n i : Nat} {a : α} (h : ((List.range n).map f)[i]? = some a) : i < n ∧ a = f i := by
 rw [List.getElem?_map, Option.map_eq_some_iff] at h
 obtain ⟨x, h1, h2⟩ := h
 obtain ⟨h3, h4⟩ := List.getElem?_eq_some_iff.1 h1
 simp at h3
 rw [List.getElem_range] at h4
 exact ⟨h3, by rw [← h2, h4]⟩
theorem zLb {α β : Type} {p : α → β → Prop} {n : Nat} {f : Nat → α} {g : Nat → β} (h : ∀ i, i < n → p (f i) (g i)) : zOt p ((List.range n).map f) ((List.range n).map g) :=
 .of_get (by simp) fun i a b ha hb => by
  obtain ⟨h1, rfl⟩ := range_get ha
  obtain ⟨_, rfl⟩ := range_get hb
  exact h i h1
theorem range1 {α : Type} {p : α → Prop} {n : Nat} {f : Nat → α} (h : ∀ i, i < n → p (f i)) : zCr p ((List.range n).map f) :=
 .of fun x hx => by
  obtain ⟨i, hi, rfl⟩ := List.mem_map.1 hx
  exact h i (List.mem_range.1 hi)
theorem repl2 {α β : Type} {p : α → β → Prop} {n : Nat} {a : α} {g : Nat → β} (h : ∀ i, i < n → p a (g i)) : zOt p (List.replicate n a) ((List.range n).map g) :=
 .of_get (by simp) fun i x b hx hb => by
  obtain ⟨h1, rfl⟩ := range_get hb
  have : x = a := List.eq_of_mem_replicate (List.mem_of_getElem? hx)
  subst this
  exact h i h1
end Go.Proofs.Wheels
namespace Go.Proofs.YtaliacnncemneaaGreat.wheels
open Go.Abs Go.Proofs.Wheels
def scMs (N : Nat) (x : RS) : List Int := [(N : Int), x.now, x.k] ++ (List.range 61).map (zNk x.past)
def scxMs (N : Nat) (x : RS) : List Int := [0, 0, 0, 0, 0, 0, zAk x.M N, ((zDp x.M (zAk x.M N) N).length : Int)]
def tbMs (x : RS) : List TT := [x.M] ++ (List.range 61).map (zOy x.past)
def tbxMs (N : Nat) (x : RS) : List TT := [zBj, zBj, zBj, zBj, zBj, zBj, zBj, zBj, zBj, zBj, zHk x.M (zAk x.M N) N, zAs (zDp x.M (zAk x.M N) N)]
theorem lenP_le {N : Nat} {p : List (List Int)} (h : ∀ l ∈ p, l.length ≤ 4096 ∧ ∀ t ∈ l, 0 ≤ t ∧ t < (N : Int)) (i : Nat) : 0 ≤ zNk p i ∧ zNk p i ≤ 4096 := by
 unfold zNk
 cases e : p[i]? with
 | none => exact ⟨Int.le_refl _, by show (0 : Int) ≤ 4096; omega⟩
 | some l =>
  have := (h l (List.mem_of_getElem? e)).1
  show 0 ≤ (l.length : Int) ∧ (l.length : Int) ≤ 4096
  omega
theorem tabP_mid {N : Nat} {p : List (List Int)} (hN : N ≤ 4096) (h : ∀ l ∈ p, l.length ≤ 4096 ∧ ∀ t ∈ l, 0 ≤ t ∧ t < (N : Int)) (i : Nat) : zDc (zOy p i) := by
 unfold zOy
 cases e : p[i]? with
 | none => exact zAy
 | some l =>
  have hp := (h l (List.mem_of_getElem? e)).2
  exact zBf fun t ht => by
   have := hp t ht
   exact zBx (by omega) (by omega)
theorem zPe {N : Nat} {x : RS} (h : RInv N x) : RefT N x.now x.M := by
 have h0 := h.now0
 have hnow := h.now
 refine ⟨⟨h.n, by unfold most; omega, h.mid⟩, fun k k0 k1 => ?_⟩
 rcases h.w k k0 k1 with g | g
 ·rw [g]; exact ⟨Int.le_refl _, by show (0 : Int) ≤ 1000000000; omega⟩
 ·omega
structure RMid (N : Nat) (x : RS) : Prop where
 ref : RefT N x.now x.M
 k : x.k ≤ 100000 ∧ -9000000000000000000 ≤ x.k
 past : ∀ l ∈ x.past, l.length ≤ 4096 ∧ ∀ t ∈ l, 0 ≤ t ∧ t < (N : Int)
theorem rinv_mid {N : Nat} {x : RS} (h : RInv N x) : RMid N x := ⟨zPe h, h.k, h.past⟩
theorem far_mid {N : Nat} {x : RS} (h : RInv N x) (hk : 0 ≤ x.k) : RMid N x.far := by
 have r := zPe h
 have h0 := h.now0
 have hnow := h.now
 exact ⟨⟨⟨h.n, by show 0 ≤ x.now + x.k ∧ x.now + x.k ≤ 1000000000; omega, h.mid⟩, r.w⟩, h.k, h.past⟩
theorem ms_mid {N : Nat} {x : RS} (h : RMid N x) : zCr In64 (scMs N x ++ scxMs N x) ∧ zCr zDc (tbMs x ++ tbxMs N x) := by
 have hn := h.ref.n
 have h0 := h.ref.t
 have hk := h.k
 have hb := best_in h.ref (Nat.le_refl N)
 unfold most at hb h0
 have hl := zKo (M := x.M) (t := zAk x.M N) (i := N)
 have z : In64 0 := zBx (by omega) (by omega)
 exact ⟨.app (.app ⟨zBx (by omega) (by omega), zBx (by omega) (by omega), by unfold In64; omega, trivial⟩ (range1 fun i _ => by
   have := lenP_le h.past i
   exact zBx (by omega) (by omega))) ⟨z, z, z, z, z, z, zBx (by omega) (by omega), zBx (by omega) (by omega), trivial⟩,
  .app (.app ⟨h.ref.mid, trivial⟩ (range1 fun i _ => tabP_mid hn.2 h.past i)) ⟨zAy, zAy, zAy, zAy, zAy, zAy, zAy, zAy, zAy, zAy, dueT_mid h.ref.mid, zMy hn.2, trivial⟩⟩
def FunProofs (fs : List zAi) (env : Nat → Int) : Prop := ∀ {pc : List (SB × Bool)} (V : @zAc ⟨pc⟩), V.env = env → ∀ S ∈ fs, @zAj ⟨pc⟩ V Tryz.prog [] S
theorem mt70 {N : Nat} {y : RS} {E : Nat → Int} (hy : RInv N y) (hb0 : zAk y.M N ≠ 0) (e0 : (v 0).eval E = N) (e70 : (v 70).eval E = zAk y.M N) (e71 : (v 71).eval E = (zDp y.M (zAk y.M N) N).length) (t0 : zAg (zAw E (.tab 128)) y.M) (t200 : zAg (zAw E (.tab 200)) (zHk y.M (zAk y.M N) N)) (t201 : zAg (zAw E (.tab 201)) (zAs (zDp y.M (zAk y.M N) N)))
  {pc : List (SB × Bool)} (V : @zAc ⟨pc⟩) (hV : V.env = E) : @zAj ⟨pc⟩ V Tryz.prog [] (mtickS zCw PG (v 0) (add (v 70) (L (-1))) (v 70) (v 71) (.tab 128) (.tab 200) (.tab 201) true) := by
 obtain ⟨b1, b2, b3⟩ := hy.best hb0
 have h0 := hy.now0
 have hb : zAk y.M N - 1 + 1 = zAk y.M N := by omega
 refine @mtick_proof ⟨_⟩ V N (zAk y.M N - 1) y.M (v 0) (add (v 70) (L (-1))) (v 71) (.tab 128) (.tab 200) (.tab 201) (v 70) ⟨hy.n, by omega, hy.mid⟩ (by omega) ?_ ?_ ?_ ?_ ?_ ?_ ?_ true ?_
 all_goals try rw [hV]
 ·exact e0
 ·show (v 70).eval E + (-1) = _
  rw [e70]; omega
 ·rw [e70]; omega
 ·exact t0
 ·rw [hb]; exact e71
 ·rw [hb]; exact t200
 ·rw [hb]; exact t201
 ·rw [hb]; exact ⟨fun _ => b3, fun _ => rfl⟩
section
variable [F : Facts] [V : zAc] {N : Nat}
theorem ms_proof {x e : RS} {f : Nat} (h : RInv N x) (hp : x.past = []) (hf : x.k ≤ f) (he : rsk N f x = e) {n now now' k k' M M' : SE} {ls ts : List SE} (hls : ls.length = 61) (hts : ts.length = 61) (hn : n.eval V.env = N) (hnow : now.eval V.env = x.now) (hk : k.eval V.env = x.k) (hM : zAg (zAw V.env M) x.M)
  (hnow' : now'.eval V.env = e.now) (hk' : k'.eval V.env = e.k) (hM' : zAg (zAw V.env M') e.M) (hl : Ev V.env ls ((List.range 61).map (zNk e.past))) (ht : Rw V.env ts ((List.range 61).map (zOy e.past))) : zAp Tryz.prog [] (msS zJf PG e.past.length n now now' k k' M M' ls ts) := by
 have hN := h.n
 obtain ⟨E, hE⟩ : ∃ E : RS → Nat → Int, E = fun x => zCb (scMs N x ++ scxMs N x) (tbMs x ++ tbxMs N x) := ⟨_, rfl⟩
 refine zId (key := 5) (msS zJf PG e.past.length n now now' k k' M M' ls ts) isMs fxMs (o := ⟨.exit 0, e.past.length, [n, now', k'] ++ ls, [M'] ++ ts⟩) rfl goodMs E (scMs N) (scxMs N) tbMs (tbxMs N) (fun x => by rw [hE]) 64 62 (by decide) (by decide) upsMs rfl rfl (by show (ls.length + 1 + 1 + 1) = 64; omega) (by show (ts.length + 1) = 62; omega)
  (I := fun μ j y => j = y.past.length ∧ RInv N y ∧ rsk N μ y = e ∧ y.k ≤ μ) (Post := fun y => y = e) (fun μ j y hI => ms_mid (rinv_mid hI.2.1)) (fun B μ j y hI => ?_) f x ⟨by rw [hp]; rfl, h, he, hf⟩ ?_ ?_ (fun y hq => ?_)
 ·obtain ⟨rfl, hy, hr, hkf⟩ := hI
  have hroom := hy.room
  have hwp := waitM_pos (M := y.M) (N := N)
  obtain ⟨r1, r2, r3, r4⟩ := runsMs_at (j := y.past.length) (by omega)
  have e0 : (v 0).eval (E y) = N := by rw [hE]; exact zDb rfl (by decide)
  have e1 : (v 1).eval (E y) = y.now := by rw [hE]; exact zDb rfl (by decide)
  have e2 : (v 2).eval (E y) = y.k := by rw [hE]; exact zDb rfl (by decide)
  have e70 : (v 70).eval (E y) = zAk y.M N := by
   rw [hE]
   refine zDb ?_ (by decide)
   rw [List.getElem?_append_right (by simp [scMs])]
   simp [scMs, scxMs]
  have e71 : (v 71).eval (E y) = (zDp y.M (zAk y.M N) N).length := by
   rw [hE]
   refine zDb ?_ (by decide)
   rw [List.getElem?_append_right (by simp [scMs])]
   simp [scMs, scxMs]
  have t0 : zAg (zAw (E y) (.tab 128)) y.M := by rw [hE]; exact zHj rfl (by decide) (by decide)
  have t200 : zAg (zAw (E y) (.tab 200)) (zHk y.M (zAk y.M N) N) := by
   rw [hE]
   refine zHj ?_ (by decide) (by decide)
   rw [List.getElem?_append_right (by simp [tbMs])]
   simp [tbMs, tbxMs]
  have t201 : zAg (zAw (E y) (.tab 201)) (zAs (zDp y.M (zAk y.M N) N)) := by
   rw [hE]
   refine zHj ?_ (by decide) (by decide)
   rw [List.getElem?_append_right (by simp [tbMs])]
   simp [tbMs, tbxMs]
  have el : ∀ i, i < 61 → (lenM i).eval (E y) = zNk y.past i := fun i hi => by
   rw [hE]
   refine zDb ?_ (by omega)
   rw [List.getElem?_append_left (by simp [scMs]; omega)]
   show ([(N : Int), y.now, y.k] ++ (List.range 61).map (zNk y.past))[3 + i]? = _
   rw [List.getElem?_append_right (by simp), List.getElem?_map, show 3 + i - [(N : Int), y.now, y.k].length = i by simp, List.getElem?_range hi]
   rfl
  have et : ∀ i, i < 61 → zAg (zAw (E y) (.tab (129 + i))) (zOy y.past i) := fun i hi => by
   rw [hE]
   refine zHj ?_ (by omega) (by omega)
   rw [List.getElem?_append_left (by simp [tbMs]; omega)]
   show ([y.M] ++ (List.range 61).map (zOy y.past))[129 + i - 128]? = _
   rw [List.getElem?_append_right (by simp; omega), List.getElem?_map, show 129 + i - 128 - [y.M].length = i by simp; omega, List.getElem?_range hi]
   rfl
  have hm : zCr (Says (E y)) pcM := by rw [hE]; exact pcM_ok (zPe hy).toRef rfl rfl
  have hkk := hy.k
  by_cases hk0 : y.k ≤ 0
  ·have hye : y = e := by
    cases μ with
    | zero => exact hr
    | succ μ =>
     unfold rsk at hr
     rw [if_pos hk0] at hr
     exact hr
   refine ⟨csMsE y.past.length, y, noLoops, zCg (csMsE y.past.length).pc [], zDo B _ _ _ (fun V hV S hS => by cases hS), r1, zDt (.app hm ⟨zAm (by rw [e2]; exact hk0), trivial⟩), .inl ⟨rfl, rfl, rfl⟩, .inr ⟨by simp [csMsE], rfl, by rw [← hye]; rfl, hye, ms_mid (rinv_mid hy)⟩⟩
  ·obtain ⟨m, rfl⟩ : ∃ m, μ = m + 1 := ⟨μ - 1, by omega⟩
   unfold rsk at hr
   rw [if_neg hk0] at hr
   have base : zCr (Says (E y)) pcMs := .app hm ⟨zAm (by rw [e2]; show (1 : Int) ≤ _; omega), zAm (by rw [e2]; show _ ≤ (100000 : Int); omega), trivial⟩
   have hfar := far_mid hy (by omega)
   have lfar : Ev (E y) ([v 0, add (v 1) (v 2), v 2] ++ lens61 61 (L 0)) (scMs N y.far) := by
    refine zOt.app ⟨e0, ?_, e2, trivial⟩ (zLb fun i hi => ?_)
    ·show (v 1).eval (E y) + (v 2).eval (E y) = y.now + y.k
     rw [e1, e2]
    ·show (if i = 61 then L 0 else lenM i).eval (E y) = _
     rw [if_neg (by omega)]
     exact el i hi
   have tfar : Rw (E y) ([.tab 128] ++ tabs61 61 zS) (tbMs y.far) := by
    refine zOt.app ⟨t0, trivial⟩ (zLb fun i hi => ?_)
    show zAg (zAw (E y) (if i = 61 then zS else .tab (129 + i))) _
    rw [if_neg (by omega)]
    exact et i hi
   have nx : ∀ b : Bool, (b = true ↔ 0 < zAk y.M N) → ∀ {pc : List (SB × Bool)} (V' : @zAc ⟨pc⟩), V'.env = E y → @zAj ⟨pc⟩ V' Tryz.prog [] (mnextS zBy PG (v 0) (v 1) (v 70) (.tab 128) b) := fun b hb pc V' hV => by
    refine @mnext_proof ⟨_⟩ V' N y.now y.M (v 0) (v 1) (v 70) (.tab 128) (zPe hy) ?_ ?_ ?_ ?_ b hb
    all_goals rw [hV]
    ·exact e0
    ·exact e1
    ·exact t0
    ·exact e70
   by_cases hb0 : zAk y.M N = 0
   ·rw [if_pos (.inl hb0)] at hr
    refine ⟨csMsN y.past.length, y.far, noLoops, zCg (csMsN y.past.length).pc (fMsS zBy zCw PG false), zDo B _ _ _ (fun V hV S hS => ?_), r2, zDt base, .inr ⟨rfl, rfl, lfar, tfar⟩, .inr ⟨by simp [csMsN], rfl, by rw [← hr]; rfl, hr, ms_mid hfar⟩⟩
    simp only [fMsS, Bool.false_eq_true, if_false, List.append_nil, List.mem_cons, List.not_mem_nil, or_false] at hS
    subst hS
    exact nx false ⟨fun g => (by cases g), fun g => (by omega)⟩ V hV
   ·obtain ⟨b1, b2, b3⟩ := hy.best hb0
    have hbp : 0 < zAk y.M N := by
     have := hy.now0
     omega
    have ed : dMs.eval (E y) = zAk y.M N - y.now := by
     show (v 70).eval (E y) - (v 1).eval (E y) = _
     rw [e70, e1]
    have hnow0 := hy.now0
    have d1 : Says (E y) (le (L 1) dMs) := zAm (by rw [ed]; show (1 : Int) ≤ _; omega)
    have d2 : Says (E y) (le dMs (L most)) := zAm (by rw [ed]; show _ ≤ most; omega)
    have d3 : Says (E y) (le (L 1) (v 70)) := zAm (by rw [e70]; show (1 : Int) ≤ _; omega)
    have d4 : Says (E y) (le (v 70) (L most)) := zAm (by rw [e70]; exact b2)
    by_cases hd : y.k < zAk y.M N - y.now
    ·rw [if_pos (.inr hd)] at hr
     have tk : FunProofs (fMsS zBy zCw PG true) (E y) := fun {pc} V' hV S hS => by
      simp only [fMsS, if_true, List.mem_append, List.mem_cons, List.not_mem_nil, or_false] at hS
      rcases hS with rfl | rfl
      ·exact nx true ⟨fun _ => hbp, fun _ => rfl⟩ V' hV
      ·exact mt70 hy hb0 e0 e70 e71 t0 t200 t201 V' hV
     refine ⟨csMsF y.past.length, y.far, noLoops, zCg (csMsF y.past.length).pc (fMsS zBy zCw PG true), zDo B _ _ _ (fun V hV S hS => tk V hV S hS), r3, zDt (.app base ⟨zBz (by rw [ed, e2]; omega), d1, d2, d3, d4, trivial⟩), .inr ⟨rfl, rfl, lfar, tfar⟩, .inr ⟨by simp [csMsF], rfl, by rw [← hr]; rfl, hr, ms_mid hfar⟩⟩
    ·rw [if_neg (fun g => g.elim hb0 hd)] at hr
     have tk : FunProofs (fMsS zBy zCw PG true) (E y) := fun {pc} V' hV S hS => by
      simp only [fMsS, if_true, List.mem_append, List.mem_cons, List.not_mem_nil, or_false] at hS
      rcases hS with rfl | rfl
      ·exact nx true ⟨fun _ => hbp, fun _ => rfl⟩ V' hV
      ·exact mt70 hy hb0 e0 e70 e71 t0 t200 t201 V' hV
     obtain ⟨hnx, _⟩ := hy.next (by omega) hb0 (by omega)
     have hl1 : 1 ≤ (zDp y.M (zAk y.M N) N).length := by
      cases e : zDp y.M (zAk y.M N) N with
      | nil => exact absurd e b3
      | cons a l => simp
     have hlen := zKo (M := y.M) (t := zAk y.M N) (i := N)
     refine ⟨csMsT PG y.past.length, y.next N, noLoops, zCg (csMsT PG y.past.length).pc (fMsS zBy zCw PG true), zDo B _ _ _ (fun V hV S hS => tk V hV S hS), r4, zDt (.app base ⟨zAm (by rw [ed, e2]; omega), d1, d2, d3, d4, zAm (by rw [e71]; show (1 : Int) ≤ _; omega), zAm (by rw [e71]; show _ ≤ (4096 : Int); omega), trivial⟩), .inr ⟨rfl, rfl, ?_, ?_⟩, .inl ⟨rfl, m, by omega, by show y.past.length + 1 = (y.past ++ [zDp y.M (zAk y.M N) N]).length; simp, hnx, hr, by show y.k - (zAk y.M N - y.now) ≤ (m : Int); omega⟩⟩
     ·refine zOt.app ⟨e0, e70, ?_, trivial⟩ (zLb fun i hi => ?_)
      ·show (v 2).eval (E y) - dMs.eval (E y) = y.k - (zAk y.M N - y.now)
       rw [e2, ed]
      ·show (if i = y.past.length then v 71 else lenM i).eval (E y) = zNk (y.past ++ [zDp y.M (zAk y.M N) N]) i
       rw [lenP_more]
       by_cases e : i = y.past.length
       ·rw [if_pos e, if_pos e]; exact e71
       ·rw [if_neg e, if_neg e]; exact el i hi
     ·refine zOt.app ⟨t200, trivial⟩ (zLb fun i hi => ?_)
      show zAg (zAw (E y) (if i = y.past.length then .tab 201 else .tab (129 + i))) (zOy (y.past ++ [zDp y.M (zAk y.M N) N]) i)
      rw [tabP_more]
      by_cases e : i = y.past.length
      ·rw [if_pos e, if_pos e]; exact t201
      ·rw [if_neg e, if_neg e]; exact et i hi
 ·refine zOt.app ⟨hn, hnow, hk, trivial⟩ (repl2 fun i hi => ?_)
  rw [hp]; rfl
 ·refine zOt.app ⟨hM, trivial⟩ (repl2 fun i hi => ?_)
  rw [hp]; exact zDq _
 ·subst hq
  exact ⟨zOt.app ⟨hn, hnow', hk', trivial⟩ hl, zOt.app ⟨hM', trivial⟩ ht⟩
end
end Go.Proofs.YtaliacnncemneaaGreat.wheels
namespace Go.Proofs.Wheels
open Go.Abs
theorem asc_ext : ∀ {l m : List Int}, l.Pairwise (· < ·) → m.Pairwise (· < ·) → (∀ x, x ∈ l ↔ x ∈ m) → l = m := by
 intro l
 induction l with
 | nil =>
  intro m _ _ h
  cases m with
  | nil => rfl
  | cons b m => exact absurd ((h b).2 (.head _)) (by simp)
 | cons a l ih =>
  intro m hl hm h
  cases m with
  | nil => exact absurd ((h a).1 (.head _)) (by simp)
  | cons b m =>
   have hl' := List.pairwise_cons.1 hl
   have hm' := List.pairwise_cons.1 hm
   have e : a = b := by
    rcases List.mem_cons.1 ((h a).1 (.head _)) with g | g
    ·exact g
    ·rcases List.mem_cons.1 ((h b).2 (.head _)) with g' | g'
     ·exact g'.symm
     ·have := hm'.1 a g
      have := hl'.1 b g'
      omega
   subst e
   rw [ih hl'.2 hm'.2 fun x => ?_]
   refine ⟨fun hx => ?_, fun hx => ?_⟩
   ·rcases List.mem_cons.1 ((h x).1 (.tail _ hx)) with g | g
    ·have := hl'.1 x hx
     omega
    ·exact g
   ·rcases List.mem_cons.1 ((h x).2 (.tail _ hx)) with g | g
    ·have := hm'.1 x hx
     omega
    ·exact g
theorem dueL_asc {M : TT} {t : Int} : ∀ {i : Nat}, (zDp M t i).Pairwise (· < ·) := by
 intro i
 induction i with
 | zero => exact .nil
 | succ i ih =>
  unfold zDp
  split
  ·refine List.pairwise_append.2 ⟨ih, List.pairwise_singleton _ _, fun a ha b hb => ?_⟩
   have := zMz.1 ha
   simp only [List.mem_cons, List.not_mem_nil, or_false] at hb
   omega
  ·exact ih
theorem dueT_none {M : TT} {t : Int} : ∀ {i : Nat}, zDp M t i = [] → zHk M t i = M := by
 intro i
 induction i with
 | zero => intro _; rfl
 | succ i ih =>
  intro h
  unfold zDp at h
  unfold zHk
  split at h
  ·simp at h
  ·rename_i g
   rw [if_neg g]
   exact ih h
theorem wakes_col : ∀ {l : List Int} {s : WS} {r c : Nat}, c ≠ 0 → (WS.wakes l s).when_ r c = s.when_ r c := by
 intro l
 induction l with
 | nil => intro s r c _; rfl
 | cons t l ih =>
  intro s r c hc
  show (WS.wakes l (s.wake t)).when_ r c = _
  rw [ih hc]
  show up s.when_ t 0 r c = _
  unfold up
  rw [if_neg (fun h => hc h.2)]
theorem dueT_eq {M M' : TT} {t : Int} (h : zAg M M') : ∀ i : Nat, zAg (zHk M t i) (zHk M' t i) := by
 intro i
 induction i with
 | zero => exact h
 | succ i ih =>
  unfold zHk
  rw [h.g]
  split
  ·exact zEd ih rfl rfl
  ·exact ih
theorem dueL_eq {M M' : TT} {t : Int} (h : zAg M M') : ∀ i : Nat, zDp M t i = zDp M' t i := by
 intro i
 induction i with
 | zero => rfl
 | succ i ih =>
  unfold zDp
  rw [h.g, ih]
theorem bestM_eq {M M' : TT} (h : zAg M M') : ∀ i : Nat, zAk M i = zAk M' i := by
 intro i
 induction i with
 | zero => rfl
 | succ i ih =>
  unfold zAk
  rw [h.g, ih]
end Go.Proofs.Wheels
namespace Go.Proofs.YtaliacnncemneaaGreat.wheels
open Go.Abs Go.Proofs.Wheels
theorem sorted_asc {l : List Int} (h : l.Nodup) : (sorted l).Pairwise (· < ·) := by
 have hp : (sorted l).Pairwise (fun a b => decide (a ≤ b) = true) := List.pairwise_mergeSort (le := fun x y => decide (x ≤ y)) (fun a b c h1 h2 => by simp at *; omega) (fun a b => by simp; omega) l
 have hn : (sorted l).Nodup := (List.mergeSort_perm l _).nodup_iff.2 h
 refine (List.Pairwise.and hp hn).imp fun {a b} hab => ?_
 have := hab.1
 have := hab.2
 simp at *
 omega
section
variable {s : WS} {qt qf : Int → List Int} {N : Nat}
theorem raw_due (ha : zNi s qt qf) (hn : s.n = N) : sorted s.raw = zDp s.when_ (s.now + 1) N :=
 asc_ext (sorted_asc ha.wk.nd) dueL_asc fun x => by
  rw [zDx, zNr ha, zMz, hn]
theorem fin_due (ha : zNi s qt qf) (hn : s.n = N) : zAg s.fin.when_ (zHk s.when_ (s.now + 1) N) := fun r c _ => by
 by_cases hc : c = 0
 ·subst hc
  have h1 : g0 s.fin.when_ (r : Int) = _ := fin_when ha (t := (r : Int)) (by omega)
  have h2 : g0 (zHk s.when_ (s.now + 1) N) (r : Int) = _ := dueT_at (M := s.when_) (t := s.now + 1) (i := N) (k := (r : Int)) (by omega)
  have e1 : g0 s.fin.when_ (r : Int) = s.fin.when_ r 0 := by unfold g0; rw [Int.toNat_natCast]
  have e2 : g0 (zHk s.when_ (s.now + 1) N) (r : Int) = zHk s.when_ (s.now + 1) N r 0 := by unfold g0; rw [Int.toNat_natCast]
  rw [← e1, ← e2, h1, h2]
  have hm : (r : Int) ∈ s.raw ↔ ((r : Int) < N ∧ g0 s.when_ (r : Int) = s.now + 1) := by
   rw [zNr ha, hn]
   exact ⟨fun h => h.2, fun h => ⟨by omega, h⟩⟩
  by_cases h : (r : Int) ∈ s.raw
  ·rw [if_pos h, if_pos (hm.1 h)]
  ·rw [if_neg h, if_neg (fun g => h (hm.2 g))]
 ·rw [dueT_col hc]
  show (WS.wakes s.raw s.downs).when_ r c = _
  rw [wakes_col hc, zBu.2.2]
end
structure Like (N : Nat) (x : SkS) (y : RS) : Prop where
 n : x.s.n = N
 M : zAg y.M x.s.when_
 now : y.now = x.s.now
 k : y.k = x.k
 past : y.past = x.past
structure LikeE (x : SkS) (y : RS) : Prop where
 M : zAg y.M x.s.when_
 now : y.now = x.s.now
 past : y.past = x.past
theorem wait_eq {s : WS} {N : Nat} (hn : s.n = N) : s.wait = waitM s.when_ N := by
 unfold WS.wait waitM
 rw [hn]
 congr 1
theorem best_none {s : WS} {q : Int → List Int} {N : Nat} (h : zEc s q) (hn : s.n = N) : zAk s.when_ N = 0 ↔ s.wait = 0 := by
 have h0 := h.now0
 have pos : ∀ k : Nat, k < N → 0 ≤ g0 s.when_ k := fun k hk => by
  rcases h.w k (by omega) (by omega) with g | ⟨g, _⟩
  ·omega
  ·omega
 constructor
 ·intro hb
  refine wait_none fun t t0 t1 => ?_
  have := best_zero pos hb t.toNat (by omega)
  rw [Int.toNat_of_nonneg t0] at this
  exact this
 ·intro hw
  have hz : ∀ k : Nat, k < N → g0 s.when_ k = 0 := fun k hk => zLv hw (by omega) (by omega)
  have : ∀ i : Nat, i ≤ N → zAk s.when_ i = 0 := by
   intro i
   induction i with
   | zero => intro _; rfl
   | succ i ih =>
    intro hi
    unfold zAk
    rw [if_neg (fun g => by rw [hz i (by omega)] at g; omega), ih (by omega)]
  exact this N (Nat.le_refl _)
theorem best_now {s : WS} {q : Int → List Int} {N : Nat} (h : zEc s q) (hn : s.n = N) (hb : zAk s.when_ N ≠ 0) : s.now < zAk s.when_ N ∧ (∃ k : Nat, k < N ∧ g0 s.when_ k = zAk s.when_ N) ∧ ∀ k : Nat, k < N → g0 s.when_ k ≠ 0 → zAk s.when_ N ≤ g0 s.when_ k := by
 have h0 := h.now0
 have pos : ∀ k : Nat, k < N → 0 ≤ g0 s.when_ k := fun k hk => by
  rcases h.w k (by omega) (by omega) with g | ⟨g, _⟩
  ·omega
  ·omega
 have hbp : ∀ i : Nat, i ≤ N → 0 ≤ zAk s.when_ i := by
  intro i
  induction i with
  | zero => intro _; exact Int.le_refl _
  | succ i ih =>
   intro hi
   have := ih (by omega)
   unfold zAk
   split <;> omega
 have := hbp N (Nat.le_refl _)
 obtain ⟨⟨k, k1, k2⟩, k3⟩ := zOb pos (show 0 < zAk s.when_ N by omega)
 refine ⟨?_, ⟨k, k1, k2⟩, k3⟩
 rcases h.w k (by omega) (by omega) with g | ⟨g, _⟩
 ·omega
 ·omega
theorem skips_rsk {N R : Nat} : ∀ {n f : Nat} {x : SkS} {y : RS}, n ≤ f → zIb R x → x.k = n → Like N x y → LikeE (zCt n x) (rsk N f y) := by
 intro n
 induction n with
 | zero =>
  intro f x y _ h hk hl
  have e : rsk N f y = y := by
   cases f with
   | zero => rfl
   | succ f =>
    unfold rsk
    rw [if_pos (by rw [hl.k, hk]; exact Int.le_refl _)]
  rw [e]
  exact ⟨hl.M, hl.now, hl.past⟩
 | succ n ih =>
  intro f x y hf h hk hl
  obtain ⟨f, rfl⟩ : ∃ f', f = f' + 1 := ⟨f - 1, by omega⟩
  obtain ⟨q, hq⟩ := h.q
  have hnow := h.now
  have hyk : y.k = (n : Int) + 1 := by rw [hl.k, hk]; omega
  have hbe : zAk y.M N = zAk x.s.when_ N := bestM_eq hl.M N
  unfold zCt
  by_cases h0 : x.s.len = 0
  ·rw [if_pos h0]
   have hw : x.s.wait = 0 := by rw [← zGl hq]; exact h0
   have e : rsk N (f + 1) y = y.far := by
    unfold rsk
    rw [if_neg (by omega), if_pos (.inl (by rw [hbe]; exact (best_none hq hl.n).2 hw))]
   rw [e]
   exact ⟨hl.M, by show y.now + y.k = x.s.now + (x.k : Int); rw [hl.now, hl.k], hl.past⟩
  ·rw [if_neg h0]
   have hw : x.s.wait ≠ 0 := by rw [← zGl hq]; exact h0
   have hb0 : zAk x.s.when_ N ≠ 0 := fun g => hw ((best_none hq hl.n).1 g)
   obtain ⟨b1, ⟨k, k1, k2⟩, b3⟩ := best_now hq hl.n hb0
   obtain ⟨qt, qf, ha⟩ := zJo hq h.mid (by omega)
   have hkeep := zFw (s := x.s)
   have hraw := raw_due ha hl.n
   have hfin := fin_due ha hl.n
   obtain ⟨n1, _⟩ := h.next (by omega)
   by_cases hb : zAk x.s.when_ N = x.s.now + 1
   ·have hne : x.s.raw ≠ [] := fun e => by
     have : (k : Int) ∈ x.s.raw := (zNr ha).2 ⟨by omega, by have := hl.n; omega, by omega⟩
     rw [e] at this
     cases this
    have en : x.next = ⟨x.s.fin, x.k - 1, x.past ++ [sorted x.s.raw]⟩ := by unfold SkS.next; rw [if_neg hne]
    have e : rsk N (f + 1) y = rsk N f (y.next N) := by
     show (if y.k ≤ 0 then y else if zAk y.M N = 0 ∨ y.k < zAk y.M N - y.now then y.far else rsk N f (y.next N)) = _
     rw [if_neg (by omega), if_neg]
     rw [hbe, hl.now]
     omega
    rw [e]
    refine ih (by omega) n1 (by rw [en]; show x.k - 1 = n; omega) ?_
    rw [en]
    refine ⟨hkeep.1.trans hl.n, ?_, ?_, ?_, ?_⟩
    ·show zAg (zHk y.M (zAk y.M N) N) x.s.fin.when_
     rw [hbe, hb]
     exact (dueT_eq hl.M N).trans hfin.symm
    ·show zAk y.M N = x.s.fin.now
     rw [hbe, hb, hkeep.2]
    ·show y.k - (zAk y.M N - y.now) = ((x.k - 1 : Nat) : Int)
     rw [hbe, hb, hl.now]
     omega
    ·show y.past ++ [zDp y.M (zAk y.M N) N] = x.past ++ [sorted x.s.raw]
     rw [hbe, hb, hraw, hl.past, dueL_eq hl.M]
   ·have hre : x.s.raw = [] := by
     cases e : x.s.raw with
     | nil => rfl
     | cons a l =>
      have := (zNr ha).1 (show a ∈ x.s.raw by rw [e]; exact .head _)
      have := b3 a.toNat (by have := hl.n; omega) (by rw [Int.toNat_of_nonneg this.1]; have := hq.now0; omega)
      rename_i g
      rw [Int.toNat_of_nonneg g.1] at this
      omega
    have hde : zDp x.s.when_ (x.s.now + 1) N = [] := by rw [← hraw, hre]; simp [sorted]
    have en : x.next = ⟨x.s.fin, x.k - 1, x.past⟩ := by unfold SkS.next; rw [if_pos hre]
    obtain ⟨y', hy'⟩ : ∃ y' : RS, y' = ⟨y.M, y.now + 1, y.k - 1, y.past⟩ := ⟨_, rfl⟩
    have hi := ih (f := f + 1) (x := x.next) (y := y') (by omega) n1 (by rw [en]; show x.k - 1 = n; omega) (by
     rw [en, hy']
     refine ⟨hkeep.1.trans hl.n, ?_, ?_, ?_, hl.past⟩
     ·rw [dueT_none hde] at hfin
      exact hl.M.trans hfin.symm
     ·show y.now + 1 = x.s.fin.now
      rw [hkeep.2, hl.now]
     ·show y.k - 1 = ((x.k - 1 : Nat) : Int)
      omega)
    have hbl : y.now + 1 < zAk y.M N := by rw [hbe, hl.now]; omega
    have hdel : (rsk N (f + 1) y).M = (rsk N (f + 1) y').M ∧ (rsk N (f + 1) y).now = (rsk N (f + 1) y').now ∧ (rsk N (f + 1) y).past = (rsk N (f + 1) y').past := by
     have e1 : rsk N (f + 1) y = if y.k ≤ 0 then y else if zAk y.M N = 0 ∨ y.k < zAk y.M N - y.now then y.far else rsk N f (y.next N) := rfl
     have e2 : rsk N (f + 1) y' = if y'.k ≤ 0 then y' else if zAk y'.M N = 0 ∨ y'.k < zAk y'.M N - y'.now then y'.far else rsk N f (y'.next N) := rfl
     have e3 : y'.next N = y.next N := by
      rw [hy']
      show RS.mk _ _ (y.k - 1 - (zAk y.M N - (y.now + 1))) _ = RS.mk _ _ (y.k - (zAk y.M N - y.now)) _
      rw [show y.k - 1 - (zAk y.M N - (y.now + 1)) = y.k - (zAk y.M N - y.now) by omega]
     have k' : y'.k = y.k - 1 := by rw [hy']
     have m' : y'.M = y.M := by rw [hy']
     have w' : y'.now = y.now + 1 := by rw [hy']
     have p' : y'.past = y.past := by rw [hy']
     have hbne : zAk y.M N ≠ 0 := by rw [hbe]; exact hb0
     rw [e1, e2, e3, if_neg (by omega)]
     by_cases hfar : y.k < zAk y.M N - y.now
     ·rw [if_pos (.inr hfar)]
      by_cases hz : y'.k ≤ 0
      ·rw [if_pos hz]
       exact ⟨m'.symm, by show y.now + y.k = y'.now; omega, p'.symm⟩
      ·rw [if_neg hz, if_pos (.inr (by rw [m', k', w']; omega))]
       exact ⟨m'.symm, by show y.now + y.k = y'.now + y'.k; omega, p'.symm⟩
     ·rw [if_neg (fun g => g.elim hbne hfar), if_neg (by omega), if_neg (by rw [m', k', w']; omega)]
      exact ⟨rfl, rfl, rfl⟩
    exact ⟨by rw [hdel.1]; exact hi.M, hdel.2.1.trans hi.now, hdel.2.2.trans hi.past⟩
end Go.Proofs.YtaliacnncemneaaGreat.wheels
end
