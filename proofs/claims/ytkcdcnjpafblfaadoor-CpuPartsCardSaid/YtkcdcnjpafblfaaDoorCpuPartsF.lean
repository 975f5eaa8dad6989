/- What the loops of the law come to, told of their numbers. Conditions: those that each theorem names. -/
import Derived.Test.YtkcdcnjpafblfaaDoorCpuPartsE
open Go
namespace Go.Proofs.YtkcdcnjpafblfaaDoor.cpuParts
noncomputable section
open Go.Abs Go.Proofs.YtkcdcnjpafblfaaDoor.cpuParts.loops

def start (m : Int) (ctx : Nat → Int) (j : Nat) : Int := if j = 1 then m else if j = 2 then 1 else if j = 18 then 0 else ctx j

theorem start_base {wh : Bool} {m : Int} {ctx : Nat → Int} (hm : ∀ j, In64 (ctx j)) (h0 : 0 ≤ ctx 0 ∧ ctx 0 ≤ 80) (h20 : wh = false → 0 ≤ ctx 20) (h : 0 ≤ m ∧ m ≤ 1000) : Base wh (start m ctx) := by
  refine ⟨fun j => ?_, fun p hp => ?_⟩
  · unfold start
    split
    · unfold In64; omega
    · split
      · unfold In64; omega
      · split
        · exact mid_zero
        · exact hm j
  · have e0 : start m ctx 0 = ctx 0 := rfl
    have e1 : start m ctx 1 = m := rfl
    have e2 : start m ctx 2 = 1 := rfl
    have e20 : start m ctx 20 = ctx 20 := rfl
    cases wh
    · have := h20 rfl
      simp only [run, pcLen, cond_false, List.cons_append, List.nil_append, List.mem_cons, List.not_mem_nil, or_false] at hp
      rcases hp with rfl | rfl | rfl | rfl | rfl | rfl | rfl
      · exact decide_eq_true (show (0 : Int) ≤ start m ctx 0 by omega)
      · exact decide_eq_true (show start m ctx 0 ≤ (80 : Int) by omega)
      · exact decide_eq_true (show start m ctx 1 ≤ (1000 : Int) by omega)
      · exact decide_eq_true (show (1 : Int) ≤ start m ctx 2 by omega)
      · exact decide_eq_true (show start m ctx 2 ≤ start m ctx 1 + 1 by omega)
      · exact decide_eq_true (show start m ctx 2 ≤ (1001 : Int) by omega)
      · exact decide_eq_true (show (0 : Int) ≤ start m ctx 20 by omega)
    · simp only [run, pcLen, cond_true, List.cons_append, List.nil_append, List.append_nil, List.mem_cons, List.not_mem_nil, or_false] at hp
      rcases hp with rfl | rfl | rfl | rfl | rfl | rfl
      · exact decide_eq_true (show (0 : Int) ≤ start m ctx 0 by omega)
      · exact decide_eq_true (show start m ctx 0 ≤ (80 : Int) by omega)
      · exact decide_eq_true (show start m ctx 1 ≤ (1000 : Int) by omega)
      · exact decide_eq_true (show (1 : Int) ≤ start m ctx 2 by omega)
      · exact decide_eq_true (show start m ctx 2 ≤ start m ctx 1 + 1 by omega)
      · exact decide_eq_true (show start m ctx 2 ≤ (1001 : Int) by omega)

noncomputable abbrev IT (wh : Bool) : Nat → (Nat → Int) → Option (Ex × (Nat → Int)) := (runA G wh (runY wh)).iter G Nn (runR wh)

theorem it_ends {wh : Bool} {env : Nat → Int} (hb : Base wh env) : ∃ e env1, IT wh 1002 env = some (e, env1) :=
  auto_ends (runA G wh (runY wh)) (runTree wh).fine (runTree wh).chk' 1001 env hb.1 hb.2 (by
    have := base_n hb
    show env 1 + 1 - env 2 < 1001
    omega)
theorem it_mid {wh : Bool} {μ : Nat} {env env1 : Nat → Int} {e : Ex} (hb : Base wh env) (h : IT wh μ env = some (e, env1)) : (∀ j, In64 (env1 j)) ∧ ∀ j, (j < 2 ∨ 19 ≤ j) → env1 j = env j := by
  obtain ⟨_, k2, k3⟩ := auto_mid (runA G wh (runY wh)) (runTree wh).fine (runTree wh).chk' μ env hb.1 hb.2 e env1 h
  exact ⟨k2, fun j hj => k3 j (fun hh => by have h1 : 2 ≤ j := hh.1; have h2 : j < 19 := hh.2; omega)⟩

/-- Some steps, and then others, are all of them. -/
theorem parts {wh : Bool} {C : Nat → Int} (hm : ∀ j, In64 (C j)) (h0 : 0 ≤ C 0 ∧ C 0 ≤ 80) (h20 : wh = false → 0 ≤ C 20) {a b : Int} (ha : 0 ≤ a ∧ a ≤ 255) (hb : 0 ≤ b ∧ b ≤ 255) :
    ∃ R1 R2 R3 μ, (IT wh 1002 (start a C) = some (.ret, R1) ∧ 1 ≤ R1 14 ∧ IT wh μ (start (a + b) C) = some (.ret, R3) ∧ loops.Alike R1 R3 ∧ R3 18 = R1 18 ∧ R2 = R1) ∨
      (IT wh 1002 (start a C) = some (.exit 0, R1) ∧ IT wh 1002 (start b R1) = some (.exit 0, R2) ∧ IT wh μ (start (a + b) C) = some (.exit 0, R3) ∧ loops.Alike R2 R3) ∨
      (IT wh 1002 (start a C) = some (.exit 0, R1) ∧ IT wh 1002 (start b R1) = some (.ret, R2) ∧ 1 ≤ R2 14 ∧ 1 ≤ R2 18 ∧ R2 18 ≤ b ∧ IT wh μ (start (a + b) C) = some (.ret, R3) ∧ loops.Alike R2 R3 ∧ R3 18 = R2 18 + a) := by
  have b1 : Base wh (start a C) := start_base hm h0 h20 (by omega)
  have b3 : Base wh (start (a + b) C) := start_base hm h0 h20 (by omega)
  have a13 : loops.Alike (start a C) (start (a + b) C) := fun i hi => by
    have := ctxOnly_iff.1 hi
    unfold start
    rw [if_neg this.1, if_neg this.1]
  obtain ⟨e1, R1, i1⟩ := it_ends b1
  have m1 := it_mid b1 i1
  rcases run_rel (runTree wh) 1002 _ _ 0 e1 R1 b1 b3 a13 rfl (by show a - 1 ≤ a + b - 1; omega) i1 with ⟨rfl, q2, _, _, R3, q3, q4, q5, _⟩ | ⟨rfl, q2, q3, E, n, q4, q5, q6, q7, q8⟩
  · exact ⟨R1, R1, R3, 1002, .inl ⟨i1, q2, q3, q4, by omega, rfl⟩⟩
  · have b2 : Base wh (start b R1) := start_base m1.1 (by rw [m1.2 0 (by omega)]; exact h0) (fun hw => by rw [m1.2 20 (by omega)]; exact h20 hw) (by omega)
    have q2 : R1 1 = a := q2
    have q3 : R1 2 = a + 1 := q3
    have q6 : E 1 = a + b := q6
    have a2 : loops.Alike (start b R1) E := fun i hi => by
      have := ctxOnly_iff.1 hi
      unfold start
      rw [if_neg this.1, if_neg this.2.1, if_neg this.2.2]
      exact q4 i hi
    obtain ⟨e2, R2, i2⟩ := it_ends b2
    rcases run_rel (runTree wh) 1002 _ _ a e2 R2 b2 q5 a2 (by show E 2 = 1 + a; omega) (by show b - 1 ≤ E 1 - E 2; omega) i2 with ⟨rfl, r2, r2a, r2b, R3, r3, r4, r5, _⟩ | ⟨rfl, r2, r3, E', n', r4, r5, r6, r7, r8⟩
    · exact ⟨R1, R2, R3, n + 1002, .inr (.inr ⟨i1, i2, r2, r2a, r2b, (q8 1002).trans r3, r4, r5⟩)⟩
    · have r2 : R2 1 = b := r2
      have r3 : R2 2 = b + 1 := r3
      obtain ⟨c, s1, _, _, _, s5, s6, s7⟩ := run_step (runTree wh) r5
      cases he : c.e with
      | normal => have := (s5 he).2.2.2.2; omega
      | ret => have := (s7 he).2.2.2.2; omega
      | exit i =>
        obtain ⟨rfl, t2, _⟩ := s6 i he
        refine ⟨R1, R2, c.next E', n + (n' + 1), .inr (.inl ⟨i1, i2, ?_, fun i hi => by rw [t2 i]; exact r4 i hi⟩)⟩
        show IT wh (n + (n' + 1)) _ = _
        refine (q8 (n' + 1)).trans ((r8 1).trans ?_)
        rw [AutoLoop.iter, s1]
        simp only [he]

/-! ### The numbers -/

def scP (len a b w : Int) (c : Nat → Int) (i : Nat) : Int := match i with
  | 0 => len | 1 => a | 2 => b | 3 => c 3 | 4 => c 4 | 5 => c 5 | 6 => c 6 | 7 => c 7 | 8 => c 8 | 9 => c 9 | 10 => c 10 | 11 => c 11 | 12 => c 12 | 13 => c 13 | 20 => w
  | _ => 0
def tb0 (rp : Nat → Nat → Int) (a r k : Nat) : Int := if a = 32 then rp r k else 0
def tbP (rp : Nat → Nat → Int) (R1 R2 R3 : Nat → Int) (a r k : Nat) : Int := if a = 32 then rp r k else if a = 40 then (if r = 0 then R1 k else if r = 1 then R2 k else if r = 2 then R3 k else 0) else 0
def envC (len a b w : Int) (c : Nat → Int) (rp : Nat → Nat → Int) : Nat → Int := envT (scP len a b w c) (tb0 rp)
def envP (len a b w : Int) (c : Nat → Int) (rp : Nat → Nat → Int) (R1 R2 R3 : Nat → Int) : Nat → Int := envT (scP len a b w c) (tbP rp R1 R2 R3)

theorem rep_length {e : SE} : ∀ {n : Nat}, (rep e n).length = n := by
  intro n
  induction n with
  | zero => rfl
  | succ n ih => simp only [rep, List.length_cons, ih]
theorem rep_get {e : SE} : ∀ {n j : Nat}, j < n → (rep e n)[j]? = some e := by
  intro n
  induction n with
  | zero => intro j h; omega
  | succ n ih =>
    intro j h
    cases j with
    | zero => rfl
    | succ j => exact ih (by omega)

theorem cell_split {j : Nat} (h : ¬ j % 64 < 32) : cellIx (j % 64) ((j / 4096 : Nat) : Int) (j / 64 % 64) = j := by
  unfold cellIx
  simp only [Int.toNat_natCast]
  omega

theorem noTabs_row {env : Nat → Int} {a : Nat} (h1 : 32 ≤ a) (h2 : a < 64) (r c : Nat) : ((noTabs[a - 32]?).getD (.tab a)).row env (r : Int) c = if a = 32 then env (cellIx 32 (r : Int) c) else 0 := by
  by_cases h : a = 32
  · subst h; rw [if_pos rfl]; rfl
  · rw [if_neg h]
    obtain ⟨k, hk⟩ : ∃ k, a - 32 = k + 1 := ⟨a - 33, by omega⟩
    unfold noTabs
    rw [hk, List.getElem?_cons_succ, rep_get (by omega)]
    rfl

theorem start_env {env ctx : Nat → Int} {m : Int} {f0 : List SE} {o : LoopEnd} (hl : f0.length = 19) (h : ∀ j e, f0[j]? = some e → e.eval env = start m ctx j) (hs : ∀ j, 19 ≤ j → j % 64 < 32 → env j = ctx j)
    (h32 : ∀ r c : Nat, c < 64 → env (cellIx 32 (r : Int) c) = ctx (cellIx 32 (r : Int) c)) (h33 : ∀ a r c : Nat, 33 ≤ a → a < 64 → c < 64 → ctx (cellIx a (r : Int) c) = 0) : intoEnv (runSpec G f0 o).f0v (runSpec G f0 o).g0v env = start m ctx := by
  funext j
  by_cases hj : j % 64 < 32
  · unfold intoEnv
    rw [if_pos hj]
    show ((f0[j]?).getD (.var j)).eval env = _
    by_cases hk : j < 19
    · obtain ⟨e, he⟩ : ∃ e, f0[j]? = some e := ⟨_, List.getElem?_eq_getElem (by omega)⟩
      rw [he]
      exact h j e he
    · rw [List.getElem?_eq_none (by omega)]
      show env j = _
      unfold start
      rw [if_neg (by omega), if_neg (by omega), if_neg (by omega)]
      exact hs j (by omega) hj
  · unfold intoEnv
    rw [if_neg hj]
    show ((noTabs[j % 64 - 32]?).getD (.tab (j % 64))).row env ((j / 4096 : Nat) : Int) (j / 64 % 64) = _
    have hst : start m ctx j = ctx j := by
      unfold start
      rw [if_neg (by omega), if_neg (by omega), if_neg (by omega)]
    rw [noTabs_row (by omega) (by omega), hst]
    have hc := cell_split hj
    split
    · rename_i h32'
      rw [h32 _ _ (by omega)]
      rw [h32'] at hc
      rw [hc]
    · have := h33 (j % 64) (j / 4096) (j / 64 % 64) (by omega) (by omega) (by omega)
      rw [hc] at this
      exact this.symm

theorem rws_get {k : Nat} : ∀ {n j i : Nat}, i < n → (rws k j n)[i]? = some (rw' k (j + i)) := by
  intro n
  induction n with
  | zero => intro j i h; omega
  | succ n ih =>
    intro j i h
    cases i with
    | zero => rfl
    | succ i =>
      show (rws k (j + 1) n)[i]? = _
      rw [ih (by omega)]
      congr 2; omega
theorem rws_length {k : Nat} : ∀ {n j : Nat}, (rws k j n).length = n := by
  intro n
  induction n with
  | zero => intro j; rfl
  | succ n ih => intro j; simp only [rws, List.length_cons, ih]

theorem out_ends [F : Facts] [V : Vals] {f0 : List SE} {ret : Bool} {m last : SE} {k k2 : Nat} {R : Nat → Int} {e : Ex} (he : e = bif ret then .ret else .exit 0) (h0 : R 0 = V.env 0) (h1 : m.eval V.env = R 1) (h2 : (rw' k2 2).eval V.env = R 2)
    (h3 : ∀ j, 3 ≤ j → j < 18 → (rw' k j).eval V.env = R j) (h18 : last.eval V.env = R 18) (h32 : ∀ r c : Nat, c < 64 → R (cellIx 32 (r : Int) c) = V.env (cellIx 32 (r : Int) c)) (h33 : ∀ a r c : Nat, 33 ≤ a → a < 64 → c < 64 → R (cellIx a (r : Int) c) = 0) :
    EndsBy (runSpec G f0 (outOf ret m k k2 last)) 19 32 e (toOf e) R (outOf ret m k k2 last) := by
  have hlen : ([SE.var 0, m, rw' k2 2] ++ (rws k 3 15 ++ [last])).length ≤ 19 := by simp [rws_length]
  subst he
  refine ⟨rfl, by cases ret <;> rfl, hlen, by show noTabs.length ≤ 32; simp [noTabs, rep_length], fun i hi => ?_, fun a r c e1 e2 e3 => ?_⟩
  · rw [intoEnv_one (by omega)]
    show R i = ((([SE.var 0, m, rw' k2 2] ++ (rws k 3 15 ++ [last]))[i]?).getD (.var i)).eval V.env
    rcases i with _ | _ | _ | i
    · exact h0
    · exact h1.symm
    · exact h2.symm
    · show R (i + 3) = (((rws k 3 15 ++ [last])[i]?).getD (.var (i + 3))).eval V.env
      by_cases hl : i < 15
      · rw [List.getElem?_append_left (by rw [rws_length]; exact hl), rws_get hl, show 3 + i = i + 3 by omega]
        exact (h3 (i + 3) (by omega) (by omega)).symm
      · have : i = 15 := by omega
        subst this
        rw [List.getElem?_append_right (by rw [rws_length]; omega), rws_length]
        exact h18.symm
  · rw [intoEnv_cell e1 e2 e3]
    show R (cellIx a (r : Int) c) = ((noTabs[a - 32]?).getD (.tab a)).row V.env (r : Int) c
    rw [noTabs_row e1 e2]
    split
    · rename_i h; subst h; exact h32 r c e3
    · exact h33 a r c (by omega) e2 e3
end
end Go.Proofs.YtkcdcnjpafblfaaDoor.cpuParts
