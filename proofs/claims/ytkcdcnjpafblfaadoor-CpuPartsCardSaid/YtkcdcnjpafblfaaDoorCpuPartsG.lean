/- What the loops of the law come to, told of their numbers. Conditions: those that each theorem names. -/
import Derived.Test.YtkcdcnjpafblfaaDoorCpuPartsF
open Go
namespace Go.Proofs.YtkcdcnjpafblfaaDoor.cpuParts
noncomputable section
open Go.Abs Go.Proofs.YtkcdcnjpafblfaaDoor.cpuParts.loops

noncomputable def cfgP : Cfg := { mg := fun _ => false, known := knowTrue 8 isTab, fuel := 100000 }
noncomputable def heapP : HS := addB (startL Tryd.prog.globals.size isTab) pTab
def argsR : List AV := [.agg [X 3, X 4, X 5, X 6, X 7, X 8, X 9, X 10, X 11, X 12, X 13], .agg [.sx .u8 (.var 1), .sx .u8 (.var 2)]]
def pcN : List (SB × Bool) := [(.le (.lit 0) (.var 1), true), (.le (.var 1) (.lit 255), true), (.le (.lit 0) (.var 2), true), (.le (.var 2) (.lit 255), true)]
def pcH : List (SB × Bool) := [(.le (.var 0) (.lit 80), false)]
noncomputable def lawN (F : Facts) : Bool := (letI := noLoops; callN Tryd.prog cfgP 200 (.f 3) argsN (startL Tryd.prog.globals.size isTab)).every Nn isTrue

set_option maxRecDepth 1000000
theorem run_lives : ((letI : Facts := ⟨[]⟩; letI := noLoops; callN Tryd.prog (cfg0 100000) 200 (.f 8) [] (startL Tryd.prog.globals.size isTab)).every Nn isTrue) = true := by kernel_rfl
theorem runP (k : Nat) (hk : k < 3) : ((letI : Facts := ⟨pcT k⟩; letI := manyLoops Tryd.prog.globals.size isTab (specs G k); callN Tryd.prog cfgP 200 (.f 3) (pSl G :: argsR) heapP).every Nn isTrue) = true := by
  rcases k with _ | _ | _ | k
  · kernel_rfl
  · kernel_rfl
  · kernel_rfl
  · omega
theorem runH : ((letI : Facts := ⟨pcH⟩; letI := noLoops; callN Tryd.prog cfgP 200 (.f 3) (pSl G :: argsR) heapP).every Nn isTrue) = true := by kernel_rfl
def treeN : Tree := .node (.le (.lit 1) (.var 1)) (.node (.le (.lit 0) (.var 4)) .leaf .leaf) (.node (.le (.lit 1) (.var 2)) (.node (.le (.lit 0) (.var 4)) .leaf .leaf) .leaf)
theorem runN : treeN.check lawN pcN = true := by kernel_rfl
theorem goodA (ret : Bool) (f0 : List SE) (m : SE) (k k2 : Nat) (last : SE) : (runSpec G f0 (outOf ret m k k2 last)).good Tryd.prog.globals.size 4 = true := by cases ret <;> kernel_rfl

section
variable {len a b w : Int} {c : Nat → Int} {rp : Nat → Nat → Int} {R1 R2 R3 : Nat → Int}

theorem far {j : Nat} (h : j % 64 < 32) : envP len a b w c rp R1 R2 R3 j = envC len a b w c rp j := by
  unfold envP envC envT
  rw [if_pos h, if_pos h]
theorem cell32 {r k : Nat} (hk : k < 64) : envP len a b w c rp R1 R2 R3 (cellIx 32 (r : Int) k) = rp r k := envT_cell (by decide) (by decide) hk
theorem cell32C {r k : Nat} (hk : k < 64) : envC len a b w c rp (cellIx 32 (r : Int) k) = rp r k := envT_cell (by decide) (by decide) hk
theorem cell33C {t r k : Nat} (h1 : 33 ≤ t) (h2 : t < 64) (hk : k < 64) : envC len a b w c rp (cellIx t (r : Int) k) = 0 := by
  unfold envC
  rw [envT_cell (by omega) h2 hk]
  unfold tb0
  rw [if_neg (by omega)]
theorem row0 {j : Nat} (h : j < 64) : (rw' 0 j).eval (envP len a b w c rp R1 R2 R3) = R1 j := envT_cell (a := 40) (r := 0) (by decide) (by decide) h
theorem row1 {j : Nat} (h : j < 64) : (rw' 1 j).eval (envP len a b w c rp R1 R2 R3) = R2 j := envT_cell (a := 40) (r := 1) (by decide) (by decide) h
theorem row2 {j : Nat} (h : j < 64) : (rw' 2 j).eval (envP len a b w c rp R1 R2 R3) = R3 j := envT_cell (a := 40) (r := 2) (by decide) (by decide) h

theorem ini_c0 {m : SE} {M : Int} {o : LoopEnd} (hm : m.eval (envP len a b w c rp R1 R2 R3) = M) : intoEnv (runSpec G (ini m c0) o).f0v (runSpec G (ini m c0) o).g0v (envP len a b w c rp R1 R2 R3) = start M (envC len a b w c rp) := by
  refine start_env rfl (fun j e he => ?_) (fun j _ hj => far hj) (fun r k hk => by rw [cell32 hk, cell32C hk]) (fun t r k h1 h2 hk => cell33C h1 h2 hk)
  rcases j with _ | _ | _ | _ | _ | _ | _ | _ | _ | _ | _ | _ | _ | _ | _ | _ | _ | _ | _ | j
  all_goals first | (cases he; done) | (cases he; rfl) | (cases he; exact hm)

theorem ini_r0 {m : SE} {M : Int} {o : LoopEnd} (hm : m.eval (envP len a b w c rp R1 R2 R3) = M) (h0 : R1 0 = len) (hf : ∀ j, 19 ≤ j → R1 j = envC len a b w c rp j) : intoEnv (runSpec G (ini m (rws 0 3 15)) o).f0v (runSpec G (ini m (rws 0 3 15)) o).g0v (envP len a b w c rp R1 R2 R3) = start M R1 := by
  refine start_env rfl (fun j e he => ?_) (fun j h1 hj => by rw [far hj, hf j h1]) (fun r k hk => by rw [cell32 hk, hf _ (by unfold cellIx; omega), cell32C hk]) (fun t r k h1 h2 hk => by rw [hf _ (by unfold cellIx; omega)]; exact cell33C h1 h2 hk)
  rcases j with _ | _ | _ | j
  · cases he; exact h0.symm
  · cases he; exact hm
  · cases he; rfl
  · have he : (rws 0 3 15 ++ [SE.lit 0])[j]? = some e := he
    by_cases hj : j < 15
    · rw [List.getElem?_append_left (by rw [rws_length]; exact hj), rws_get hj] at he
      cases he
      rw [row0 (by omega)]
      unfold start
      rw [if_neg (by omega), if_neg (by omega), if_neg (by omega), show 3 + j = j + 3 by omega]
    · rw [List.getElem?_append_right (by rw [rws_length]; omega), rws_length] at he
      obtain ⟨i, rfl⟩ : ∃ i, j = 15 + i := ⟨j - 15, by omega⟩
      rw [show 15 + i - 15 = i by omega] at he
      cases i with
      | zero => cases he; rfl
      | succ i => cases he
end

theorem start_far {m : Int} {ctx : Nat → Int} {j : Nat} (h : 19 ≤ j) : start m ctx j = ctx j := by
  unfold start
  rw [if_neg (by omega), if_neg (by omega), if_neg (by omega)]

/-- What is known of the three runs. -/
structure Known (wh : Bool) (k : Nat) (len a b w : Int) (c : Nat → Int) (rp : Nat → Nat → Int) (R1 R2 R3 : Nat → Int) : Prop where
  mc : ∀ j, In64 (envC len a b w c rp j)
  hlen : 0 ≤ len ∧ len ≤ 80
  ha : 0 ≤ a ∧ a ≤ 255
  hb : 0 ≤ b ∧ b ≤ 255
  hw : wh = false → 0 ≤ w
  hwh : Wh (envC len a b w c rp) wh
  i1 : IT wh 1002 (start a (envC len a b w c rp)) = some (if k = 0 then .ret else .exit 0, R1)
  i2 : k ≠ 0 → IT wh 1002 (start b R1) = some (if k = 1 then .exit 0 else .ret, R2)
  i3 : ∃ μ, IT wh μ (start (a + b) (envC len a b w c rp)) = some (if k = 1 then .exit 0 else .ret, R3)
  al : loops.Alike (if k = 0 then R1 else R2) R3
  e18 : k = 0 → R3 18 = R1 18
  f18 : k = 2 → R3 18 = R2 18 + a ∧ 1 ≤ R2 14 ∧ 1 ≤ R2 18 ∧ R2 18 ≤ b
  g14 : k = 0 → 1 ≤ R1 14
  hr2 : k = 0 → R2 = R1

section
variable {wh : Bool} {k : Nat} {len a b w : Int} {c : Nat → Int} {rp : Nat → Nat → Int} {R1 R2 R3 : Nat → Int} (K : Known wh k len a b w c rp R1 R2 R3)
include K
theorem Known.b1 : Base wh (start a (envC len a b w c rp)) := start_base K.mc K.hlen K.hw (by have := K.ha; omega)
theorem Known.b3 : Base wh (start (a + b) (envC len a b w c rp)) := start_base K.mc K.hlen K.hw (by have := K.ha; have := K.hb; omega)
theorem Known.m1 : (∀ j, In64 (R1 j)) ∧ ∀ j, (j < 2 ∨ 19 ≤ j) → R1 j = start a (envC len a b w c rp) j := it_mid K.b1 K.i1
theorem Known.b2 : Base wh (start b R1) := start_base K.m1.1 (by rw [K.m1.2 0 (by omega)]; exact K.hlen) (fun h => by rw [K.m1.2 20 (by omega)]; exact K.hw h) (by have := K.hb; omega)
theorem Known.m2 : (∀ j, In64 (R2 j)) ∧ (k ≠ 0 → ∀ j, (j < 2 ∨ 19 ≤ j) → R2 j = start b R1 j) := by
  by_cases h : k = 0
  · rw [K.hr2 h]; exact ⟨K.m1.1, fun h' => (h' h).elim⟩
  · have := it_mid K.b2 (K.i2 h)
    exact ⟨this.1, fun _ => this.2⟩
theorem Known.m3 : (∀ j, In64 (R3 j)) ∧ ∀ j, (j < 2 ∨ 19 ≤ j) → R3 j = start (a + b) (envC len a b w c rp) j := by
  obtain ⟨μ, h⟩ := K.i3
  exact it_mid K.b3 h
theorem Known.f1 {j : Nat} (h : 19 ≤ j) : R1 j = envC len a b w c rp j := by rw [K.m1.2 j (by omega), start_far h]
theorem Known.f3 {j : Nat} (h : 19 ≤ j) : R3 j = envC len a b w c rp j := by rw [K.m3.2 j (by omega), start_far h]
theorem Known.f2 (hk : k ≠ 0) {j : Nat} (h : 19 ≤ j) : R2 j = envC len a b w c rp j := by rw [K.m2.2 hk j (by omega), start_far h, K.f1 h]
theorem Known.j1 : JR wh (start a (envC len a b w c rp)) := by
  have h0 : envC len a b w c rp 0 = start a (envC len a b w c rp) 0 := rfl
  have h1 : ∀ j, 32 ≤ j → envC len a b w c rp j = start a (envC len a b w c rp) j := fun j h => (start_far (by omega)).symm
  have h20 : envC len a b w c rp 20 = start a (envC len a b w c rp) 20 := (start_far (by omega)).symm
  refine ⟨?_, Wh.congr h0 h1 h20 K.hwh⟩
  rw [← h0]
  exact K.hlen
theorem Known.j3 : JR wh (start (a + b) (envC len a b w c rp)) := by
  have h0 : envC len a b w c rp 0 = start (a + b) (envC len a b w c rp) 0 := rfl
  have h1 : ∀ j, 32 ≤ j → envC len a b w c rp j = start (a + b) (envC len a b w c rp) j := fun j h => (start_far (by omega)).symm
  have h20 : envC len a b w c rp 20 = start (a + b) (envC len a b w c rp) 20 := (start_far (by omega)).symm
  refine ⟨?_, Wh.congr h0 h1 h20 K.hwh⟩
  rw [← h0]
  exact K.hlen
theorem Known.j2 : JR wh (start b R1) := by
  have e0 : R1 0 = len := K.m1.2 0 (by omega)
  exact ⟨by show 0 ≤ R1 0 ∧ R1 0 ≤ 80; rw [e0]; exact K.hlen, K.hwh.congr e0.symm (fun j h => by rw [start_far (by omega), K.f1 (by omega)]) (by rw [start_far (by omega), K.f1 (by omega)])⟩

theorem Known.mid : ∀ j, In64 (envP len a b w c rp R1 R2 R3 j) := by
  intro j
  by_cases h : j % 64 < 32
  · rw [far h]; exact K.mc j
  · unfold envP envT
    rw [if_neg h]
    unfold tbP
    split
    · rename_i h32
      have := K.mc j
      unfold envC envT at this
      rw [if_neg h] at this
      unfold tb0 at this
      rw [if_pos h32] at this
      exact this
    · split
      · split
        · exact K.m1.1 _
        · split
          · exact K.m2.1 _
          · split
            · exact K.m3.1 _
            · exact mid_zero
      · exact mid_zero

theorem Known.specs_ok (hk : k < 3) [F : Facts] [V : Vals] (hV : V.env = envP len a b w c rp R1 R2 R3) : ∀ S ∈ specs G k, LoopProof Tryd.prog isTab S := by
  have a1 : ∀ R : Nat → Int, (∀ j, 19 ≤ j → R j = envC len a b w c rp j) → (∀ r c' : Nat, c' < 64 → R (cellIx 32 (r : Int) c') = V.env (cellIx 32 (r : Int) c')) ∧ ∀ t r c' : Nat, 33 ≤ t → t < 64 → c' < 64 → R (cellIx t (r : Int) c') = 0 := fun R hR =>
    ⟨fun r c' hc => by rw [hV, cell32 hc, hR _ (by unfold cellIx; omega), cell32C hc], fun t r c' h1 h2 hc => by rw [hR _ (by unfold cellIx; omega)]; exact cell33C h1 h2 hc⟩
  have l0 : V.env 0 = len := by rw [hV]; rfl
  have e1 : R1 0 = V.env 0 := by rw [l0]; exact K.m1.2 0 (by omega)
  have e3 : R3 0 = V.env 0 := by rw [l0]; exact K.m3.2 0 (by omega)
  have vA : mA.eval V.env = a := by rw [hV]; rfl
  have vB : mB.eval V.env = b := by rw [hV]; rfl
  have vC : mC.eval V.env = a + b := by rw [hV]; rfl
  have p1 : R1 1 = a := K.m1.2 1 (by omega)
  have p3 : R3 1 = a + b := K.m3.2 1 (by omega)
  obtain ⟨μ, i3⟩ := K.i3
  obtain ⟨t1, t1'⟩ := a1 R1 (fun j h => K.f1 h)
  obtain ⟨t3, t3'⟩ := a1 R3 (fun j h => K.f3 h)
  have al : ∀ j, 3 ≤ j → j < 18 → (if k = 0 then R1 else R2) j = R3 j := fun j h1 h2 => K.al j (ctxOnly_iff.2 (by omega))
  rcases k with _ | _ | _ | k
  · have al : ∀ j, 3 ≤ j → j < 18 → R1 j = R3 j := fun j h1 h2 => al j h1 h2
    have S1 := run_proof (wh := wh) (f0 := ini mA c0) (o := outOf true mA 0 0 (rw' 0 18)) rfl (goodA _ _ _ _ _ _) (by rw [hV]; exact ini_c0 (by rw [← hV]; exact vA)) K.b1 K.j1 K.i1
      (out_ends rfl e1 (vA.trans p1.symm) (by rw [hV]; exact row0 (by decide)) (fun j h1 h2 => by rw [hV]; exact row0 (by omega)) (by rw [hV]; exact row0 (by decide)) t1 t1')
    have S3 := run_proof (wh := wh) (f0 := ini mC c0) (o := outOf true mC 0 2 (rw' 0 18)) rfl (goodA _ _ _ _ _ _) (by rw [hV]; exact ini_c0 (by rw [← hV]; exact vC)) K.b3 K.j3 i3
      (out_ends rfl e3 (vC.trans p3.symm) (by rw [hV]; exact row2 (by decide)) (fun j h1 h2 => by rw [hV, row0 (by omega)]; exact al j h1 h2) (by rw [hV, row0 (by decide)]; exact (K.e18 rfl).symm) t3 t3')
    intro S hS
    simp only [specs, List.mem_cons, List.not_mem_nil, or_false] at hS
    rcases hS with rfl | rfl
    · exact S1
    · exact S3
  · have al : ∀ j, 3 ≤ j → j < 18 → R2 j = R3 j := fun j h1 h2 => al j h1 h2
    have m2 := K.m2.2 (by decide)
    have e2 : R2 0 = V.env 0 := by rw [← e1]; exact m2 0 (by omega)
    have p2 : R2 1 = b := m2 1 (by omega)
    obtain ⟨t2, t2'⟩ := a1 R2 (fun j h => K.f2 (by decide) h)
    have S1 := run_proof (wh := wh) (f0 := ini mA c0) (o := outOf false mA 0 0 (rw' 0 18)) rfl (goodA _ _ _ _ _ _) (by rw [hV]; exact ini_c0 (by rw [← hV]; exact vA)) K.b1 K.j1 K.i1
      (out_ends rfl e1 (vA.trans p1.symm) (by rw [hV]; exact row0 (by decide)) (fun j h1 h2 => by rw [hV]; exact row0 (by omega)) (by rw [hV]; exact row0 (by decide)) t1 t1')
    have S2 := run_proof (wh := wh) (f0 := ini mB (rws 0 3 15)) (o := outOf false mB 1 1 (rw' 1 18)) rfl (goodA _ _ _ _ _ _) (by rw [hV]; exact ini_r0 (by rw [← hV]; exact vB) (e1.trans l0) (fun j h => K.f1 h)) K.b2 K.j2 (K.i2 (by decide))
      (out_ends rfl e2 (vB.trans p2.symm) (by rw [hV]; exact row1 (by decide)) (fun j h1 h2 => by rw [hV]; exact row1 (by omega)) (by rw [hV]; exact row1 (by decide)) t2 t2')
    have S3 := run_proof (wh := wh) (f0 := ini mC c0) (o := outOf false mC 1 2 (rw' 2 18)) rfl (goodA _ _ _ _ _ _) (by rw [hV]; exact ini_c0 (by rw [← hV]; exact vC)) K.b3 K.j3 i3
      (out_ends rfl e3 (vC.trans p3.symm) (by rw [hV]; exact row2 (by decide)) (fun j h1 h2 => by rw [hV, row1 (by omega)]; exact al j h1 h2) (by rw [hV]; exact row2 (by decide)) t3 t3')
    intro S hS
    simp only [specs, List.mem_cons, List.not_mem_nil, or_false] at hS
    rcases hS with rfl | rfl | rfl
    · exact S1
    · exact S2
    · exact S3
  · have al : ∀ j, 3 ≤ j → j < 18 → R2 j = R3 j := fun j h1 h2 => al j h1 h2
    have m2 := K.m2.2 (by decide)
    have e2 : R2 0 = V.env 0 := by rw [← e1]; exact m2 0 (by omega)
    have p2 : R2 1 = b := m2 1 (by omega)
    obtain ⟨t2, t2'⟩ := a1 R2 (fun j h => K.f2 (by decide) h)
    have S1 := run_proof (wh := wh) (f0 := ini mA c0) (o := outOf false mA 0 0 (rw' 0 18)) rfl (goodA _ _ _ _ _ _) (by rw [hV]; exact ini_c0 (by rw [← hV]; exact vA)) K.b1 K.j1 K.i1
      (out_ends rfl e1 (vA.trans p1.symm) (by rw [hV]; exact row0 (by decide)) (fun j h1 h2 => by rw [hV]; exact row0 (by omega)) (by rw [hV]; exact row0 (by decide)) t1 t1')
    have S2 := run_proof (wh := wh) (f0 := ini mB (rws 0 3 15)) (o := outOf true mB 1 1 (rw' 1 18)) rfl (goodA _ _ _ _ _ _) (by rw [hV]; exact ini_r0 (by rw [← hV]; exact vB) (e1.trans l0) (fun j h => K.f1 h)) K.b2 K.j2 (K.i2 (by decide))
      (out_ends rfl e2 (vB.trans p2.symm) (by rw [hV]; exact row1 (by decide)) (fun j h1 h2 => by rw [hV]; exact row1 (by omega)) (by rw [hV]; exact row1 (by decide)) t2 t2')
    have S3 := run_proof (wh := wh) (f0 := ini mC c0) (o := outOf true mC 1 2 (.add (rw' 1 18) (.var 1))) rfl (goodA _ _ _ _ _ _) (by rw [hV]; exact ini_c0 (by rw [← hV]; exact vC)) K.b3 K.j3 i3
      (out_ends rfl e3 (vC.trans p3.symm) (by rw [hV]; exact row2 (by decide)) (fun j h1 h2 => by rw [hV, row1 (by omega)]; exact al j h1 h2) (by
        show (rw' 1 18).eval V.env + V.env 1 = R3 18
        rw [(K.f18 rfl).1]
        have h1 : (rw' 1 18).eval V.env = R2 18 := by rw [hV]; exact row1 (by decide)
        have h2 : V.env 1 = a := by rw [hV]; rfl
        omega) t3 t3')
    intro S hS
    simp only [specs, List.mem_cons, List.not_mem_nil, or_false] at hS
    rcases hS with rfl | rfl | rfl
    · exact S1
    · exact S2
    · exact S3
  · omega

theorem Known.pc (hk : k < 3) : ∀ p ∈ pcT k, p.1.eval (envP len a b w c rp R1 R2 R3) = p.2 := by
  have h0 := K.hlen; have ha := K.ha; have hb := K.hb
  rcases k with _ | _ | _ | k
  · have hg := K.g14 rfl
    have e14 : (rw' 0 14).eval (envP len a b w c rp R1 R2 R3) = R1 14 := row0 (by decide)
    intro p hp
    simp only [pcT, pcLen, List.cons_append, List.nil_append, List.mem_cons, List.not_mem_nil, or_false] at hp
    rcases hp with rfl | rfl | rfl | rfl | rfl | rfl | rfl
    · exact decide_eq_true h0.1
    · exact decide_eq_true h0.2
    · exact decide_eq_true ha.1
    · exact decide_eq_true ha.2
    · exact decide_eq_true hb.1
    · exact decide_eq_true hb.2
    · exact decide_eq_true (by show (1 : Int) ≤ (rw' 0 14).eval _; rw [e14]; exact hg)
  · intro p hp
    simp only [pcT, pcLen, List.cons_append, List.nil_append, List.append_nil, List.mem_cons, List.not_mem_nil, or_false] at hp
    rcases hp with rfl | rfl | rfl | rfl | rfl | rfl
    · exact decide_eq_true h0.1
    · exact decide_eq_true h0.2
    · exact decide_eq_true ha.1
    · exact decide_eq_true ha.2
    · exact decide_eq_true hb.1
    · exact decide_eq_true hb.2
  · obtain ⟨_, g14, g18, g18'⟩ := K.f18 rfl
    have e14 : (rw' 1 14).eval (envP len a b w c rp R1 R2 R3) = R2 14 := row1 (by decide)
    have e18 : (rw' 1 18).eval (envP len a b w c rp R1 R2 R3) = R2 18 := row1 (by decide)
    intro p hp
    simp only [pcT, pcLen, List.cons_append, List.nil_append, List.mem_cons, List.not_mem_nil, or_false] at hp
    rcases hp with rfl | rfl | rfl | rfl | rfl | rfl | rfl | rfl | rfl
    · exact decide_eq_true h0.1
    · exact decide_eq_true h0.2
    · exact decide_eq_true ha.1
    · exact decide_eq_true ha.2
    · exact decide_eq_true hb.1
    · exact decide_eq_true hb.2
    · exact decide_eq_true (by show (1 : Int) ≤ (rw' 1 14).eval _; rw [e14]; exact g14)
    · exact decide_eq_true (by show (0 : Int) ≤ (rw' 1 18).eval _; rw [e18]; omega)
    · exact decide_eq_true (by show (rw' 1 18).eval _ ≤ (1000 : Int); rw [e18]; omega)
  · omega
end

/-- There is such a run, for each kind of arguments. -/
theorem known_all {len a b : Int} {c : Nat → Int} {rp : Nat → Nat → Int} (hl : 0 ≤ len ∧ len ≤ 80) (ha : 0 ≤ a ∧ a ≤ 255) (hb : 0 ≤ b ∧ b ≤ 255) (hc : ∀ j, In64 (c j)) (hrp : ∀ r k, In64 (rp r k)) :
    ∃ wh k w R1 R2 R3, k < 3 ∧ Known wh k len a b w c rp R1 R2 R3 := by
  have mid : ∀ w, In64 w → ∀ j, In64 (envC len a b w c rp j) := fun w hw j => by
    refine envT_mid (fun i => ?_) (fun t r k => ?_) j
    · unfold scP
      split <;> first | exact hc _ | exact hw | exact mid_zero | (unfold In64; omega)
    · unfold tb0
      split
      · exact hrp _ _
      · exact mid_zero
  obtain ⟨wh, e1, k1, k3, k2, k4⟩ := idx_all (mid 0 mid_zero) (show 0 ≤ envC len a b 0 c rp 0 ∧ envC len a b 0 c rp 0 ≤ 80 from hl)
  have mc := mid (e1 1) (k4 1)
  have hfar : ∀ j, 32 ≤ j → envC len a b 0 c rp j = envC len a b (e1 1) c rp j := fun j hj => by
    unfold envC envT
    split
    · unfold scP
      split <;> first | rfl | omega
    · rfl
  have hwh : Wh (envC len a b (e1 1) c rp) wh := by
    have e := idxAt_congr (env := envC len a b 0 c rp) (env' := envC len a b (e1 1) c rp) rfl hfar
    refine ⟨e1, ?_, by rw [← e]; exact k2, rfl⟩
    unfold idxIt at k1 ⊢
    rw [← e]; exact k1
  obtain ⟨R1, R2, R3, μ, h⟩ := parts (wh := wh) mc (show 0 ≤ envC len a b (e1 1) c rp 0 ∧ _ from hl) k3 ha hb
  rcases h with ⟨h1, h2, h3, h4, h5, h6⟩ | ⟨h1, h2, h3, h4⟩ | ⟨h1, h2, h3, h4, h5, h6, h7, h8⟩
  · exact ⟨wh, 0, e1 1, R1, R2, R3, by decide, mc, hl, ha, hb, k3, hwh, h1, (fun h => (h rfl).elim), ⟨μ, h3⟩, h4, fun _ => h5, (fun h => by cases h), fun _ => h2, fun _ => h6⟩
  · exact ⟨wh, 1, e1 1, R1, R2, R3, by decide, mc, hl, ha, hb, k3, hwh, h1, fun _ => h2, ⟨μ, h3⟩, h4, (fun h => by cases h), (fun h => by cases h), (fun h => by cases h), (fun h => by cases h)⟩
  · exact ⟨wh, 2, e1 1, R1, R2, R3, by decide, mc, hl, ha, hb, k3, hwh, h1, fun _ => h2, ⟨μ, h6⟩, h7, (fun h => by cases h), fun _ => ⟨h8, h3, h4, h5⟩, (fun h => by cases h), (fun h => by cases h)⟩
end
end Go.Proofs.YtkcdcnjpafblfaaDoor.cpuParts
