/- The law 'WheelActs' holds for all arguments: the Go text returns true, whatever the world is; read off by runs that Lean's kernel carries out, and inductions over the rounds of its loops. No conditions. -/
import Derived.Test.YtaliacnncemneaaGreatWheelLaw
import Derived.Test.YtaliacnncemneaaGreatRows
import Derived.WalkKit
import Derived.ProofKit
import Derived.OpenShut
import Derived.KernelRfl
open Go
noncomputable section
namespace Go.Proofs.YtaliacnncemneaaGreat.wheelActs
open Go.Proofs.YtaliacnncemneaaGreat.wheels
open Go.ChangeShapes Go.WideShapes Go.ChangeAt Go.RowKit
theorem own : ownKnob Tryz.prog.godebug = none := by kernel_rfl
theorem laidOut : laidOutB Tryz.prog = true := by kernel_rfl
theorem argTypes : Tryz.f3.params.toList = [3, 22] := by kernel_rfl
theorem resTypes : Tryz.f3.resultTypes = #[4] := by kernel_rfl
theorem argNo0 : Tryz.f3.params[0]? = some 3 := by kernel_rfl
theorem kinds1 : Abs.kindsA Tryz.prog 29 = some [.i .i64, .i .i64, .i .i64] := by kernel_rfl
theorem size1 : Tryz.prog.cellsOf 29 = 3 := by kernel_rfl
theorem cutArgs {α : Type} {l : List α} (h : l.length = 2) : ∃ c0 c1, l = [c0, c1] := by
 match l, h with
 | [c0, c1], _ => exact ⟨c0, c1, rfl⟩
set_option maxRecDepth 1000000 in
theorem arg_slice {W : World} {base : Nat} {u e : TypeId} {v : Value} (h : Value.okWide Tryz.prog W .any base u v) (hu : Tryz.prog.underlying u = some (.slice e)) : v.cells.toList = [v] := by
 unfold Value.okWide at h
 rw [hu] at h
 obtain ⟨_, _, _, rfl⟩ := Abs.cell_slice h hu
 rfl
theorem acts_in {H : Type} {enc : TypeId × Value → H} {W : World} {b : Nat} {sp : Nat → Bool} {hd : Bool} {v : Value} {d : DataW H} {ps : List MemPlace} {t e : TypeId} (ht : Tryz.prog.underlying t = some (.slice e)) (hk : Abs.kindsA Tryz.prog e = some [.i .i64, .i .i64, .i .i64]) (hz : Tryz.prog.cellsOf e = 3)
  (h : DataW.Trod enc Tryz.prog W b sp hd t v d ps) (hc : v.cells.toList = [v]) :
  ∃ (q : Bool) (len : Nat) (row : Nat → Nat → Int), ActsIs W v q len row ∧ (∀ r c, Abs.In64 (row r c)) ∧ (len : Int) ≤ 9223372036854775807 ∧ ∀ r, r < len → row r 2 ≤ 9223372036854775807 := by
 obtain ⟨fuel, h⟩ := h
 rcases Abs.slice_rows ht hk hz (Nat.zero_lt_succ 2) h with ⟨p, c, e⟩ | ⟨b, o, len, cap, row, arr, el, fz, e, g0, g1, g2, g3, g4, g5, g6⟩
 ·rw [hc] at e
  cases e
  exact ⟨false, 0, fun _ _ => 0, ⟨rfl, p, c, rfl⟩, fun _ _ => Abs.mid_zero, by omega, fun r hr => by omega⟩
 ·rw [hc] at e
  cases e
  rw [hc] at h
  refine ⟨true, len, row, ⟨b, o, len, cap, arr, el, fz, rfl, rfl, g1, g3, g4, g5⟩, g6, g2, fun r hr => ?_⟩
  obtain ⟨x, x1, x2⟩ := g5 r 2 (.i .i64) hr rfl
  have x2 : x = .int .i64 (row r 2) := x2
  subst x2
  have := Abs.rows_int ht hk hz h g3 r 2 .i64 (row r 2) hr rfl x1
  exact this.2
theorem in64_of {x : Int} (h : Abs.kmin .i64 ≤ x ∧ x ≤ Abs.kmax .i64) : Abs.In64 x := by
 obtain ⟨h1, h2⟩ := h
 have h1 : (-9223372036854775808 : Int) ≤ x := h1
 have h2 : x ≤ (9223372036854775807 : Int) := h2
 unfold Abs.In64
 omega
theorem readable : ∀ t ∈ Tryz.f3.params.toList, Tryz.prog.readableRec t = true ∧ t < Tryz.prog.types.size := by
 rw [argTypes]
 intro t ht
 simp only [List.mem_cons, List.not_mem_nil, or_false] at ht
 rcases ht with rfl | rfl
 ·exact ⟨by kernel_rfl, Nat.le_of_ble_eq_true (by kernel_rfl)⟩
 ·exact ⟨by kernel_rfl, Nat.le_of_ble_eq_true (by kernel_rfl)⟩
set_option maxRecDepth 100000 in
theorem lifted (os : Os) (started : os.Started) (H : Type) (enc : TypeId × Value → H) :
  ReturnsInHanded {} Tryz.checked os 3 .any (Rows.wheelActsSpec.pre6 enc Tryz.prog Tryz.f3 Rows.wheelActsRow.domain false) (Rows.wheelActsSpec.post enc Tryz.prog Tryz.f3 false true false false) := by
 refine returnsInHanded_of_change (C := Tryz.checked) own started (by kernel_rfl) Tryz.func3
  (ChangeSpec.witness6 (enc := enc) (C := Tryz.checked) false ⟨#[], #[.int .i64 0, .slice none 0 0], []⟩ 8 (by kernel_rfl) (by kernel_rfl) (by kernel_rfl) (by kernel_rfl)) ?_
 intro W base args ds gs before hval0 hW0 hcnd _
 have hval : ∀ (j : Nat) t v, Tryz.f3.params[j]? = some t → args[j]? = some v → Value.okWide Tryz.prog W .any base t v := hval0
 have hW : DataW.Whole enc Tryz.prog Tryz.f3.params.toList Rows.wheelActsSpec.vars false W args.toList ds gs before := hW0
 clear hval0 hW0
 obtain ⟨⟨la, rfl, hla⟩, hds⟩ := Abs.args_length (n := 2) (by rw [argTypes]; rfl) hW
 obtain ⟨v0, v1, rfl⟩ := cutArgs hla
 obtain ⟨d0, d1, rfl⟩ := cutArgs hds
 obtain ⟨x0, rfl, h0⟩ := Abs.arg_mid (hval 0 3 v0 argNo0 rfl) Tryz.underlying3
 have hW1 := hW
 obtain ⟨p, q, hA, _⟩ := hW1
 rw [argTypes] at hA
 obtain ⟨u0, us0, e0, es0, p0, q0, k1, k2, k3, t0, r0⟩ := trodAll_cons hA
 cases k1
 obtain ⟨u1, us1, e1, es1, p1, q1, k4, k5, k6, t1, r1⟩ := trodAll_cons r0
 cases k4
 have c1 := arg_slice (hval 1 22 v1 (by kernel_rfl) rfl) Tryz.underlying22
 obtain ⟨qa, m, ra, s1, m1, l1, l2⟩ := acts_in Tryz.underlying22 kinds1 size1 t1 c1
 refine (law_walk (in64_of h0) l1 m1 l2 s1).mono fun e W' h => ?_
 exact ⟨_, h.1, Abs.post_true hW rfl laidOut readable resTypes Tryz.underlying4 ⟨rfl, rfl, rfl⟩ h.2⟩
theorem over : Rows.wheelActsRow.holds Tryz.pinned (OpenSpec.ofChange Rows.wheelActsSpec) :=
 OpenClaim.holds_of_wide 3 Tryz.f3 rfl rfl rfl rfl rfl rfl rfl ⟨rfl, rfl, rfl, rfl, rfl⟩ rfl rfl rfl rfl rfl (by kernel_rfl) Tryz.func3 (by kernel_rfl)
  (of_decide_eq_true (by kernel_rfl)) (by unfold Func.isWrapper; first | (rw [if_pos (by decide +kernel)]; kernel_rfl) | (rw [if_neg (by decide +kernel)]; exact ⟨rfl, rfl⟩))
  (fun os started H enc _ => lifted os started H enc)
theorem proved : Rows.WheelActsSaid :=
 over
end Go.Proofs.YtaliacnncemneaaGreat.wheelActs
end
