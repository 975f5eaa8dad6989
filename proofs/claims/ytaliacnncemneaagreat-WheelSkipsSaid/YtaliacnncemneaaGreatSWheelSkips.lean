/- The law 'WheelSkips' holds for all arguments: the Go text returns true, whatever the world is; read off by runs that Lean's kernel carries out, and inductions over the rounds of its loops. No conditions. -/
import Derived.Test.YtaliacnncemneaaGreatSWheelEnd
import Derived.Test.YtaliacnncemneaaGreatRows
import Derived.WalkKit
import Derived.ProofKit
import Derived.OpenShut
import Derived.KernelRfl
open Go
noncomputable section
namespace Go.Proofs.YtaliacnncemneaaGreat.wheelSkips
open Go.Proofs.YtaliacnncemneaaGreat.wheels
open Go.ChangeShapes Go.WideShapes Go.ChangeAt Go.RowKit
theorem own : ownKnob Tryz.prog.godebug = none := by kernel_rfl
theorem laidOut : laidOutB Tryz.prog = true := by kernel_rfl
theorem argTypes : Tryz.f4.params.toList = [22, 41] := by kernel_rfl
theorem resTypes : Tryz.f4.resultTypes = #[4] := by kernel_rfl
theorem argNo1 : Tryz.f4.params[1]? = some 41 := by kernel_rfl
theorem kinds1 : Abs.kindsA Tryz.prog 29 = some [.i .i64, .i .i64, .i .i64] := by kernel_rfl
theorem size1 : Tryz.prog.cellsOf 29 = 3 := by kernel_rfl
theorem cutArgs {α : Type} {l : List α} (h : l.length = 2) : ∃ c0 c1, l = [c0, c1] := by
 match l, h with
 | [c0, c1], _ => exact ⟨c0, c1, rfl⟩
set_option maxRecDepth 1000000 in
theorem arg_slice {W : World} {base : Nat} {u e : TypeId} {v : Value} (h : Value.okWide Tryz.prog W .any base u v) (hu : Tryz.prog.underlying u = some (.slice e)) : v.cells.toList = [v] := by
 unfold Value.okWide at h
 rw [hu] at h
 obtain ⟨_, _, _, rfl⟩ := Abs.cell_slice h hu
 rfl
theorem acts_in {H : Type} {enc : TypeId × Value → H} {W : World} {b : Nat} {sp : Nat → Bool} {hd : Bool} {v : Value} {d : DataW H} {ps : List MemPlace} {t e : TypeId} (ht : Tryz.prog.underlying t = some (.slice e)) (hk : Abs.kindsA Tryz.prog e = some [.i .i64, .i .i64, .i .i64]) (hz : Tryz.prog.cellsOf e = 3)
  (h : DataW.Trod enc Tryz.prog W b sp hd t v d ps) (hc : v.cells.toList = [v]) :
  ∃ (q : Bool) (len : Nat) (row : Nat → Nat → Int), ActsIs W v q len row ∧ (∀ r c, Abs.In64 (row r c)) ∧ (len : Int) ≤ 9223372036854775807 ∧ ∀ r, r < len → row r 2 ≤ 9223372036854775807 := by
 obtain ⟨fuel, h⟩ := h
 rcases Abs.slice_rows ht hk hz (Nat.zero_lt_succ 2) h with ⟨p, c, e⟩ | ⟨b, o, len, cap, row, arr, el, fz, e, g0, g1, g2, g3, g4, g5, g6⟩
 ·rw [hc] at e
  cases e
  exact ⟨false, 0, fun _ _ => 0, ⟨rfl, p, c, rfl⟩, fun _ _ => Abs.mid_zero, by omega, fun r hr => by omega⟩
 ·rw [hc] at e
  cases e
  rw [hc] at h
  refine ⟨true, len, row, ⟨b, o, len, cap, arr, el, fz, rfl, rfl, g1, g3, g4, g5⟩, g6, g2, fun r hr => ?_⟩
  obtain ⟨x, x1, x2⟩ := g5 r 2 (.i .i64) hr rfl
  have x2 : x = .int .i64 (row r 2) := x2
  subst x2
  have := Abs.rows_int ht hk hz h g3 r 2 .i64 (row r 2) hr rfl x1
  exact this.2
theorem readable : ∀ t ∈ Tryz.f4.params.toList, Tryz.prog.readableRec t = true ∧ t < Tryz.prog.types.size := by
 rw [argTypes]
 intro t ht
 simp only [List.mem_cons, List.not_mem_nil, or_false] at ht
 rcases ht with rfl | rfl
 ·exact ⟨by kernel_rfl, Nat.le_of_ble_eq_true (by kernel_rfl)⟩
 ·exact ⟨by kernel_rfl, Nat.le_of_ble_eq_true (by kernel_rfl)⟩
set_option maxRecDepth 100000 in
theorem lifted (os : Os) (started : os.Started) (H : Type) (enc : TypeId × Value → H) :
  ReturnsInHanded {} Tryz.checked os 4 .any (Rows.wheelSkipsSpec.pre6 enc Tryz.prog Tryz.f4 Rows.wheelSkipsRow.domain false) (Rows.wheelSkipsSpec.post enc Tryz.prog Tryz.f4 false true false false) := by
 refine returnsInHanded_of_change (C := Tryz.checked) own started (by kernel_rfl) Tryz.func4
  (ChangeSpec.witness6 (enc := enc) (C := Tryz.checked) false ⟨#[], #[.slice none 0 0, .int .u16 0], []⟩ 8 (by kernel_rfl) (by kernel_rfl) (by kernel_rfl) (by kernel_rfl)) ?_
 intro W base args ds gs before hval0 hW0 hcnd _
 have hval : ∀ (j : Nat) t v, Tryz.f4.params[j]? = some t → args[j]? = some v → Value.okWide Tryz.prog W .any base t v := hval0
 have hW : DataW.Whole enc Tryz.prog Tryz.f4.params.toList Rows.wheelSkipsSpec.vars false W args.toList ds gs before := hW0
 clear hval0 hW0
 obtain ⟨⟨la, rfl, hla⟩, hds⟩ := Abs.args_length (n := 2) (by rw [argTypes]; rfl) hW
 obtain ⟨v0, v1, rfl⟩ := cutArgs hla
 obtain ⟨d0, d1, rfl⟩ := cutArgs hds
 obtain ⟨x1, rfl, h1⟩ := Abs.arg_mid (hval 1 41 v1 argNo1 rfl) Tryz.underlying41
 have hW1 := hW
 obtain ⟨p, q, hA, _⟩ := hW1
 rw [argTypes] at hA
 obtain ⟨u0, us0, e0, es0, p0, q0, k1, k2, k3, t0, r0⟩ := trodAll_cons hA
 cases k1
 have c0 := arg_slice (hval 0 22 v0 (by kernel_rfl) rfl) Tryz.underlying22
 obtain ⟨qa, m, ra, s0, m1, l1, l2⟩ := acts_in Tryz.underlying22 kinds1 size1 t0 c0
 have h1 : 0 ≤ x1 ∧ x1 ≤ 65535 := by simpa [Abs.kmin, Abs.kmax] using h1
 refine (skips_walk h1 l1 m1 l2 s0).mono fun e W' h => ?_
 exact ⟨_, h.1, Abs.post_true hW rfl laidOut readable resTypes Tryz.underlying4 ⟨rfl, rfl, rfl⟩ h.2⟩
theorem over : Rows.wheelSkipsRow.holds Tryz.pinned (OpenSpec.ofChange Rows.wheelSkipsSpec) :=
 OpenClaim.holds_of_wide 4 Tryz.f4 rfl rfl rfl rfl rfl rfl rfl ⟨rfl, rfl, rfl, rfl, rfl⟩ rfl rfl rfl rfl rfl (by kernel_rfl) Tryz.func4 (by kernel_rfl)
  (of_decide_eq_true (by kernel_rfl)) (by unfold Func.isWrapper; first | (rw [if_pos (by decide +kernel)]; kernel_rfl) | (rw [if_neg (by decide +kernel)]; exact ⟨rfl, rfl⟩))
  (fun os started H enc _ => lifted os started H enc)
theorem proved : Rows.WheelSkipsSaid :=
 over
end Go.Proofs.YtaliacnncemneaaGreat.wheelSkips
end
