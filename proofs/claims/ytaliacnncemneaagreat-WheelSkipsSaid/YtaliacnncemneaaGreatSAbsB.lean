/- Each operation, as it is read, is what the machine does. No conditions. -/
import Derived.Test.YtaliacnncemneaaGreatSAbsA
import Derived.Laws.Sem
import Derived.Laws.StructEq
namespace Go.Abs
noncomputable section
variable [Facts] [zAc]
section
variable {P : Program} {φ : Phi} {w : World}
omit [Facts] [zAc] in
theorem zAf {t : TypeId} {d : TypeDesc} (h : P.underlying t = some d) (w : World) : (underlying t).run P w = .ok d w := by
 simp [underlying, h]
omit [Facts] [zAc] in
theorem zDy {t : TypeId} {i : TypeInfo} (h : P.info? t = some i) (w : World) : (typeInfo t).run P w = .ok i w := by
 simp [typeInfo, h]
omit [Facts] [zAc] in
theorem zAt {t : TypeId} {n : Nat} (h : szO P t = some n) (w : World) : (sizeOf t).run P w = .ok n w := by
 unfold szO at h
 cases hi : P.info? t with
 | none => rw [hi] at h; cases h
 | some i => rw [hi] at h; cases h; simp [sizeOf, zDy hi]
omit [Facts] [zAc] in
theorem zFv {t : TypeId} {z : Value} (h : zJm P t = some z) (w : World) : (zeroValue t).run P w = .ok z w := by
 unfold zJm at h
 cases hi : P.info? t with
 | none => rw [hi] at h; cases h
 | some i => rw [hi] at h; simp at h; simp [zeroValue, zDy hi, h]
omit [Facts] [zAc] in
theorem zNo {t : TypeId} {b : Bool} (h : aggO P t = some b) (w : World) : (isAgg t).run P w = .ok b w := by
 unfold aggO at h
 split at h <;> first | (cases h; rename_i e; simp [isAgg, zAf e]; done) | (cases h; done)
theorem zHo {t : TypeId} {cs : List AV} {xs : Array Value} (hc : RL φ cs xs.toList) {off : Nat} {v : AV} (h : partA P t cs off = some v) (w : World) :
  ∃ x, (part t xs off).run P w = .ok x w ∧ RV φ v x := by
 unfold partA at h
 split at h
 ·rename_i n ha hn
  cases h
  refine ⟨.agg (xs.extract off (off + n)), by simp [part, zNo ha, zAt hn], ?_⟩
  have := (hc.drop off).take n
  have e : (xs.extract off (off + n)) = ⟨(xs.toList.drop off).take n⟩ := by
   apply Array.ext'
   simp
  rw [e]
  exact RV.agg this
 ·rename_i n ha hn
  obtain ⟨x, hx, hv⟩ := hc.get h
  refine ⟨x, ?_, hv⟩
  have : xs[off]? = some x := by simpa using hx
  simp [part, zNo ha, this]
 ·cases h
def EV (φ : Phi) (ev : Operand → Option AV) (ρ : Operand → Value) : Prop := ∀ x v, ev x = some v → RV φ v (ρ x)
theorem zEl {ev : Operand → Option AV} {ρ : Operand → Value} (h : EV φ ev ρ) : ∀ {l : List Operand} {r : List AV}, zCi ev l = some r → RL φ r (l.map ρ) := by
 intro l
 induction l with
 | nil => intro r h; simp only [zCi] at h; cases h; exact .nil
 | cons o l ih =>
  intro r hr
  simp only [zCi] at hr
  split at hr
  ·rename_i y hy
   split at hr
   ·rename_i q hq
    cases hr
    exact .cons (h _ _ hy) (ih hq)
   ·cases hr
  ·cases hr
omit [Facts] [zAc] in
theorem field_ok {t : TypeId} {f : Nat} {fd : Field} (h : fieldA P t f = some fd) : ∃ fs, P.underlying t = some (.struct fs) ∧ fs[f]? = some fd := by
 unfold fieldA at h
 split at h
 ·rename_i fs e; exact ⟨fs, e, h⟩
 ·cases h
theorem RV.int_inv {k : IntKind} {n : Int} {x : Value} (h : RV φ (.val (.int k n)) x) : x = .int k n := by cases h; rfl
theorem zCn {x : AV} {X : Value} {k : IntKind} {e : SE} (h : RV φ x X) (hs : zOq x = some (k, e)) : X = .int k (e.eval zAc.env) := by
 unfold zOq at hs
 split at hs <;> cases hs
 ·cases h; rfl
 ·cases h with | sx h => rw [h]
theorem yesS_ok {b : SB} (h : zLu b = true) : b.eval zAc.env = true := zBd (zCv h)
theorem zJn {a b : SE} (h : zLu (zEm a b) = true) : a.eval zAc.env ≤ b.eval zAc.env := by
 have := yesS_ok h
 rw [zHb] at this
 exact of_decide_eq_true this
theorem RV.bool_inv {b : Bool} {x : Value} (h : RV φ (.val (.bool b)) x) : x = .bool b := by cases h; rfl
theorem RV.str_inv {s : ByteArray} {x : Value} (h : RV φ (.val (.string s)) x) : x = .string s := by cases h; rfl
def Yes (P : Program) (φ : Phi) (ρ : Operand → Value) (w : World) (o : Oper) (v : AV) : Prop := ∃ x, (execOp ρ o).run P w = .ok (.value x) w ∧ RV φ v x
omit [Facts] [zAc] in
theorem bits_ok {op : BinOp} {k : IntKind} {a b : Int} {v : AV} (h : bitsA op k a b = some v) : ∃ x, (Op.intBits op k a b).run P w = .ok x w ∧ v = .val x := by
 have e1 : ∀ n : Int, (BitVec.ofInt k.bits n).toNat = (n % ((2 ^ k.bits : Nat) : Int)).toNat := fun n => by simp [BitVec.toNat_ofInt]
 unfold bitsA at h
 cases op <;> simp only at h <;> first | (cases h; done) | skip
 ·cases h; refine ⟨_, rfl, ?_⟩; simp only [BitVec.toNat_and, e1, zCs]
 ·cases h; refine ⟨_, rfl, ?_⟩; simp only [BitVec.toNat_or, e1, zCs]
 ·cases h; refine ⟨_, rfl, ?_⟩; simp only [BitVec.toNat_xor, e1, zCs]
 ·cases h; refine ⟨_, rfl, ?_⟩; simp only [BitVec.toNat_and, BitVec.toNat_not, e1, zCs]
omit [Facts] [zAc] in
theorem shift_ok {l : Bool} {op : BinOp} (ho : op = if l then .shl else .shr) {k k' : IntKind} {a b : Int} {v : AV} (h : shiftA l k a b = some v) : ∃ x, (Op.shift op k a k' b).run P w = .ok x w ∧ v = .val x := by
 unfold shiftA at h
 split at h
 ·cases h
 ·rename_i hb
  have e : ∀ n : Nat, ((2 ^ n : Nat) : Int) = (2 : Int) ^ n := fun n => by simp
  cases l <;> simp only [Bool.false_eq_true, if_true, if_false] at ho <;> subst ho <;> simp only [cond_true, cond_false] at h <;> cases h
  ·refine ⟨_, by simp only [Op.shift, if_neg hb]; rfl, ?_⟩; simp only [e]
  ·refine ⟨_, by simp only [Op.shift, if_neg hb]; rfl, ?_⟩; simp only [e, zCs]
omit [Facts] [zAc] in
theorem int_ok {op : BinOp} {k : IntKind} {a b : Int} {v : AV} (h : intA op k a b = some v) (t : TypeId) (hs : op ≠ .shl ∧ op ≠ .shr) : ∃ x, (binOp op t (.int k a) (.int k b)).run P w = .ok x w ∧ v = .val x := by
 unfold intA at h
 cases op <;> simp only at h hs
 ·cases h; exact ⟨.int k (k.wrap (a + b)), by simp [binOp, Op.intArith], by rw [zCs]⟩
 ·cases h; exact ⟨.int k (k.wrap (a - b)), by simp [binOp, Op.intArith], by rw [zCs]⟩
 ·cases h; exact ⟨.int k (k.wrap (a * b)), by simp [binOp, Op.intArith], by rw [zCs]⟩
 ·split at h
  ·cases h
  ·rename_i hb; cases h; exact ⟨.int k (k.wrap (a.tdiv b)), by simp [binOp, Op.intDiv, hb], by rw [zCs]⟩
 ·split at h
  ·cases h
  ·rename_i hb; cases h; exact ⟨.int k (a.tmod b), by simp [binOp, Op.intDiv, hb], rfl⟩
 ·obtain ⟨x, h1, h2⟩ := bits_ok (P := P) (w := w) h; exact ⟨x, by simpa [binOp] using h1, h2⟩
 ·obtain ⟨x, h1, h2⟩ := bits_ok (P := P) (w := w) h; exact ⟨x, by simpa [binOp] using h1, h2⟩
 ·obtain ⟨x, h1, h2⟩ := bits_ok (P := P) (w := w) h; exact ⟨x, by simpa [binOp] using h1, h2⟩
 ·exact (hs.1 rfl).elim
 ·exact (hs.2 rfl).elim
 ·obtain ⟨x, h1, h2⟩ := bits_ok (P := P) (w := w) h; exact ⟨x, by simpa [binOp] using h1, h2⟩
 ·simp only [cmpA, Option.map_some] at h; cases h; exact ⟨_, by simp [binOp, Op.intCmp], rfl⟩
 ·simp only [cmpA, Option.map_some] at h; cases h; exact ⟨_, by simp [binOp, Op.intCmp], rfl⟩
 ·simp only [cmpA, Option.map_some] at h; cases h; exact ⟨_, by simp [binOp, Op.intCmp], rfl⟩
 ·simp only [cmpA, Option.map_some] at h; cases h; exact ⟨_, by simp [binOp, Op.intCmp], rfl⟩
 ·simp only [cmpA, Option.map_some] at h; cases h; exact ⟨_, by simp [binOp, Op.intCmp], rfl⟩
 ·simp only [cmpA, Option.map_some] at h; cases h; exact ⟨_, by simp [binOp, Op.intCmp], rfl⟩
omit [Facts] [zAc] in
theorem str_ok {op : BinOp} {a b : ByteArray} {v : AV} (h : strA op a b = some v) (t : TypeId) : ∃ x, (binOp op t (.string a) (.string b)).run P w = .ok x w ∧ v = .val x := by
 unfold strA at h
 cases op <;> simp only at h <;> first | (cases h; done) | skip
 ·cases hb : Nat.ble (a.size + b.size) zIi
  ·rw [hb] at h; cases h
  ·rw [hb] at h; simp only [cond_true] at h; cases h
   have h1 : a.size + b.size ≤ zIi := Nat.le_of_ble_eq_true hb
   have h2 : ((a.size + b.size : Nat) : Int) ≤ (zIi : Int) := Int.ofNat_le.2 h1
   have h3 : IntKind.i64.max = (zIi : Int) := by decide
   have h4 : ¬ (((a.size + b.size : Nat) : Int) > IntKind.i64.max) := by rw [h3]; omega
   exact ⟨.string (a ++ b), by simp only [binOp, Op.stringOp]; rw [if_neg h4]; rfl, rfl⟩
 all_goals (cases h; exact ⟨_, by simp [binOp, Op.stringOp], rfl⟩)
end
end
end Go.Abs
namespace Go.Abs
noncomputable section
variable [Facts] [zAc]
section
variable {P : Program} {φ : Phi}
omit [Facts] [zAc] in
theorem addr_beq (b x o o' : Nat) : ((⟨b, x + o, none⟩ : Addr) == ⟨b, x + o', none⟩) = (o == o') := by
 rw [Bool.eq_iff_iff]; simp
def zJa (P : Program) (d : Nat) (e : TypeId) (k : Nat) (xs ys : Array Value) : List Nat → Sem Bool
 | [] => pure true
 | i :: l => do
  let a ← part e xs (i * k)
  let b ← part e ys (i * k)
  let r ← Op.equalIn d e a b
  if (!r) = true then pure false else zJa P d e k xs ys l
omit [Facts] [zAc] in
theorem run_equalIn_arr (w : World) (d : Nat) (t : TypeId) (len : Nat) (e : TypeId) (k : Nat) (xs ys : Array Value) (ht : P.underlying t = some (.array len e)) (hk : szO P e = some k) :
  (Op.equalIn (d + 1) t (.agg xs) (.agg ys)).run P w = (zJa P d e k xs ys (List.range' 0 len)).run P w := by
 simp only [Op.equalIn, Sem.run_bind, zAf ht, Result.andThen_ok, zAt hk]
 simp only [Std.Legacy.Range.forIn_eq_forIn_range', Std.Legacy.Range.size]
 have : (len - 0 + 1 - 1) / 1 = len := by omega
 rw [this]
 generalize List.range' 0 len = l
 induction l generalizing w with
 | nil => simp [zJa]
 | cons i l ih =>
  simp only [List.forIn_cons, zJa, Sem.run_bind, Sem.run_ite]
  generalize (part e xs (i * k)).run P w = r1
  cases r1 with
  | ok a w1 =>
   simp only [Result.andThen_ok]
   generalize (part e ys (i * k)).run P w1 = r2
   cases r2 with
   | ok b w2 =>
    simp only [Result.andThen_ok]
    generalize (Op.equalIn d e a b).run P w2 = r3
    cases r3 with
    | ok r w3 =>
     cases r
     ·simp only [Result.andThen_ok, Bool.not_false, if_true, Sem.run_pure]
     ·simp only [Result.andThen_ok, Bool.not_true, Bool.false_eq_true, if_false, Sem.run_pure]
      exact ih w3
    | halt x w3 => simp [Result.andThen]
   | halt x w2 => simp [Result.andThen]
  | halt x w1 => simp [Result.andThen]
theorem eqFields_ok {d : Nat} {eq : TypeId → AV → AV → Option Bool} (w : World) (he : ∀ t a b X Y r, RV φ a X → RV φ b Y → eq t a b = some r → (Op.equalIn d t X Y).run P w = .ok r w)
  {xs ys : List AV} {X Y : Array Value} (hx : RL φ xs X.toList) (hy : RL φ ys Y.toList) : ∀ (fs : List Field) (r : Bool), eqFields P eq fs xs ys = some r → (Op.eqFields d X Y fs).run P w = .ok r w := by
 intro fs
 induction fs with
 | nil => intro r h; simp only [Abs.eqFields] at h; cases h; simp [Op.eqFields]
 | cons f fs ih =>
  intro r h
  simp only [Abs.eqFields] at h
  simp only [Op.eqFields]
  by_cases hf : f.name ≠ "_"
  ·rw [if_pos hf] at h
   rw [if_pos hf]
   split at h
   ·rename_i a b ha hb
    obtain ⟨X1, e1, v1⟩ := zHo (P := P) hx ha w
    obtain ⟨Y1, e2, v2⟩ := zHo (P := P) hy hb w
    simp only [Sem.run_bind, e1, e2, Result.andThen_ok]
    split at h
    ·rename_i hq
     rw [he _ _ _ _ _ _ v1 v2 hq]
     simp only [Result.andThen_ok, Bool.not_true, Bool.false_eq_true, if_false]
     exact ih r h
    ·rename_i q hne
     cases r with
     | true => exact (hne h).elim
     | false => rw [he _ _ _ _ _ _ v1 v2 h]; simp
   ·cases h
  ·rw [if_neg hf] at h
   rw [if_neg hf]
   exact ih r h
theorem eqElems_ok {d : Nat} {eq : TypeId → AV → AV → Option Bool} (w : World) (he : ∀ t a b X Y r, RV φ a X → RV φ b Y → eq t a b = some r → (Op.equalIn d t X Y).run P w = .ok r w)
  {xs ys : List AV} {X Y : Array Value} (hx : RL φ xs X.toList) (hy : RL φ ys Y.toList) {e : TypeId} {k : Nat} : ∀ (m i : Nat) (r : Bool), eqElems P eq e k xs ys i m = some r → (zJa P d e k X Y (List.range' i m)).run P w = .ok r w := by
 intro m
 induction m with
 | zero => intro i r h; simp only [Abs.eqElems] at h; cases h; simp [zJa]
 | succ m ih =>
  intro i r h
  simp only [Abs.eqElems] at h
  simp only [List.range'_succ, zJa]
  split at h
  ·rename_i a b ha hb
   obtain ⟨X1, e1, v1⟩ := zHo (P := P) hx ha w
   obtain ⟨Y1, e2, v2⟩ := zHo (P := P) hy hb w
   simp only [Sem.run_bind, e1, e2, Result.andThen_ok]
   split at h
   ·rename_i hq
    rw [he _ _ _ _ _ _ v1 v2 hq]
    simp only [Result.andThen_ok, Bool.not_true, Bool.false_eq_true, if_false]
    exact ih _ r h
   ·rename_i q hne
    cases r with
    | true => exact (hne h).elim
    | false => rw [he _ _ _ _ _ _ v1 v2 h]; simp
  ·cases h
set_option maxHeartbeats 2000000 in
theorem eqA_ok (w : World) : ∀ (n d : Nat) (t : TypeId) (x y : AV) (X Y : Value) (r : Bool), n ≤ d → RV φ x X → RV φ y Y → eqA P n t x y = some r → (Op.equalIn d t X Y).run P w = .ok r w := by
 intro n
 induction n with
 | zero => intro d t x y X Y r _ _ _ h; simp [eqA] at h
 | succ n ih =>
  intro d t x y X Y r hd hx hy h
  obtain ⟨d, rfl⟩ : ∃ m, d = m + 1 := ⟨d - 1, by omega⟩
  have ih' := fun t a b X Y r h1 h2 h3 => ih d t a b X Y r (by omega) h1 h2 h3
  unfold eqA at h
  split at h
  ·rename_i fs hu
   split at h
   ·rename_i xs ys
    split at h
    ·cases h
    ·rename_i hs
     cases hx with | agg hx => cases hy with | agg hy =>
     have hf : P.fieldsOf t = fs := by simp [Program.fieldsOf, hu]
     rw [run_equalIn_struct w d t _ _ (by rw [hf]; exact hu) (by simpa using hs), hf]
     exact eqFields_ok w ih' (by simpa using hx) (by simpa using hy) _ _ h
   ·cases h
  ·rename_i len e hu
   split at h
   ·rename_i xs ys k hk
    cases hx with | agg hx => cases hy with | agg hy =>
    rw [run_equalIn_arr w d t len e k _ _ hu hk]
    exact eqElems_ok w ih' (by simpa using hx) (by simpa using hy) _ _ _ h
   ·cases h
  ·rename_i ms hu
   split at h <;> cases h
   ·cases hx; cases hy; simp [Op.equalIn, zAf hu]
   ·cases hx; cases hy; simp [Op.equalIn, zAf hu]
   ·cases hx; cases hy; simp [Op.equalIn, zAf hu]
  ·rename_i hu
   split at h <;> cases h
   cases hx; cases hy; simp [Op.equalIn, zAf hu]
  ·rename_i kk hu
   split at h
   ·split at h
    ·rename_i hk; cases h; subst hk; cases hx; cases hy; simp [Op.equalIn, zAf hu]
    ·cases h
   ·split at h
    ·rename_i k a k' b e1 e2
     split at h
     ·rename_i hk
      subst hk
      obtain rfl := zCn hx e1
      obtain rfl := zCn hy e2
      have := zBd h
      rw [zIx] at this
      subst this
      simp only [Op.equalIn, Sem.run_bind, zAf hu, Result.andThen_ok, Sem.run_pure]
      congr 1
     ·cases h
    ·cases h
  ·rename_i hu
   split at h <;> cases h
   cases hx; cases hy; simp [Op.equalIn, zAf hu]
  ·rename_i e hu
   split at h
   ·cases h
   ·rename_i k hk hsz
    have hk0 : ∃ m, k = m + 1 := by
     cases k with
     | zero => exact (hk rfl).elim
     | succ m => exact ⟨m, rfl⟩
    obtain ⟨m, rfl⟩ := hk0
    split at h
    ·cases h; cases hx; cases hy; simp [Op.equalIn, zAf hu]
    ·cases h; cases hx; cases hy; simp [Op.equalIn, zAf hu]
    ·cases h; cases hx; cases hy; simp [Op.equalIn, zAf hu]
    ·rename_i b o b' o'
     split at h
     ·rename_i hb
      subst hb
      cases h
      cases hx with | ptr h1 => cases hy with | ptr h2 =>
      rw [h1] at h2; cases h2
      simp only [Op.equalIn, Sem.run_bind, zAf hu, Result.andThen_ok, zAt hsz]
      simp [sameAddr, addr_beq]
     ·cases h
    ·cases h
   ·cases h
  ·rename_i e hu
   split at h <;> cases h
   ·cases hx; cases hy; simp [Op.equalIn, zAf hu]
   ·cases hx; cases hy; simp [Op.equalIn, zAf hu]
   ·cases hx; cases hy; simp [Op.equalIn, zAf hu]
   ·cases hx; cases hy; simp [Op.equalIn, zAf hu]
   ·cases hx; cases hy; simp [Op.equalIn, zAf hu]
  ·rename_i a b hu
   split at h <;> cases h
   ·cases hx; cases hy; simp [Op.equalIn, zAf hu]
   ·cases hx; cases hy; simp [Op.equalIn, zAf hu]
   ·cases hx; cases hy; simp [Op.equalIn, zAf hu]
  ·rename_i a b c hu
   split at h <;> cases h
   ·cases hx; cases hy; simp [Op.equalIn, zAf hu]
   ·cases hx; cases hy; simp [Op.equalIn, zAf hu]
   ·cases hx; cases hy; simp [Op.equalIn, zAf hu]
   ·cases hx; cases hy; simp [Op.equalIn, zAf hu]
   ·cases hx; cases hy; simp [Op.equalIn, zAf hu]
  ·cases h
end
end
end Go.Abs
namespace Go.Abs
noncomputable section
variable [Facts] [zAc]
section
variable {P : Program} {φ : Phi} {w : World}
omit [Facts] [zAc] in
theorem zCy {op : BinOp} {t : TypeId} {x y : Operand} {X Y : Value} (h1 : ∀ a b, X = .agg a → Y = .agg b → P.eqGuardType P.depth t = false) (h2 : X = .nilIface → Y = .nilIface → False) :
  (eqGuard op t x y X Y).run P w = .ok () w := by
 cases op <;> first | (simp [eqGuard]; done) | skip
 all_goals
  cases X <;> cases Y <;> first | (simp [eqGuard]; done) | exact (h2 rfl rfl).elim | (have := h1 _ _ rfl rfl; simp [eqGuard, this])
omit [Facts] [zAc] in
theorem eql_run {t : TypeId} {X Y : Value} {b : Bool} (he : (Op.equalIn 10000 t X Y).run P w = .ok b w) :
  (Op.equal t X Y).run P w = .ok b w := by simpa [Op.equal, Op.maxDepth] using he
omit [Facts] [zAc] in
theorem binOp_eql {t : TypeId} {X Y : Value} {b : Bool} (he : (Op.equalIn 10000 t X Y).run P w = .ok b w) (h1 : ∀ k n k' n', X = .int k n → Y = .int k' n' → False) (h2 : ∀ s s', X = .string s → Y = .string s' → False)
  (h3 : ∀ k n k' n', X = .float k n → Y = .float k' n' → False) (h4 : ∀ k n m k' n' m', X = .complex k n m → Y = .complex k' n' m' → False) :
  (binOp .eql t X Y).run P w = .ok (.bool b) w ∧ (binOp .neq t X Y).run P w = .ok (.bool (!b)) w := by
 have e := eql_run he
 constructor
 ·cases X <;> cases Y <;> first | exact (h1 _ _ _ _ rfl rfl).elim | exact (h2 _ _ rfl rfl).elim | exact (h3 _ _ _ _ rfl rfl).elim | exact (h4 _ _ _ _ _ _ rfl rfl).elim | simp only [binOp, Sem.run_bind, e, Result.andThen_ok, Sem.run_pure]
 ·cases X <;> cases Y <;> first | exact (h1 _ _ _ _ rfl rfl).elim | exact (h2 _ _ rfl rfl).elim | exact (h3 _ _ _ _ rfl rfl).elim | exact (h4 _ _ _ _ _ _ rfl rfl).elim | simp only [binOp, Sem.run_bind, e, Result.andThen_ok, Sem.run_pure]
theorem eqAny_ok {t : TypeId} {x y : AV} {X Y : Value} {b : Bool} (hx : RV φ x X) (hy : RV φ y Y) (h : eqAny P t x y = some b) (hi : ∀ k n k' n', X = .int k n → Y = .int k' n' → False) (hs : ∀ s s', X = .string s → Y = .string s' → False) :
  (∀ op xo yo, (eqGuard op t xo yo X Y).run P w = .ok () w) ∧ (binOp .eql t X Y).run P w = .ok (.bool b) w ∧ (binOp .neq t X Y).run P w = .ok (.bool (!b)) w := by
 unfold eqAny at h
 split at h
 ·rename_i l m
  split at h
  ·cases h
  ·rename_i hg
   have he := eqA_ok w zGg 10000 t _ _ X Y b (by unfold zGg; omega) hx hy h
   cases hx; cases hy
   exact ⟨fun op xo yo => zCy (fun _ _ _ _ => by simpa using hg) (fun h => by cases h), binOp_eql he (fun _ _ _ _ h => by cases h) (fun _ _ h => by cases h) (fun _ _ _ _ h => by cases h) (fun _ _ _ _ _ _ h => by cases h)⟩
 ·cases h
 ·cases h
 ·cases h
 ·cases h
 ·rename_i n1 n2 n3 n4 n5
  have he := eqA_ok w zGg 10000 t _ _ X Y b (by unfold zGg; omega) hx hy h
  have hxa : ∀ a, X = .agg a → ∃ l, x = .agg l := by
   intro a e; subst e
   cases hx with
   | val => exact (n3 _ rfl).elim
   | agg h => exact ⟨_, rfl⟩
  refine ⟨fun op xo yo => zCy (fun a a' e e' => ?_) (fun e e' => ?_), binOp_eql he hi hs (fun k n k' n' e e' => ?_) (fun k n m k' n' m' e e' => ?_)⟩
  ·obtain ⟨l, rfl⟩ := hxa a e
   subst e'
   cases hy with
   | val => simp [zGg, eqA] at h
            split at h <;> first | cases h | (split at h <;> cases h)
   | agg h' => exact (n4 _ _ rfl rfl).elim
  ·subst e e'
   cases hx; cases hy
   exact n5 rfl rfl
  ·subst e; cases hx; exact n1 _ _ rfl
  ·subst e; cases hx; exact n2 _ _ _ rfl
theorem normA_ok {k : IntKind} {e : SE} {X : Value} (h : RV φ (.sx k e) X) : RV φ (normA (.sx k e)) X := by
 unfold normA
 dsimp only
 split
 ·rename_i a b e1 e2
  cases hd : decide (a = b)
  ·exact h
  ·have hd := of_decide_eq_true hd
   subst hd
   cases h with | sx h =>
   have r := e.rng_ok
   have h1 := r.1 _ e1
   have h2 := r.2 _ e2
   rw [h] at h1 h2
   have : a = _ := Int.le_antisymm h1 h2
   subst this
   exact .val _
 ·exact h
omit [Facts] [zAc] in
theorem boolS_ok {neg : Bool} {o : Option Bool} {v : AV} (h : boolS neg o = some v) : ∃ d, o = some d ∧ v = .val (.bool (xor neg d)) := by
 unfold boolS at h
 split at h <;> cases h
 exact ⟨_, rfl, rfl⟩
omit [Facts] [zAc] in
theorem kmax_lt (k : IntKind) : kmax k < ((2 ^ k.bits : Nat) : Int) := by cases k <;> simp [kmax, IntKind.bits]
omit [Facts] [zAc] in
theorem kmin_le (k : IntKind) : kmin k ≤ 0 := by cases k <;> simp [kmin]
omit [Facts] [zAc] in
theorem and_half (m c : Nat) : m &&& c = (m % 2) * (c % 2) + 2 * ((m / 2) &&& (c / 2)) := by
 have h1 := Nat.div_add_mod (m &&& c) 2
 have h2 : (m &&& c) / 2 = (m / 2) &&& (c / 2) := Nat.and_div_two
 have h3 : (m &&& c) % 2 = (m % 2) * (c % 2) := by
  have := Nat.and_mod_two_pow (a := m) (b := c) (n := 1)
  rw [Nat.pow_one] at this
  rw [this]
  rcases Nat.mod_two_eq_zero_or_one m with a | a <;> rcases Nat.mod_two_eq_zero_or_one c with b | b <;> rw [a, b] <;> rfl
 rw [← h2, ← h3]
 omega
theorem andC_ok : ∀ {n c : Nat} {a : SE} {m : Nat}, c < 2 ^ n → a.eval zAc.env = m → (andC n c a).eval zAc.env = ((m &&& c : Nat) : Int) := by
 intro n
 induction n with
 | zero =>
  intro c a m h _
  have : c = 0 := by omega
  subst this
  rw [Nat.and_zero]
  rfl
 | succ n ih =>
  intro c a m h ha
  unfold andC
  cases hb : Nat.beq c 0
  ·rw [cond_false]
   have e1 : (SE.quo a (.lit 2)).eval zAc.env = ((m / 2 : Nat) : Int) := by
    show (a.eval zAc.env).tdiv 2 = _
    rw [ha]; rfl
   have e2 := ih (c := c / 2) (by omega) e1
   have e3 : (bif Nat.beq (c % 2) 1 then SE.rem a (.lit 2) else .lit 0).eval zAc.env = (((m % 2) * (c % 2) : Nat) : Int) := by
    rcases Nat.mod_two_eq_zero_or_one c with b | b
    ·rw [b]; rfl
    ·rw [b]
     show (a.eval zAc.env).tmod 2 = _
     rw [ha, Nat.mul_one]; rfl
   show (bif Nat.beq (c % 2) 1 then SE.rem a (.lit 2) else .lit 0).eval zAc.env + 2 * (andC n (c / 2) (.quo a (.lit 2))).eval zAc.env = _
   rw [e2, e3, and_half m c]
   omega
  ·have := Nat.eq_of_beq_eq_true hb
   subst this
   rw [Nat.and_zero]
   rfl
theorem andS_ok {k : IntKind} {a b : SE} {v : AV} (h : andS k a b = some v) : ∃ z, intA .and k (a.eval zAc.env) (b.eval zAc.env) = some (.val z) ∧ RV φ v z := by
 unfold andS at h
 split at h
 ·rename_i c
  rcases zBr h with ⟨hc, e⟩ | ⟨_, e⟩
  rotate_left
  ·rcases zBr e with ⟨hc, e⟩ | ⟨_, e⟩
   rotate_left
   ·cases e
   cases e
   simp only [Bool.and_eq_true, decide_eq_true_eq] at hc
   obtain ⟨h2, h3, h4⟩ := hc
   have h3 := zBd (zCv h3)
   have h4 := zBd (zCv h4)
   rw [zHb] at h3 h4
   have h3 : 0 ≤ a.eval zAc.env := of_decide_eq_true h3
   have h4 : a.eval zAc.env ≤ kmax k := of_decide_eq_true h4
   refine ⟨_, rfl, .sx ?_⟩
   show (andC 64 c a).eval zAc.env = zKs k (((a.eval zAc.env % ((2 ^ k.bits : Nat) : Int)).toNat &&& ((((c : Nat) : Int)) % ((2 ^ k.bits : Nat) : Int)).toNat : Nat) : Int)
   have hk := kmax_lt k
   obtain ⟨m, hm⟩ : ∃ m : Nat, a.eval zAc.env = m := ⟨(a.eval zAc.env).toNat, by omega⟩
   have hc64 : c < 2 ^ 64 := by
    have : (2 ^ k.bits : Nat) ≤ 2 ^ 64 := Nat.pow_le_pow_right (by decide) (by cases k <;> decide)
    omega
   rw [andC_ok hc64 hm]
   rw [hm] at h4 ⊢
   have e1 : (((m : Nat) : Int) % ((2 ^ k.bits : Nat) : Int)).toNat = m := by
    rw [Int.emod_eq_of_lt (by omega) (by omega)]; rfl
   have e2 : (((c : Nat) : Int) % ((2 ^ k.bits : Nat) : Int)).toNat = c := by
    rw [Int.emod_eq_of_lt (by omega) (by omega)]; rfl
   have hle : m &&& c ≤ c := Nat.and_le_right
   rw [e1, e2]
   generalize m &&& c = r at *
   rw [zCs, wrap_in k _ (by have := kmin_le k; omega) (by omega)]
  cases e
  simp only [Bool.and_eq_true, decide_eq_true_eq] at hc
  obtain ⟨h1, h2, h3, h4⟩ := hc
  have h1 := Nat.eq_of_beq_eq_true h1
  have h3 := zBd (zCv h3)
  have h4 := zBd (zCv h4)
  rw [zHb] at h3 h4
  have h3 : 0 ≤ a.eval zAc.env := of_decide_eq_true h3
  have h4 : a.eval zAc.env ≤ kmax k := of_decide_eq_true h4
  refine ⟨_, rfl, .sx ?_⟩
  show (a.eval zAc.env).tmod ((c + 1 : Nat) : Int) = zKs k (((a.eval zAc.env % ((2 ^ k.bits : Nat) : Int)).toNat &&& ((((c : Nat) : Int)) % ((2 ^ k.bits : Nat) : Int)).toNat : Nat) : Int)
  generalize a.eval zAc.env = x at *
  have hk := kmax_lt k
  obtain ⟨m, rfl⟩ : ∃ m : Nat, x = m := ⟨x.toNat, by omega⟩
  have e1 : (((m : Nat) : Int) % ((2 ^ k.bits : Nat) : Int)).toNat = m := by
   rw [Int.emod_eq_of_lt (by omega) (by omega)]; rfl
  have e2 : (((c : Nat) : Int) % ((2 ^ k.bits : Nat) : Int)).toNat = c := by
   rw [Int.emod_eq_of_lt (by omega) (by omega)]; rfl
  have e3 : m &&& c = m % (c + 1) := by
   have : c = 2 ^ Nat.log2 (c + 1) - 1 := by omega
   rw [this, Nat.and_two_pow_sub_one_eq_mod, ← this, h1]
  have hm : m % (c + 1) ≤ c := Nat.le_of_lt_succ (Nat.mod_lt m (Nat.succ_pos c))
  have hr : ((m : Int)).tmod ((c + 1 : Nat) : Int) = ((m % (c + 1) : Nat) : Int) := Int.ofNat_tmod m (c + 1)
  rw [e1, e2, e3, hr]
  generalize m % (c + 1) = r at *
  rw [zCs, wrap_in k _ (by have := kmin_le k; omega) (by omega)]
 ·cases h
theorem shrS_ok {P : Program} {w : World} {k : IntKind} {a : SE} {y : AV} {Y : Value} {v : AV} (hy : RV φ y Y) (h : shrS k a y = some v) : ∃ k' n z, Y = .int k' n ∧ (Op.shift .shr k (a.eval zAc.env) k' n).run P w = .ok z w ∧ RV φ v z := by
 unfold shrS at h
 split at h
 ·rename_i k' n
  rcases zBr h with ⟨hc, e⟩ | ⟨_, e⟩
  rotate_left
  ·cases e
  cases e
  have h3 := zBd (zCv hc)
  rw [zHb] at h3
  have h3 : 0 ≤ a.eval zAc.env := of_decide_eq_true h3
  cases hy
  refine ⟨k', _, .int k ((a.eval zAc.env).tdiv ((2 ^ min n k.bits : Nat) : Int)), rfl, ?_, .sx rfl⟩
  have hn : ¬ (Int.ofNat n < 0) := by simp
  simp only [Op.shift, if_neg hn, Int.toNat_natCast, Int.ofNat_eq_natCast]
  have e : (a.eval zAc.env).fdiv ((2 : Int) ^ min n k.bits) = (a.eval zAc.env).tdiv ((2 ^ min n k.bits : Nat) : Int) := by
   rw [Int.fdiv_eq_tdiv_of_nonneg h3 (by exact Int.pow_nonneg (by decide))]
   simp
  rw [e]
  rfl
 ·cases h
theorem binS_ok {op : BinOp} {k : IntKind} {a b : SE} {v : AV} (h : binS op k a b = some v) : (op ≠ .shl ∧ op ≠ .shr) ∧ ∃ z, intA op k (a.eval zAc.env) (b.eval zAc.env) = some (.val z) ∧ RV φ v z := by
 have dec : ∀ {c : SE} {d : SE} {r : Bool}, zBi (mkEq c d) = some r → decide (c.eval zAc.env = d.eval zAc.env) = r := fun h => by rw [← zIx]; exact zBd h
 have dle : ∀ {c : SE} {d : SE} {r : Bool}, zBi (zEm c d) = some r → decide (c.eval zAc.env ≤ d.eval zAc.env) = r := fun h => by rw [← zHb]; exact zBd h
 unfold binS at h
 split at h
 ·cases h; exact ⟨by simp, _, rfl, .sx (by rw [wrS_ok, zFt, zCs])⟩
 ·cases h; exact ⟨by simp, _, rfl, .sx (by rw [wrS_ok, subS_ok, zCs])⟩
 ·cases h; exact ⟨by simp, _, rfl, .sx (by rw [wrS_ok, zCs]; rfl)⟩
 ·rcases zDs h with ⟨hc, e⟩ | ⟨hc, h⟩
  ·cases e
   have := dec (zCv hc)
   have hb : ¬ b.eval zAc.env = 0 := of_decide_eq_false this
   exact ⟨by simp, .int k (zKs k ((a.eval zAc.env).tdiv (b.eval zAc.env))), by simp only [intA, if_neg hb], .sx (by rw [wrS_ok, zCs]; rfl)⟩
  ·cases h
 ·rcases zDs h with ⟨hc, e⟩ | ⟨hc, h⟩
  ·cases e
   have := dec (zCv hc)
   have hb : ¬ b.eval zAc.env = 0 := of_decide_eq_false this
   exact ⟨by simp, .int k ((a.eval zAc.env).tmod (b.eval zAc.env)), by simp only [intA, if_neg hb], .sx rfl⟩
  ·cases h
 all_goals first | (cases h; done) | exact ⟨by simp, andS_ok h⟩ | skip
 all_goals
  obtain ⟨d, hd, rfl⟩ := boolS_ok h
  refine ⟨by simp, _, rfl, ?_⟩
  first | have := dec hd | have := dle hd
  subst this
  first
  | (have e : ∀ p q : Bool, p = q → RV φ (.val (.bool p)) (.bool q) := fun p q h => by subst h; exact .val _
     apply e
     rw [Bool.eq_iff_iff]; simp; try omega)
theorem bin_ok {op : BinOp} {t : TypeId} {x y : AV} {X Y : Value} {v : AV} (hx : RV φ x X) (hy : RV φ y Y) (h : binA P op t x y = some v) (xo yo : Operand) :
  (eqGuard op t xo yo X Y).run P w = .ok () w ∧ ∃ z, (binOp op t X Y).run P w = .ok z w ∧ RV φ v z := by
 have val : ∀ {z : Value} {v : AV}, v = .val z → RV φ v z := fun h => by subst h; exact .val _
 have bins : ∀ {k : IntKind} {a b : SE}, X = .int k (a.eval zAc.env) → Y = .int k (b.eval zAc.env) → binS op k a b = some v →
   (eqGuard op t xo yo X Y).run P w = .ok () w ∧ ∃ z, (binOp op t X Y).run P w = .ok z w ∧ RV φ v z := by
  intro k a b h1 h2 h
  subst h1 h2
  obtain ⟨hn, z, e1, e2⟩ := binS_ok (φ := φ) h
  obtain ⟨z', e3, e4⟩ := int_ok (P := P) (w := w) e1 t hn
  cases e4
  exact ⟨zCy (fun _ _ e => by cases e) (fun e => by cases e), z, e3, e2⟩
 unfold binA at h
 split at h
 ·rename_i k a k' b
  obtain rfl := hx.int_inv
  obtain rfl := hy.int_inv
  refine ⟨zCy (fun _ _ e => by cases e) (fun e => by cases e), ?_⟩
  split at h
  ·obtain ⟨z, h1, h2⟩ := shift_ok (P := P) (w := w) (op := .shl) (k' := k') (l := true) rfl h
   exact ⟨z, by simpa [binOp] using h1, val h2⟩
  ·obtain ⟨z, h1, h2⟩ := shift_ok (P := P) (w := w) (op := .shr) (k' := k') (l := false) rfl h
   exact ⟨z, by simpa [binOp] using h1, val h2⟩
  ·rename_i n1 n2
   split at h
   ·rename_i e; subst e
    obtain ⟨z, e1, e2⟩ := int_ok (P := P) (w := w) h t ⟨fun e => n1 e, fun e => n2 e⟩
    exact ⟨z, e1, val e2⟩
   ·cases h
 ·obtain rfl := hx.str_inv
  obtain rfl := hy.str_inv
  obtain ⟨z, e1, e2⟩ := str_ok (P := P) (w := w) h t
  exact ⟨zCy (fun _ _ e => by cases e) (fun e => by cases e), z, e1, val e2⟩
 ·rename_i k a y'
  split at h
  ·obtain ⟨k', n, z, rfl, h1, h2⟩ := shrS_ok (P := P) (w := w) hy h
   have hX := zCn hx rfl
   subst hX
   exact ⟨zCy (fun _ _ e => by cases e) (fun e => by cases e), z, by simpa [binOp] using h1, h2⟩
  ·split at h
   ·rename_i k' b e1
    split at h
    ·rename_i hk
     subst hk
     exact bins (zCn hx rfl) (zCn hy e1) h
    ·cases h
   ·cases h
 ·rename_i k a k' b
  split at h
  ·rename_i hk
   subst hk
   exact bins (zCn hx rfl) (zCn hy rfl) h
  ·cases h
 ·rename_i n1 n2 n3 n4
  have hi : ∀ k n k' n', X = .int k n → Y = .int k' n' → False := by
   intro k n k' n' e e'; subst e e'
   cases hx with
   | sx => exact n1 _ _ rfl
   | val => cases hy with
    | sx => exact n4 _ _ _ _ rfl rfl
    | val => exact n2 _ _ _ _ rfl rfl
  have hs : ∀ s s', X = .string s → Y = .string s' → False := by
   intro s s' e e'; subst e e'; cases hx; cases hy; exact n3 _ _ rfl rfl
  split at h
  ·cases he : eqAny P t x y with
   | none => rw [he] at h; cases h
   | some b =>
    rw [he] at h; cases h
    obtain ⟨h1, h2, h3⟩ := eqAny_ok (w := w) hx hy he hi hs
    exact ⟨h1 _ _ _, _, h2, .val _⟩
  ·cases he : eqAny P t x y with
   | none => rw [he] at h; cases h
   | some b =>
    rw [he] at h; cases h
    obtain ⟨h1, h2, h3⟩ := eqAny_ok (w := w) hx hy he hi hs
    exact ⟨h1 _ _ _, _, h3, .val _⟩
  ·cases h
end
end
end Go.Abs
namespace Go.Abs
noncomputable section
variable [Facts] [zAc]
section
variable {P : Program} {φ : Phi} {w : World}
def Bd (x : Option Value) (d n : Nat) : Prop := (x = none ∧ n = d) ∨ ∃ k, x = some (.int k n)
omit [Facts] [zAc] in
theorem run_sliceBound {k : IntKind} {n y : Nat} (h : n ≤ y) (c : BoundsCode) : (Instr.sliceBound (.int k n) y c).run P w = .ok n w := by
 have : (0 : Int) ≤ (n : Int) ∧ (n : Int) ≤ (y : Int) := ⟨by omega, by omega⟩
 simp [Instr.sliceBound, asIntOf, h]
omit [Facts] [zAc] in
theorem zIe {isS : Bool} {len cap : Nat} {lo hi mx : Option Value} {l h m : Nat} (hl : Bd lo 0 l) (hh : Bd hi len h) (hm : Bd mx cap m) (hmh : mx ≠ none → hi ≠ none) (h1 : l ≤ h) (h2 : h ≤ m) (h3 : m ≤ cap) :
  (Instr.sliceBounds isS len cap lo hi mx).run P w = .ok (l, h, m) w := by
 rcases hm with ⟨rfl, rfl⟩ | ⟨k, rfl⟩
 ·rcases hh with ⟨rfl, rfl⟩ | ⟨k2, rfl⟩
  ·rcases hl with ⟨rfl, rfl⟩ | ⟨k3, rfl⟩
   ·simp [Instr.sliceBounds]
   ·simp [Instr.sliceBounds, run_sliceBound h1]
  ·rcases hl with ⟨rfl, rfl⟩ | ⟨k3, rfl⟩
   ·simp [Instr.sliceBounds, run_sliceBound h2]
   ·simp [Instr.sliceBounds, run_sliceBound h1, run_sliceBound h2]
 ·rcases hh with ⟨rfl, rfl⟩ | ⟨k2, rfl⟩
  ·exact (hmh (by simp) rfl).elim
  ·rcases hl with ⟨rfl, rfl⟩ | ⟨k3, rfl⟩
   ·simp [Instr.sliceBounds, run_sliceBound h2, run_sliceBound h3]
   ·simp [Instr.sliceBounds, run_sliceBound h1, run_sliceBound h2, run_sliceBound h3]
def Rel? (φ : Phi) (x : Option AV) (X : Option Value) : Prop := (x = none ∧ X = none) ∨ ∃ v V, x = some v ∧ X = some V ∧ RV φ v V
theorem zFx {x : Option AV} {X : Option Value} {d : Option Nat} {n : Nat} (hr : Rel? φ x X) (h : zHs x d = some (some n)) : (X = none ∧ x = none ∧ d = some n) ∨ ∃ k, X = some (.int k n) := by
 rcases hr with ⟨rfl, rfl⟩ | ⟨v, V, rfl, rfl, hv⟩
 ·simp only [zHs] at h; cases h; exact .inl ⟨rfl, rfl, rfl⟩
 ·unfold zHs at h
  split at h
  ·rename_i e; cases e
  ·rename_i k m e; cases e; cases h; cases hv; exact .inr ⟨_, rfl⟩
  ·cases h
theorem bound_none {x : Option AV} {X : Option Value} {d : Option Nat} (hr : Rel? φ x X) (h : zHs x d = some none) : X = none ∧ d = none := by
 rcases hr with ⟨rfl, rfl⟩ | ⟨v, V, rfl, rfl, hv⟩
 ·simp only [zHs] at h; cases h; exact ⟨rfl, rfl⟩
 ·unfold zHs at h
  split at h
  ·rename_i e; cases e
  ·cases h
  ·cases h
theorem rel?_none {x : Option AV} {X : Option Value} (hr : Rel? φ x X) : x = none ↔ X = none := by
 rcases hr with ⟨rfl, rfl⟩ | ⟨v, V, rfl, rfl, _⟩ <;> simp
omit [Facts] [zAc] in
theorem zCd (b o n : Nat) : (⟨b, o, none⟩ : Addr).add n = ⟨b, o + n, none⟩ := by
 unfold Addr.add
 split
 ·rename_i h; subst h; rfl
 ·rfl
theorem slice_row {b off esz len : Nat} {cap : Option Nat} {lo hi mx : Option AV} {LO HI MX : Option Value} {v : AV} {bs : Option Addr} {n c : Nat}
  (hx : RV φ (.sl b off esz len cap) (.slice bs n c)) (h1 : Rel? φ lo LO) (h2 : Rel? φ hi HI) (h3 : Rel? φ mx MX) (h : zLa (.sl b off esz len cap) lo hi mx = some v) :
  ∃ l h m, (∀ isS, (Instr.sliceBounds isS n c LO HI MX).run P w = .ok (l, h, m) w) ∧ RV φ v (.slice (if m = l then bs else bs.map (·.add (l * esz))) (h - l) (m - l)) := by
 cases hx with | sl e hc hl ho =>
 rename_i a o
 unfold zLa at h
 simp only at h
 split at h
 ·rename_i l h' m e1 e2 e3
  cases hb : (Nat.ble l h' && Nat.ble h' m && Nat.ble m (cap.getD len) && (mx.isNone || hi.isSome))
  ·rw [hb] at h; cases h
  ·rw [hb] at h
   simp only [cond_true] at h; cases h
   simp only [Bool.and_eq_true, Bool.or_eq_true] at hb
   obtain ⟨⟨⟨b1, b2⟩, b3⟩, b4⟩ := hb
   have b1 := Nat.le_of_ble_eq_true b1
   have b2 := Nat.le_of_ble_eq_true b2
   have b3 := Nat.le_of_ble_eq_true b3
   have hmc : m ≤ c := by
    subst hc
    cases cap with
    | some c => simpa using b3
    | none => simp at b3; simp only at hl ⊢; omega
   have q1 : Bd LO 0 l := by
    rcases zFx h1 e1 with ⟨h, _, hd⟩ | h
    ·cases hd; exact .inl ⟨h, rfl⟩
    ·exact .inr h
   have q2 : Bd HI len h' := by
    rcases zFx h2 e2 with ⟨h, _, hd⟩ | h
    ·cases hd; exact .inl ⟨h, rfl⟩
    ·exact .inr h
   have q3 : Bd MX c m := by
    rcases zFx h3 e3 with ⟨h, _, hd⟩ | h
    ·subst hd hc; exact .inl ⟨h, rfl⟩
    ·exact .inr h
   have q4 : MX ≠ none → HI ≠ none := by
    intro hm hh
    rcases b4 with b4 | b4
    ·exact hm ((rel?_none h3).1 (by simpa using b4))
    ·have := (rel?_none h2).2 hh; rw [this] at b4; cases b4
   refine ⟨l, h', m, fun isS => zIe q1 q2 q3 q4 b1 b2 hmc, ?_⟩
   by_cases hml : m = l
   ·rw [if_pos hml]
    exact .sl e (by simp) (by omega) (by omega)
   ·rw [if_neg hml]
    simp only [Option.map_some, zCd]
    exact .sl e (by simp) (by omega) (fun _ => by rw [ho (by omega)]; omega)
 ·rename_i l h' e1 e2 e3
  cases hb : (Nat.ble l h' && Nat.ble h' len && Nat.blt 0 esz)
  ·rw [hb] at h; cases h
  ·rw [hb] at h
   simp only [cond_true] at h; cases h
   simp only [Bool.and_eq_true] at hb
   obtain ⟨⟨b1, b2⟩, b3⟩ := hb
   have b1 := Nat.le_of_ble_eq_true b1
   have b2 := Nat.le_of_ble_eq_true b2
   have b3 : 0 < esz := Nat.le_of_ble_eq_true b3
   obtain ⟨hmn, hcn⟩ := bound_none h3 e3
   subst hcn
   simp only at hc
   have q1 : Bd LO 0 l := by
    rcases zFx h1 e1 with ⟨h, _, hd⟩ | h
    ·cases hd; exact .inl ⟨h, rfl⟩
    ·exact .inr h
   have q2 : Bd HI len h' := by
    rcases zFx h2 e2 with ⟨h, _, hd⟩ | h
    ·cases hd; exact .inl ⟨h, rfl⟩
    ·exact .inr h
   refine ⟨l, h', c, fun isS => zIe q1 q2 (.inl ⟨hmn, rfl⟩) (fun h => (h hmn).elim) b1 (by omega) (Nat.le_refl _), ?_⟩
   have hdiv : (off + l * esz) / esz = off / esz + l := Nat.add_mul_div_right _ _ b3
   by_cases hml : c = l
   ·rw [if_pos hml]
    exact .sl e (by simp only [hdiv]; omega) (by omega) (by omega)
   ·rw [if_neg hml]
    simp only [Option.map_some, zCd]
    exact .sl e (by simp only [hdiv]; omega) (by omega) (fun _ => by rw [ho (by omega)]; omega)
 ·cases h
theorem boundE_ok {x : Option AV} {X : Option Value} {d e : SE} {D n : Nat} (hr : Rel? φ x X) (hd : d.eval zAc.env = D) (h : boundE x d = some e) (hn : e.eval zAc.env = n) : Bd X D n := by
 rcases hr with ⟨rfl, rfl⟩ | ⟨v, V, rfl, rfl, hv⟩
 ·simp only [boundE] at h; cases h; rw [hd] at hn; exact .inl ⟨rfl, by omega⟩
 ·simp only [boundE] at h
  split at h
  ·rename_i k e' hs
   cases h
   have := zCn hv hs
   rw [hn] at this
   exact .inr ⟨k, by rw [this]⟩
  ·cases h
theorem slice_tab {b z : Nat} {off len : SE} {lo hi mx : Option AV} {LO HI MX : Option Value} {v : AV} {bs : Option Addr} {n c : Nat}
  (hx : RV φ (.ss b z off len) (.slice bs n c)) (h1 : Rel? φ lo LO) (h2 : Rel? φ hi HI) (h3 : Rel? φ mx MX) (h : sliceT b z off len lo hi mx = some v) :
  ∃ l h m, (∀ isS, (Instr.sliceBounds isS n c LO HI MX).run P w = .ok (l, h, m) w) ∧ RV φ v (.slice (if m = l then bs else bs.map (·.add (l * z))) (h - l) (m - l)) := by
 cases hx with | ss e hm hl hc ho =>
 rename_i a m0 o
 unfold sliceT at h
 split at h
 ·rename_i le he e1 e2
  rcases zDs h with ⟨hb, h⟩ | ⟨_, h⟩
  ·cases h
   simp only [Bool.and_eq_true] at hb
   have b1 := zJn hb.1
   have b2 := zJn hb.2.1
   have b3 := zJn hb.2.2
   simp only [SE.eval] at b1
   obtain ⟨l, hl'⟩ : ∃ l : Nat, le.eval zAc.env = l := ⟨_, (Int.toNat_of_nonneg b1).symm⟩
   obtain ⟨hh, hh'⟩ : ∃ l : Nat, he.eval zAc.env = l := ⟨_, (Int.toNat_of_nonneg (by omega)).symm⟩
   have hMX : MX = none := by
    rcases h3 with ⟨_, h⟩ | ⟨v, V, h, _⟩
    ·exact h
    ·cases h
   have q1 := boundE_ok (D := 0) h1 rfl e1 hl'
   have q2 := boundE_ok h2 hl e2 hh'
   refine ⟨l, hh, c, fun isS => zIe q1 q2 (.inl ⟨hMX, rfl⟩) (fun h => (h hMX).elim) (by omega) (by omega) (Nat.le_refl _), ?_⟩
   have k1 : (zKx off le).eval zAc.env = (m0 + l : Nat) := by rw [zFt, hm, hl']; rfl
   have k2 : (subS he le).eval zAc.env = (hh - l : Nat) := by rw [subS_ok, hl', hh']; omega
   by_cases hml : c = l
   ·rw [if_pos hml]
    exact .ss e k1 k2 ⟨by omega, by omega⟩ (fun h => by omega)
   ·rw [if_neg hml]
    simp only [Option.map_some, zCd]
    exact .ss e k1 k2 ⟨by omega, by omega⟩ (fun _ => by rw [ho (by omega), Nat.add_mul]; omega)
  ·cases h
 ·cases h
theorem lay_ok {ys : List Value} : ∀ {vs : List AV} {cs : List AV} {xs : Array Value} {off k : Nat}, RL φ cs xs.toList → RL φ vs ys →
  RL φ (layA cs (off + k) vs) ((ys.zipIdx k).foldl (fun cs (c, j) => cs.setIfInBounds (off + j) c) xs).toList := by
 induction ys with
 | nil => intro vs cs xs off k h hv; cases hv; simpa [layA] using h
 | cons y ys ih =>
  intro vs cs xs off k h hv
  cases hv with | cons hy hv =>
  simp only [layA, List.zipIdx_cons, List.foldl_cons]
  have := ih (off := off) (k := k + 1) (cs := cs.set (off + k) _) (xs := xs.setIfInBounds (off + k) y) (by simpa using h.set hy (off + k)) hv
  exact this
inductive RP (φ : Phi) : List (Nat × AV) → List (Nat × Value) → Prop
 | nil : RP φ [] []
 | cons {i : Nat} {v : AV} {x : Value} {l : List (Nat × AV)} {r : List (Nat × Value)} (h : RV φ v x) (hl : RP φ l r) : RP φ ((i, v) :: l) ((i, x) :: r)
theorem parts_ok {ev : Operand → Option AV} {ρ : Operand → Value} (h : EV φ ev ρ) : ∀ {l : List (Nat × Operand)} {r : List (Nat × AV)}, zLc ev l = some r → RP φ r (l.map fun (i, x) => (i, ρ x)) := by
 intro l
 induction l with
 | nil => intro r hr; simp only [zLc] at hr; cases hr; exact .nil
 | cons o l ih =>
  obtain ⟨i, x⟩ := o
  intro r hr
  simp only [zLc] at hr
  split at hr
  ·rename_i v q hv hq
   cases hr
   exact .cons (h _ _ hv) (ih hq)
  ·cases hr
theorem fill_ok {place : Nat → Option (Nat × Nat)} {place' : Nat → Option (Nat × Nat)} (hp : ∀ i p, place i = some p → place' i = some p) : ∀ {parts : List (Nat × AV)} {parts' : List (Nat × Value)} {cs : List AV} {xs : Array Value} {r : List AV},
  RP φ parts parts' → RL φ cs xs.toList → fillA place cs parts = some r → ∃ ys, Instr.fill place' xs parts' = some ys ∧ RL φ r ys.toList := by
 intro parts
 induction parts with
 | nil => intro parts' cs xs r h1 h2 h; cases h1; simp only [fillA] at h; cases h; exact ⟨xs, rfl, h2⟩
 | cons p parts ih =>
  intro parts' cs xs r h1 h2 h
  cases h1 with | cons hv hl =>
  rename_i i v x q
  simp only [fillA] at h
  split at h
  ·cases h
  ·rename_i off size hpl
   cases hb : (Nat.beq v.cells.length size && Nat.ble (off + size) cs.length)
   ·rw [hb] at h; cases h
   ·rw [hb] at h
    simp only [cond_true] at h
    simp only [Bool.and_eq_true] at hb
    have b1 : v.cells.length = size := Nat.eq_of_beq_eq_true hb.1
    have b2 := Nat.le_of_ble_eq_true hb.2
    have hvc := hv.cells
    have l1 : x.cells.size = size := by have := hvc.length; simp at this; omega
    have l2 : cs.length = xs.size := by simpa using h2.length
    simp only [Instr.fill, hp _ _ hpl]
    have hg : (decide (x.cells.size ≠ size) || decide (off + x.cells.size > xs.size)) = false := by
     simp only [Bool.or_eq_false_iff, decide_eq_false_iff_not]
     omega
    rw [if_neg (by rw [hg]; decide)]
    refine ih hl ?_ h
    have := lay_ok (off := off) (k := 0) h2 hvc
    rw [← Array.foldl_toList, Array.toList_zipIdx]
    exact this
omit [Facts] [zAc] in
theorem run_sizes {fs : List Field} (h : fs.all (fun f => (szO P f.type).isSome) = true) : ∀ w : World, ∃ l, (List.mapM (fun (f : Field) => (do pure (f.offset, ← sizeOf f.type) : Sem (Nat × Nat))) fs).run P w = .ok l w ∧ ∀ (i : Nat) (f : Field) (n : Nat), fs[i]? = some f → szO P f.type = some n → l[i]? = some (f.offset, n) := by
 induction fs with
 | nil => intro w; exact ⟨[], by simp, by simp⟩
 | cons f fs ih =>
  intro w
  simp only [List.all_cons, Bool.and_eq_true] at h
  obtain ⟨n, hn⟩ := Option.isSome_iff_exists.1 h.1
  obtain ⟨l, h1, h2⟩ := ih h.2 w
  refine ⟨(f.offset, n) :: l, by simp only [List.mapM_cons, Sem.run_bind, zAt hn, Result.andThen_ok, Sem.run_pure, h1], fun i g m hi hm => ?_⟩
  cases i with
  | zero => simp at hi; subst hi; rw [hn] at hm; cases hm; simp
  | succ i => simp at hi; simpa using h2 i g m hi hm
theorem build_ok {t : TypeId} {parts : List (Nat × AV)} {parts' : Array (Nat × Value)} {v : AV} (hp : RP φ parts parts'.toList) (h : buildA P t parts = some v) :
  ∃ x, (Instr.build t parts').run P w = .ok x w ∧ RV φ v x := by
 unfold buildA at h
 split at h
 ·rename_i z fs hz hu
  cases hb : fs.toList.all (fun f => (szO P f.type).isSome)
  ·rw [hb] at h; cases h
  ·rw [hb] at h
   simp only [cond_true] at h
   cases hf : fillA (placeS P fs) (ofV z).cells parts with
   | none => rw [hf] at h; cases h
   | some r =>
    rw [hf] at h; cases h
    obtain ⟨l, h1, h2⟩ := run_sizes (P := P) hb w
    obtain ⟨ys, e1, e2⟩ := fill_ok (place' := (l.toArray[·]?)) (fun i p hpl => by
     unfold placeS at hpl
     split at hpl
     ·rename_i f hfi
      cases hs : szO P f.type with
      | none => rw [hs] at hpl; cases hpl
      | some n => rw [hs] at hpl; cases hpl; simpa using h2 i f n (by simpa using hfi) hs
     ·cases hpl) hp ((RV.ofV z).cells) hf
    refine ⟨.agg ys, ?_, ?_⟩
    ·simp only [Instr.build, Sem.run_bind, zFv hz, zAf hu, Result.andThen_ok, Array.mapM_eq_mapM_toList, Sem.run_map, h1, e1, Sem.run_pure]
    ·have := RV.agg e2; simpa using this
 ·rename_i z n e hz hu
  cases hk : szO P e with
  | none => rw [hk] at h; cases h
  | some k =>
   rw [hk] at h
   simp only at h
   cases hf : fillA (fun i => some (i * k, k)) (ofV z).cells parts with
   | none => rw [hf] at h; cases h
   | some r =>
    rw [hf] at h; cases h
    obtain ⟨ys, e1, e2⟩ := fill_ok (place' := fun i => some (i * k, k)) (fun i p h => h) hp ((RV.ofV z).cells) hf
    refine ⟨.agg ys, ?_, ?_⟩
    ·simp only [Instr.build, Sem.run_bind, zFv hz, zAf hu, Result.andThen_ok, zAt hk, e1, Sem.run_pure]
    ·have := RV.agg e2; simpa using this
 ·cases h
end
end
end Go.Abs
namespace Go.Abs
noncomputable section
variable [Facts] [zAc]
section
variable {P : Program} {φ : Phi} {w : World} {ev : Operand → Option AV} {ρ : Operand → Value}
theorem zEr (h : EV φ ev ρ) {lo : Option Operand} {l : Option AV} (hl : (match lo with | none => some none | some o => (ev o).map some) = some l) : Rel? φ l (lo.map ρ) := by
 cases lo with
 | none => simp only at hl; cases hl; exact .inl ⟨rfl, rfl⟩
 | some o =>
  simp only at hl
  cases he : ev o with
  | none => rw [he] at hl; cases hl
  | some v => rw [he] at hl; cases hl; exact .inr ⟨v, ρ o, rfl, rfl, h _ _ he⟩
theorem string_slice {s : ByteArray} {lo hi mx : Option AV} {LO HI MX : Option Value} {v : AV} (h1 : Rel? φ lo LO) (h2 : Rel? φ hi HI) (h3 : Rel? φ mx MX) (h : zLa (.val (.string s)) lo hi mx = some v) :
  ∃ l h, MX = none ∧ (Instr.sliceBounds false s.size s.size LO HI none).run P w = .ok (l, h, s.size) w ∧ v = .val (.string (s.extract l h)) := by
 unfold zLa at h
 simp only at h
 split at h
 ·rename_i l h' e1 e2
  cases hb : (Nat.ble l h' && Nat.ble h' s.size)
  ·rw [hb] at h; cases h
  ·rw [hb] at h
   simp only [cond_true] at h; cases h
   simp only [Bool.and_eq_true] at hb
   have b1 := Nat.le_of_ble_eq_true hb.1
   have b2 := Nat.le_of_ble_eq_true hb.2
   have q1 : Bd LO 0 l := by
    rcases zFx h1 e1 with ⟨h, _, hd⟩ | h
    ·cases hd; exact .inl ⟨h, rfl⟩
    ·exact .inr h
   have q2 : Bd HI s.size h' := by
    rcases zFx h2 e2 with ⟨h, _, hd⟩ | h
    ·cases hd; exact .inl ⟨h, rfl⟩
    ·exact .inr h
   exact ⟨l, h', (rel?_none h3).1 rfl, zIe q1 q2 (.inl ⟨rfl, rfl⟩) (fun h => (h rfl).elim) b1 b2 (Nat.le_refl _), rfl⟩
 ·cases h
theorem nil_slice {lo hi mx : Option AV} {LO HI MX : Option Value} {v : AV} (h1 : Rel? φ lo LO) (h2 : Rel? φ hi HI) (h3 : Rel? φ mx MX) (h : zLa (.val (.slice none 0 0)) lo hi mx = some v) (hmh : MX ≠ none → HI ≠ none) :
  (Instr.sliceBounds true 0 0 LO HI MX).run P w = .ok (0, 0, 0) w ∧ v = .val (.slice none 0 0) := by
 unfold zLa at h
 simp only at h
 split at h
 ·rename_i e1 e2 e3
  cases h
  have q1 : Bd LO 0 0 := by
   rcases zFx h1 e1 with ⟨h, _, hd⟩ | h
   ·exact .inl ⟨h, rfl⟩
   ·exact .inr h
  have q2 : Bd HI 0 0 := by
   rcases zFx h2 e2 with ⟨h, _, hd⟩ | h
   ·exact .inl ⟨h, rfl⟩
   ·exact .inr h
  have q3 : Bd MX 0 0 := by
   rcases zFx h3 e3 with ⟨h, _, hd⟩ | h
   ·exact .inl ⟨h, rfl⟩
   ·exact .inr h
  exact ⟨zIe q1 q2 q3 hmh (Nat.le_refl _) (Nat.le_refl _) (Nat.le_refl _), rfl⟩
 ·cases h
theorem min_ok {l : List AV} : ∀ {x : AV} {X : Value} {L : List Value} {v : AV}, RV φ x X → RL φ l L →
  (minA false x l = some v → ∃ y, (L.foldlM Builtin.min2 X).run P w = .ok y w ∧ RV φ v y) ∧ (minA true x l = some v → ∃ y, (L.foldlM Builtin.max2 X).run P w = .ok y w ∧ RV φ v y) := by
 induction l with
 | nil => intro x X L v hx hl; cases hl; simp only [minA]; exact ⟨fun h => by cases h; exact ⟨X, by simp, hx⟩, fun h => by cases h; exact ⟨X, by simp, hx⟩⟩
 | cons y l ih =>
  intro x X L v hx hl
  cases hl with | cons hy hl =>
  constructor
  ·intro h
   unfold minA at h
   split at h <;> first | (rename_i e; cases e; done) | skip
   ·rename_i k a k' b l' e
    cases e
    obtain rfl := hx.int_inv
    obtain rfl := hy.int_inv
    split at h
    ·rename_i hk; subst hk
     simp only [cond_false] at h
     obtain ⟨z, h1, h2⟩ := (ih (.val _) hl).1 h
     exact ⟨z, by simpa [List.foldlM_cons, Builtin.min2] using h1, h2⟩
    ·cases h
   ·rename_i e
    cases e
    split at h
    ·rename_i k a k' b e1 e2
     split at h
     ·rename_i hk; subst hk
      split at h
      ·rename_i d hd
       have hd := ordS_ok hd
       obtain rfl := zCn hx e1
       obtain rfl := zCn hy e2
       simp only [cond_false] at h
       cases d
       ·have hlt := hd.2 rfl
        obtain ⟨z, h1, h2⟩ := (ih hy hl).1 h
        have he : (if b.eval zAc.env < a.eval zAc.env then b.eval zAc.env else a.eval zAc.env) = b.eval zAc.env := by
         by_cases g : b.eval zAc.env < a.eval zAc.env
         ·rw [if_pos g]
         ·rw [if_neg g]; omega
        exact ⟨z, by simpa [List.foldlM_cons, Builtin.min2, he] using h1, h2⟩
       ·have hle := hd.1 rfl
        obtain ⟨z, h1, h2⟩ := (ih hx hl).1 h
        exact ⟨z, by simpa [List.foldlM_cons, Builtin.min2, if_neg (Int.not_lt.2 hle)] using h1, h2⟩
      ·cases h
     ·cases h
    ·cases h
  ·intro h
   unfold minA at h
   split at h <;> first | (rename_i e; cases e; done) | skip
   ·rename_i k a k' b l' e
    cases e
    obtain rfl := hx.int_inv
    obtain rfl := hy.int_inv
    split at h
    ·rename_i hk; subst hk
     simp only [cond_true] at h
     obtain ⟨z, h1, h2⟩ := (ih (.val _) hl).2 h
     exact ⟨z, by simpa [List.foldlM_cons, Builtin.max2] using h1, h2⟩
    ·cases h
   ·rename_i e
    cases e
    split at h
    ·rename_i k a k' b e1 e2
     split at h
     ·rename_i hk; subst hk
      split at h
      ·rename_i d hd
       have hd := ordS_ok hd
       obtain rfl := zCn hx e1
       obtain rfl := zCn hy e2
       simp only [cond_true] at h
       cases d
       ·have hlt := hd.2 rfl
        obtain ⟨z, h1, h2⟩ := (ih hx hl).2 h
        exact ⟨z, by simpa [List.foldlM_cons, Builtin.max2, if_neg (show ¬ b.eval zAc.env > a.eval zAc.env by omega)] using h1, h2⟩
       ·have hle := hd.1 rfl
        obtain ⟨z, h1, h2⟩ := (ih hy hl).2 h
        refine ⟨z, ?_, h2⟩
        have he : (if b.eval zAc.env > a.eval zAc.env then b.eval zAc.env else a.eval zAc.env) = b.eval zAc.env := by
         by_cases g : b.eval zAc.env > a.eval zAc.env
         ·rw [if_pos g]
         ·rw [if_neg g]; omega
        simpa [List.foldlM_cons, Builtin.max2, he] using h1
      ·cases h
     ·cases h
    ·cases h
theorem len_ok {t : TypeId} {x : AV} {X : Value} {v : AV} (hx : RV φ x X) (h : lenA P t x = some v) (ts : Array TypeId) (ht : ts[0]? = some t) (ty : TypeId) (as : Array Value) (ha : as[0]? = some X) :
  ∃ y, (Builtin.len_ ts ty as).run P w = .ok y w ∧ RV φ v y := by
 unfold lenA at h
 split at h
 ·rename_i s hu
  cases h; cases hx
  exact ⟨goInt s.size, by simp [Builtin.len_, ht, ha, zAf hu], .val _⟩
 ·rename_i n e hu
  cases h
  refine ⟨goInt n, ?_, .val _⟩
  simp only [Builtin.len_, ht, ha, Sem.run_bind, zAf hu, Result.andThen_ok]
  cases X <;> rfl
 ·rename_i a hu
  split at h
  ·rename_i n e hu2
   cases h
   refine ⟨goInt n, ?_, .val _⟩
   simp only [Builtin.len_, ht, ha, Sem.run_bind, zAf hu, Result.andThen_ok]
   cases X <;> simp [zAf hu2]
  ·cases h
 ·rename_i e bs n c hu
  cases h; cases hx
  exact ⟨goInt n, by simp [Builtin.len_, ht, ha, zAf hu], .val _⟩
 ·rename_i e b off z n c hu
  cases h; cases hx
  exact ⟨goInt n, by simp [Builtin.len_, ht, ha, zAf hu], .val _⟩
 ·rename_i e b z off n hu
  cases h
  cases hx with | ss e' hm hl hc ho =>
  rename_i a m l o c
  exact ⟨goInt l, by simp [Builtin.len_, ht, ha, zAf hu], .sx hl⟩
 ·rename_i e n hu
  cases h
  cases hx with | so hl =>
  rename_i l c p
  exact ⟨goInt l, by simp [Builtin.len_, ht, ha, zAf hu], .sx hl⟩
 ·cases h
omit [Facts] [zAc] in
theorem zLh {α β : Type} (a : Array α) (f : α → β) : (a.map f) = ⟨a.toList.map f⟩ := by
 apply Array.ext'; simp
set_option maxHeartbeats 1000000 in
theorem pure_ok (h : EV φ ev ρ) {o : Oper} {v : AV} (hv : pureV P ev o.op = some v) : Yes P φ ρ w o v := by
 obtain ⟨dst, op, ty, pos, after, guard⟩ := o
 unfold Yes
 simp only at hv
 unfold pureV at hv
 delta pv_pick zIs pv_unOp zEo zIt zKj zPh zPg zHq zHp zPf zPi zPj zNs pv_call at hv
 try dsimp only at hv
 split at hv
 ·rename_i x; exact ⟨ρ x, by simp [execOp], h _ _ hv⟩
 ·rename_i x; exact ⟨ρ x, by simp [execOp], h _ _ hv⟩
 ·rename_i c a b
  split at hv
  ·rename_i t hc
   have e := (h _ _ hc).bool_inv
   cases t
   ·exact ⟨ρ b, by simp [execOp, e, asBool], h _ _ hv⟩
   ·exact ⟨ρ a, by simp [execOp, e, asBool], h _ _ hv⟩
  ·cases hv
 ·rename_i x
  split at hv
  ·rename_i b o hx
   cases hv
   have := h _ _ hx
   generalize hX : ρ x = X at *
   cases this with | ptr e => exact ⟨_, by simp [execOp, hX], .ptr e⟩
  ·rename_i f a c hx
   cases hv
   have := h _ _ hx
   generalize hX : ρ x = X at *
   cases this with | fn e1 e2 => exact ⟨_, by simp [execOp, hX], .fn e1 e2⟩
  ·cases hv
 ·rename_i uop t x
  split at hv
  ·rename_i k n hx
   cases hv
   have e := (h _ _ hx).int_inv
   exact ⟨.int k (k.wrap (0 - n)), by simp [execOp, e, Op.unary, Op.intArith], by rw [zCs]; exact .val _⟩
  ·rename_i k n hx
   cases hv
   have e := zCn (h _ _ hx) rfl
   exact ⟨.int k (k.wrap (0 - n.eval zAc.env)), by simp [execOp, e, Op.unary, Op.intArith], .sx (by rw [wrS_ok]; rfl)⟩
  ·rename_i k n hx
   have e := (h _ _ hx).int_inv
   obtain ⟨z, h1, h2⟩ := bits_ok (P := P) (w := w) hv
   subst h2
   exact ⟨z, by simp [execOp, e, Op.unary, h1], .val _⟩
  ·rename_i b hx
   cases hv
   have e := (h _ _ hx).bool_inv
   exact ⟨.bool (!b), by simp [execOp, e, Op.unary], .val _⟩
  ·cases hv
 ·rename_i t x
  split at hv
  ·cases hv
  ·rename_i d hne hu
   cases hx : ev x with
   | none => rw [hx] at hv; cases hv
   | some y =>
    rw [hx] at hv; cases hv
    refine ⟨.iface t (ρ x), ?_, .ifc (h _ _ hx)⟩
    simp only [execOp, Instr.makeInterface, Sem.run_bind, zAf hu, Result.andThen_ok]
    cases d <;> first | rfl | exact (hne _ hu).elim
  ·cases hv
 ·rename_i f first cap
  split at hv
  ·rename_i a c h1 h2
   cases hv
   refine ⟨.func f (first.map ρ) (cap.map ρ), by simp [execOp, Instr.makeFunc], ?_⟩
   rw [zLh, zLh]
   exact .fn (zEl h h1) (zEl h h2)
  ·cases hv
 ·rename_i t ix
  split at hv
  ·rename_i l hx
   have := h _ _ hx
   generalize hX : ρ t = X at *
   cases this with | tup e =>
   obtain ⟨y, h1, h2⟩ := e.get hv
   exact ⟨y, by simp [execOp, hX, Instr.extract, h1], h2⟩
  ·cases hv
 ·rename_i t x f
  split at hv
  ·rename_i fd cs hf hx
   obtain ⟨fs, hu, hfs⟩ := field_ok hf
   have := h _ _ hx
   generalize hX : ρ x = X at *
   cases this with | agg e =>
   obtain ⟨y, h1, h2⟩ := zHo (P := P) (xs := ⟨_⟩) e hv w
   exact ⟨y, by simp [execOp, hX, Instr.field, zAf hu, hfs, asAgg, h1], h2⟩
  ·cases hv
 ·rename_i t x i
  split at hv
  ·rename_i len e cs k n hu hx hi
   have ei := (h _ _ hi).int_inv
   have := h _ _ hx
   generalize hX : ρ x = X at *
   cases this with | agg e' =>
   split at hv
   ·rename_i sz hs
    cases hb : Nat.blt n len
    ·rw [hb] at hv; cases hv
    ·rw [hb] at hv
     simp only [cond_true] at hv
     have hlt : n < len := Nat.le_of_ble_eq_true hb
     obtain ⟨y, h1, h2⟩ := zHo (P := P) (xs := ⟨_⟩) e' hv w
     exact ⟨y, by simp [execOp, hX, ei, Instr.index, asIntOf, zAf hu, zAt hs, hlt, h1], h2⟩
   ·cases hv
  ·rename_i s k n hu hx hi
   have ei := (h _ _ hi).int_inv
   have es := (h _ _ hx).str_inv
   split at hv
   ·rename_i b hb
    cases hv
    have hb' : s[n]? = some b := by
     have hlt : n < s.data.toList.length := (List.getElem?_eq_some_iff.1 hb).1
     have hlt' : n < s.size := by simpa using hlt
     have he := (List.getElem?_eq_some_iff.1 hb).2
     rw [getElem?_pos s n hlt']
     exact congrArg some he
    exact ⟨.int .u8 b.toNat, by simp [execOp, ei, es, Instr.index, asIntOf, zAf hu, hb'], .val _⟩
   ·cases hv
  ·cases hv
 ·rename_i t x f
  split at hv
  ·rename_i fd b o hf hx
   obtain ⟨fs, hu, hfs⟩ := field_ok hf
   have := h _ _ hx
   generalize hX : ρ x = X at *
   cases this with | ptr e =>
   split at hv
   ·rename_i m hs
    cases hv
    refine ⟨_, ?_, .ptr e⟩
    simp [execOp, hX, Instr.fieldAt, zAf hu, hfs, Instr.sureAddr, fieldPlace, zAt hs, zCd, Nat.add_assoc]
   ·cases hv
  ·rename_i fd b z r c hf hx
   obtain ⟨fs, hu, hfs⟩ := field_ok hf
   have := h _ _ hx
   generalize hX : ρ x = X at *
   cases this with | ps e hr =>
   split at hv
   ·rename_i m hs
    cases hv
    refine ⟨_, ?_, .ps e hr⟩
    simp [execOp, hX, Instr.fieldAt, zAf hu, hfs, Instr.sureAddr, fieldPlace, zAt hs, zCd, Nat.add_assoc]
   ·cases hv
  ·cases hv
 ·rename_i t x i
  split at hv
  ·rename_i e b z off len iv hu hx hi
   have := h _ _ hx
   generalize hX : ρ x = X at *
   cases this with | ss e' hm hl hc ho =>
   rename_i a m l o c
   split at hv
   ·rename_i sz kk ie hs hse
    rcases zDs hv with ⟨hc1, hv⟩ | ⟨_, hv⟩
    ·cases hv
     simp only [Bool.and_eq_true] at hc1
     have hz := Nat.eq_of_beq_eq_true hc1.1.1
     subst hz
     have h1 := zJn hc1.1.2
     have h2 := zJn hc1.2
     rw [zFt] at h2
     simp only [SE.eval] at h1 h2
     have ei := zCn (h _ _ hi) hse
     obtain ⟨n, hn⟩ : ∃ n : Nat, ie.eval zAc.env = n := ⟨_, (Int.toNat_of_nonneg h1).symm⟩
     rw [hn] at ei h2
     have hlt : n < l := by omega
     have ho := ho (by omega)
     refine ⟨_, ?_, .ps e' (m := m + n) (by rw [zFt, hm, hn]; rfl)⟩
     simp [execOp, hX, ei, Instr.indexAt, asIntOf, zAf hu, zAt hs, hlt, zCd, ho, Nat.add_assoc, Nat.add_mul]
    ·cases hv
   ·cases hv
  ·rename_i len e b o k n hu hx hi
   have ei := (h _ _ hi).int_inv
   have := h _ _ hx
   generalize hX : ρ x = X at *
   cases this with | ptr e' =>
   split at hv
   ·rename_i sz hs
    cases hb : Nat.blt n len
    ·rw [hb] at hv; cases hv
    ·rw [hb] at hv
     simp only [cond_true] at hv; cases hv
     have hlt : n < len := Nat.le_of_ble_eq_true hb
     refine ⟨_, ?_, .ptr e'⟩
     simp [execOp, hX, ei, Instr.indexAt, asIntOf, zAf hu, zAt hs, hlt, Instr.sureAddr, zCd, Nat.add_assoc]
   ·cases hv
  ·rename_i e b o z len cap k n hu hx hi
   have ei := (h _ _ hi).int_inv
   have := h _ _ hx
   generalize hX : ρ x = X at *
   cases this with | sl e' hc hl ho =>
   split at hv
   ·rename_i sz hs
    cases hb : Nat.blt n len
    ·rw [hb] at hv; cases hv
    ·rw [hb] at hv
     simp only [cond_true] at hv; cases hv
     have hlt : n < len := Nat.le_of_ble_eq_true hb
     have ho := ho (by omega)
     refine ⟨_, ?_, .ptr e'⟩
     simp [execOp, hX, ei, Instr.indexAt, asIntOf, zAf hu, zAt hs, hlt, zCd, ho, Nat.add_assoc]
   ·cases hv
  ·rename_i len e b o kk ie hu hx hi
   have ei := h _ _ hi
   have := h _ _ hx
   generalize hX : ρ x = X at *
   cases this with | ptr e' =>
   generalize hI : ρ i = Y at *
   cases ei with | sx ei =>
   split at hv
   ·rename_i sz hs
    rcases zDs hv with ⟨hc1, hv⟩ | ⟨_, hv⟩
    ·cases hv
     simp only [Bool.and_eq_true] at hc1
     have h1 := zJn hc1.1
     have h2 := zJn hc1.2
     rw [zFt] at h2
     simp only [SE.eval] at h1 h2
     obtain ⟨n, hn⟩ : ∃ n : Nat, ie.eval zAc.env = n := ⟨_, (Int.toNat_of_nonneg h1).symm⟩
     rw [hn] at ei h2
     have hlt : n < len := by omega
     subst ei
     refine ⟨_, ?_, .ps e' (m := n) hn⟩
     simp [execOp, hX, hI, Instr.indexAt, asIntOf, zAf hu, zAt hs, hlt, Instr.sureAddr, zCd, Nat.add_assoc, Nat.add_comm, Nat.add_left_comm]
    ·cases hv
   ·cases hv
  ·cases hv
 ·rename_i t x lo hi mx
  cases hmb : (mx.isSome && hi.isNone)
  case true => rw [hmb] at hv; cases hv
  rw [hmb] at hv
  simp only [cond_false] at hv
  have hn : mx ≠ none → hi ≠ none := by
   intro hm hh
   subst hh
   cases mx with
   | none => exact hm rfl
   | some _ => simp at hmb
  have hmh : (mx.map ρ) ≠ none → (hi.map ρ) ≠ none := by
   intro hm hh
   exact hn (by intro e; exact hm (by simp [e])) (by simpa using hh)
  split at hv
  ·rename_i s l h' m hu hx e1 e2 e3
   have es := (h _ _ hx).str_inv
   obtain ⟨a, b, h1, h2, h3⟩ := string_slice (P := P) (w := w) (zEr h e1) (zEr h e2) (zEr h e3) hv
   subst h3
   refine ⟨.string (s.extract a b), ?_, .val _⟩
   simp [execOp, es, Instr.sliceAt, Instr.slice, zAf hu, h1, h2]
  ·rename_i e b o z len cap l h' m hu hx e1 e2 e3
   split at hv
   ·rename_i k hs
    cases hb : Nat.beq k z
    ·rw [hb] at hv; cases hv
    ·rw [hb] at hv
     simp only [cond_true] at hv
     have hk := Nat.eq_of_beq_eq_true hb
     subst hk
     have hrv := h _ _ hx
     generalize hX : ρ x = X at *
     have hrv' := hrv
     cases hrv with | sl q1 q2 q3 q4 =>
     obtain ⟨l', hh, m', g1, g2⟩ := slice_row (P := P) (w := w) hrv' (zEr h e1) (zEr h e2) (zEr h e3) hv
     refine ⟨_, ?_, g2⟩
     simp only [execOp, hX, Instr.sliceAt, Instr.slice, Sem.run_bind, zAf hu, Result.andThen_ok, g1, zAt hs, Sem.run_pure]
   ·cases hv
  ·rename_i e l h' m hu hx e1 e2 e3
   have hX : ρ x = .slice none 0 0 := by
    have := h _ _ hx
    generalize ρ x = X at *
    cases this; rfl
   split at hv
   ·rename_i k hs
    obtain ⟨g1, g2⟩ := nil_slice (P := P) (w := w) (zEr h e1) (zEr h e2) (zEr h e3) hv hmh
    subst g2
    refine ⟨.slice none 0 0, ?_, .val _⟩
    simp only [execOp, hX, Instr.sliceAt, Instr.slice, Sem.run_bind, zAf hu, Result.andThen_ok, g1, zAt hs, Sem.run_pure]
    simp
   ·cases hv
  ·rename_i n e b o l h' m hu hx e1 e2 e3
   split at hv
   ·rename_i k hs
    have hrv := h _ _ hx
    generalize hX : ρ x = X at *
    cases hrv with | ptr q =>
    rename_i a
    have hrow : RV φ (.sl b o k n (some n)) (.slice (some ⟨a.blk, a.off + o, none⟩) n n) := .sl q rfl (Nat.le_refl _) (fun _ => rfl)
    obtain ⟨l', hh, m', g1, g2⟩ := slice_row (P := P) (w := w) hrow (zEr h e1) (zEr h e2) (zEr h e3) hv
    refine ⟨_, ?_, g2⟩
    simp only [execOp, hX, Instr.sliceAt, Sem.run_bind, zAf hu, Result.andThen_ok, Instr.sureAddr, g1, zAt hs, Sem.run_pure]
    by_cases hml : m' = l'
    ·simp [hml]
    ·simp [hml]
   ·cases hv
  ·rename_i e b z off len l h' m hu hx e1 e2 e3
   split at hv
   ·rename_i k hs
    cases hb : Nat.beq k z
    ·rw [hb] at hv; cases hv
    ·rw [hb] at hv
     simp only [cond_true] at hv
     have hk := Nat.eq_of_beq_eq_true hb
     subst hk
     have hrv := h _ _ hx
     generalize hX : ρ x = X at *
     have hrv' := hrv
     cases hrv with | ss q1 q2 q3 q4 q5 =>
     obtain ⟨l', hh, m', g1, g2⟩ := slice_tab (P := P) (w := w) hrv' (zEr h e1) (zEr h e2) (zEr h e3) hv
     refine ⟨_, ?_, g2⟩
     simp only [execOp, hX, Instr.sliceAt, Instr.slice, Sem.run_bind, zAf hu, Result.andThen_ok, g1, zAt hs, Sem.run_pure]
   ·cases hv
  ·cases hv
 ·rename_i t parts
  split at hv
  ·rename_i l hl
   obtain ⟨y, h1, h2⟩ := build_ok (P := P) (w := w) (parts' := parts.map fun (i, x) => (i, ρ x)) (by simpa using parts_ok h hl) hv
   exact ⟨y, by simp [execOp, h1], h2⟩
  ·cases hv
 ·rename_i op t x y yt
  split at hv
  ·rename_i a b hx hy
   obtain ⟨g, z, h1, h2⟩ := bin_ok (P := P) (w := w) (h _ _ hx) (h _ _ hy) hv x y
   exact ⟨z, by simp only [execOp, Sem.run_bind, g, Result.andThen_ok, h1, Sem.run_pure], h2⟩
  ·cases hv
 ·rename_i src dst' x
  split at hv
  ·rename_i k1 k k2 n hu1 hu2 hx
   cases hv
   have e := (h _ _ hx).int_inv
   exact ⟨.int k (k.wrap n), by simp [execOp, e, convert, zAf hu1, zAf hu2, Conv.intToInt], by rw [zCs]; exact .val _⟩
  ·rename_i k1 k k2 n hu1 hu2 hx
   cases hv
   have e := zCn (h _ _ hx) rfl
   exact ⟨.int k (k.wrap (n.eval zAc.env)), by simp [execOp, e, convert, zAf hu1, zAf hu2, Conv.intToInt], .sx (by rw [wrS_ok])⟩
  ·rename_i s hu1 hu2 hx
   cases hv
   have e := (h _ _ hx).str_inv
   exact ⟨.string s, by simp [execOp, e, convert, zAf hu1, zAf hu2], .val _⟩
  ·cases hv
 ·rename_i c
  split at hv
  ·rename_i hc
   split at hv
   ·rename_i x l ho
    have := zEl h ho
    have hal : (c.args.map ρ).toList = c.args.toList.map ρ := by simp
    generalize hL : c.args.toList.map ρ = L at *
    cases this with | cons q1 q2 =>
    obtain ⟨y, h1, h2⟩ := (min_ok (P := P) (w := w) q1 q2).1 hv
    refine ⟨y, ?_, h2⟩
    simp only [execOp, resolve, hc, Sem.run_bind, Sem.run_pure, Result.andThen_ok, invoke, builtin, Builtin.min_, hal, h1]
   ·cases hv
  ·rename_i hc
   split at hv
   ·rename_i x l ho
    have := zEl h ho
    have hal : (c.args.map ρ).toList = c.args.toList.map ρ := by simp
    generalize hL : c.args.toList.map ρ = L at *
    cases this with | cons q1 q2 =>
    obtain ⟨y, h1, h2⟩ := (min_ok (P := P) (w := w) q1 q2).2 hv
    refine ⟨y, ?_, h2⟩
    simp only [execOp, resolve, hc, Sem.run_bind, Sem.run_pure, Result.andThen_ok, invoke, builtin, Builtin.max_, hal, h1]
   ·cases hv
  ·rename_i hc
   split at hv
   ·rename_i t o ht ho
    split at hv
    ·rename_i x hx
     obtain ⟨y, h1, h2⟩ := len_ok (P := P) (w := w) (h _ _ hx) hv c.argTypes ht ty (c.args.map ρ) (by simp [ho])
     refine ⟨y, ?_, h2⟩
     simp only [execOp, resolve, hc, Sem.run_bind, Sem.run_pure, Result.andThen_ok, invoke, builtin, h1]
    ·cases hv
   ·cases hv
  ·cases hv
 ·cases hv
end
end
end Go.Abs
namespace Go.Abs
noncomputable section
variable [Facts] [zAc]
section
variable {P : Program} {φ ψ : Phi} {B N : Nat} {s s' : HS} {w w' : World}
structure Stp (φ : Phi) (B : Nat) (s : HS) (w : World) (ψ : Phi) (s' : HS) (w' : World) : Prop where
 le : φ.le ψ
 rng : ∀ b, ψ b ≠ φ b → s.n ≤ b ∧ b < s'.n
 new : ∀ b a, ψ b = some a → φ b = none → w.heap.size ≤ a.blk ∨ ∃ c t x a', s.h.get c = some (t, x) ∧ x.fixed = false ∧ φ c = some a' ∧ a'.blk = a.blk
 rw : RW ψ B s' w'
 fr : Fr φ s w w'
 up : Up s s'
def zEj (φ : Phi) (n N : Nat) : Prop := ∀ b, n ≤ b → b < N → φ b = none
omit [Facts] [zAc] in
theorem zEj.mono {φ : Phi} {n N m M : Nat} (h : zEj φ n N) (h1 : n ≤ m) (h2 : M ≤ N) : zEj φ m M := fun b hb hm => h b (Nat.le_trans h1 hb) (Nat.lt_of_lt_of_le hm h2)
theorem RW.wf (h : RW φ B s w) : s.wf := fun b t x e => h.lt b t x e
theorem Stp.refl (h : RW φ B s w) : Stp φ B s w φ s w :=
 ⟨φ.le_refl, fun b h => (h rfl).elim, fun b a e e' => (by rw [e] at e'; cases e'), h, Fr.refl _ _ _, Up.refl h.wf⟩
theorem Stp.free {φ ψ : Phi} (h : Stp φ B s w ψ s' w') {N : Nat} (f : zEj φ s.n N) : zEj ψ s'.n N := fun b hb hN => by
 have : ψ b = φ b := Classical.byContradiction fun hne => by have := (h.rng b hne).2; omega
 rw [this]; exact f b (Nat.le_trans h.up.n hb) hN
theorem Stp.trans {φ ψ χ : Phi} {s s1 s2 : HS} {w w1 w2 : World} (h : Stp φ B s w ψ s1 w1) (k : Stp ψ B s1 w1 χ s2 w2) (f : zEj φ s.n s1.n) : Stp φ B s w χ s2 w2 := by
 have back : ∀ c t x a, s1.h.get c = some (t, x) → x.fixed = false → ψ c = some a → (w.heap.size ≤ a.blk ∨ ∃ d t' x' a', s.h.get d = some (t', x') ∧ x'.fixed = false ∧ φ d = some a' ∧ a'.blk = a.blk) := by
  intro c t x a hc hx ha
  cases hφ : φ c with
  | none => exact h.new c a ha hφ
  | some a0 =>
   have e := h.le _ _ hφ
   rw [ha] at e; cases e
   have hcn : c < s.n := by
    rcases Nat.lt_or_ge c s.n with hlt | hge
    ·exact hlt
    ·have := f c hge (h.up.wf _ _ _ hc).1
     rw [hφ] at this; cases this
   cases hg : s.h.get c with
   | none => have := h.up.dead c hcn hg; rw [hc] at this; cases this
   | some p =>
    obtain ⟨t', x'⟩ := p
    refine .inr ⟨c, t', x', a, hg, ?_, hφ, rfl⟩
    cases hfx : x'.fixed with
    | false => rfl
    | true =>
     have := h.up.kept c t' x' hg (.inr hfx)
     rw [hc] at this; cases this; rw [hx] at hfx; cases hfx
 refine ⟨Phi.le_trans h.le k.le, fun b hb => ?_, fun b a e e' => ?_, k.rw, ?_, h.up.trans k.up⟩
 ·by_cases h1 : χ b = ψ b
  ·have h2 : ψ b ≠ φ b := by rwa [h1] at hb
   have := h.rng b h2
   have := k.up.n
   omega
  ·have := k.rng b h1
   have := h.up.n
   omega
 ·cases hψ : ψ b with
  | some a1 =>
   have := k.le _ _ hψ
   rw [e] at this; cases this
   exact h.new b a hψ e'
  | none =>
   rcases k.new b a e hψ with hh | ⟨c, t, x, a', h1, h2, h3, h4⟩
   ·exact .inl (Nat.le_trans h.fr.size hh)
   ·rcases back c t x a' h1 h2 h3 with hh | ⟨d, t', x', a'', g1, g2, g3, g4⟩
    ·exact .inl (by rw [← h4]; exact hh)
    ·exact .inr ⟨d, t', x', a'', g1, g2, g3, g4.trans h4⟩
 ·refine ⟨k.fr.os.trans h.fr.os, k.fr.tape.trans h.fr.tape, k.fr.output.trans h.fr.output, Nat.le_trans h.fr.size k.fr.size, fun r hr hno => ?_⟩
  rw [k.fr.heap r (Nat.lt_of_lt_of_le hr h.fr.size) ?_, h.fr.heap r hr hno]
  intro c t x a hc hx ha he
  rcases back c t x a hc hx ha with hh | ⟨d, t', x', a', g1, g2, g3, g4⟩
  ·omega
  ·exact hno d t' x' a' g1 g2 g3 (g4.trans he)
omit [Facts] [zAc] in
theorem cell_of {blk o : Nat} {arr : Array Value} {el : TypeId} {fz : Nat × Nat} (h : w.heap[blk]? = some (.cells arr el fz)) : w.cell? ⟨blk, o, none⟩ = arr[o]? := by
 simp [World.cell?, h]
omit [Facts] [zAc] in
theorem run_loadCellsFrom {blk o : Nat} {xs : List Value} : ∀ (n i : Nat) (acc : Array Value), (∀ j, j < n → w.cell? ⟨blk, o + (i + j), none⟩ = xs[i + j]?) → i + n ≤ xs.length →
  (loadCellsFrom ⟨blk, o, none⟩ i n acc).run P w = .ok (acc ++ ((xs.drop i).take n).toArray) w := by
 intro n
 induction n with
 | zero => intro i acc _ _; simp [loadCellsFrom]
 | succ n ih =>
  intro i acc h hl
  have h0 := h 0 (by omega)
  have hi : i < xs.length := by omega
  have hx : xs[i]? = some xs[i] := by simp [hi]
  simp only [Nat.add_zero] at h0
  rw [hx] at h0
  simp only [loadCellsFrom, Sem.run_bind, zCd, run_load, h0, Result.andThen_ok]
  rw [ih (i + 1) _ (fun j hj => by have := h (j + 1) (by omega); rw [show i + 1 + j = i + (j + 1) by omega]; exact this) (by omega)]
  congr 1
  have : xs.drop i = xs[i] :: xs.drop (i + 1) := by rw [List.drop_eq_getElem_cons hi]
  apply Array.ext'
  simp only [Array.toList_append, Array.toList_push, List.append_assoc, List.singleton_append]
  rw [this, List.take_succ_cons]
omit [Facts] [zAc] in
theorem run_loadCells {blk o n : Nat} {xs : List Value} (h : ∀ j, j < n → w.cell? ⟨blk, o + j, none⟩ = xs[j]?) (hl : xs.length = n) : (loadCells ⟨blk, o, none⟩ n).run P w = .ok xs.toArray w := by
 unfold loadCells
 rw [run_loadCellsFrom (xs := xs) n 0 #[] (fun j hj => by simpa using h j hj) (by omega)]
 subst hl
 simp
omit [Facts] [zAc] in
theorem oneC_cell {x : Value} (h : oneC x = true) : x.oneCell' = true := by
 cases x <;> first | rfl | simp [oneC] at h
def putCells (arr : Array Value) (o : Nat) : List Value → Array Value
 | [] => arr
 | x :: l => putCells (arr.setIfInBounds o x) (o + 1) l
omit [Facts] [zAc] in
theorem zBw : ∀ (l : List Value) (arr : Array Value) (o : Nat), (putCells arr o l).size = arr.size := by
 intro l
 induction l with
 | nil => intro arr o; rfl
 | cons x l ih => intro arr o; simp [putCells, ih]
omit [Facts] [zAc] in
theorem zDu : ∀ (l : List Value) (arr : Array Value) (o i : Nat), o + l.length ≤ arr.size → (putCells arr o l)[i]? = if o ≤ i ∧ i < o + l.length then l[i - o]? else arr[i]? := by
 intro l
 induction l with
 | nil => intro arr o i h; simp [putCells]; omega
 | cons x l ih =>
  intro arr o i h
  simp only [List.length_cons] at h
  simp only [putCells]
  rw [ih _ _ _ (by simpa using (by omega : o + 1 + l.length ≤ arr.size))]
  by_cases h1 : o + 1 ≤ i ∧ i < o + 1 + l.length
  ·rw [if_pos h1, if_pos (by simp only [List.length_cons]; omega)]
   have : i - o = (i - (o + 1)) + 1 := by omega
   rw [this]; simp
  ·rw [if_neg h1]
   by_cases h2 : i = o
   ·subst h2
    rw [if_pos (by simp only [List.length_cons]; omega), Array.getElem?_setIfInBounds_self_of_lt (by omega)]
    simp
   ·rw [if_neg (by simp only [List.length_cons]; omega)]
    exact Array.getElem?_setIfInBounds_ne (fun e => h2 e.symm)
omit [Facts] [zAc] in
theorem zDl {blk : Nat} {el : TypeId} : ∀ (l : List Value) (o i : Nat) (arr : Array Value) (w : World), w.heap[blk]? = some (.cells arr el (0, 0)) → o + i + l.length ≤ arr.size → (∀ x ∈ l, oneC x = true) →
  ∃ w', (storeCells ⟨blk, o, none⟩ l i).run P w = .ok () w' ∧ w'.heap[blk]? = some (.cells (putCells arr (o + i) l) el (0, 0)) ∧ (∀ r, r ≠ blk → w'.heap[r]? = w.heap[r]?) ∧ w'.heap.size = w.heap.size ∧ w'.os = w.os ∧ w'.tape = w.tape ∧ w'.output = w.output := by
 intro l
 induction l with
 | nil => intro o i arr w h _ _; exact ⟨w, by simp [storeCells], by simpa [putCells] using h, fun _ _ => rfl, rfl, rfl, rfl, rfl⟩
 | cons x l ih =>
  intro o i arr w h hl h1
  simp only [List.length_cons] at hl
  have hx : x.oneCell' = true := oneC_cell (h1 x (by simp))
  have hc : w.cell? ⟨blk, o + i, none⟩ = some arr[o + i] := by rw [cell_of h]; exact Array.getElem?_eq_getElem (by omega)
  have hf : w.frozen? ⟨blk, o + i, none⟩ = false := by simp [World.frozen?, h]
  have hb : blk < w.heap.size := (Array.getElem?_eq_some_iff.1 h).1
  have hw1 : (w.setCell ⟨blk, o + i, none⟩ x).heap[blk]? = some (.cells (arr.setIfInBounds (o + i) x) el (0, 0)) := by
   simp only [World.setCell, Array.getElem?_modify, if_true, h, Option.map_some]
   simp
  obtain ⟨w', e1, e2, e3, e4, e5, e6, e7⟩ := ih o (i + 1) (arr.setIfInBounds (o + i) x) (w.setCell ⟨blk, o + i, none⟩ x) hw1 (by simp; omega) (fun y hy => h1 y (by simp [hy]))
  refine ⟨w', ?_, ?_, fun r hr => ?_, ?_, ?_, ?_, ?_⟩
  ·simp only [storeCells, Sem.run_bind, zCd, run_store P w _ x _ hx, hc, hf]
   simpa using e1
  ·rw [e2]; simp only [putCells]; rw [show o + (i + 1) = o + i + 1 by omega]
  ·rw [e3 r hr]
   simp only [World.setCell, Array.getElem?_modify]
   rw [if_neg (fun e => hr e.symm)]
  ·rw [e4]; simp [World.setCell]
  ·rw [e5]; rfl
  ·rw [e6]; rfl
  ·rw [e7]; rfl
theorem take_ok {c : Tr AV} {n a0 : Nat} {arr : Array Value} (hc : Cells φ c n a0 arr) : ∀ (k off : Nat) (l : List AV), off + k ≤ n → takeA c off k = some l → ∃ xs, RL φ l xs ∧ xs.length = k ∧ ∀ j, j < k → arr[a0 + off + j]? = xs[j]? := by
 intro k
 induction k with
 | zero => intro off l _ h; simp only [takeA] at h; cases h; exact ⟨[], .nil, rfl, fun j hj => by omega⟩
 | succ k ih =>
  intro off l hk h
  simp only [takeA] at h
  split at h
  ·rename_i v l' hv hl
   cases h
   obtain ⟨x, hx, hr⟩ := hc.2 off v (by omega) hv
   obtain ⟨xs, h1, h2, h3⟩ := ih (off + 1) l' (by omega) hl
   refine ⟨x :: xs, .cons hr h1, by simp [h2], fun j hj => ?_⟩
   cases j with
   | zero => simpa using hx
   | succ j =>
    have := h3 j (by omega)
    rw [show a0 + off + (j + 1) = a0 + (off + 1) + j by omega, this]; simp
  ·cases h
omit [Facts] [zAc] in
theorem zFm {α : Type} {why : String} {o : Option α} {s : HS} {Q : α → HS → Prop} (h : ∀ a, o = some a → Q a s) : (ofO why o s).wp Q := by
 cases o with
 | none => trivial
 | some a => exact h a rfl
omit [Facts] [zAc] in
theorem zBo {b : Nat} {s : HS} {Q : Blk → HS → Prop} (h : ∀ t x, s.h.get b = some (t, x) → Q x s) : (getB b s).wp Q := by
 unfold getB
 split
 ·rename_i t x e; exact h t x e
 ·trivial
omit [Facts] [zAc] in
theorem wp_bind {α β : Type} {m : M α} {f : α → M β} {s : HS} {Q : β → HS → Prop} (h : (m s).wp fun a s1 => (f a s1).wp Q) : (M.bind m f s).wp Q := R.wp_bind h
omit [Facts] [zAc] in
theorem zAe {α β : Type} {m : M α} {f : α → M β} {s : HS} {Q : β → HS → Prop} (h : (m s).wp fun a s1 => (f a s1).wp Q) : ((m >>= f) s).wp Q := R.wp_bind h
omit [Facts] [zAc] in
theorem zAh {α : Type} {a : α} {s : HS} {Q : α → HS → Prop} (h : Q a s) : (M.pure a s).wp Q := h
omit [Facts] [zAc] in
theorem zAa {α : Type} {why : String} {s : HS} {Q : α → HS → Prop} : ((fail why : M α) s).wp Q := trivial
omit [Facts] [zAc] in
theorem zAo {α : Type} {c : Bool} {a b : M α} {s : HS} {Q : α → HS → Prop} (h1 : c = true → (a s).wp Q) (h2 : c = false → (b s).wp Q) : ((bif c then a else b) s).wp Q := by
 cases c
 ·exact h2 rfl
 ·exact h1 rfl
theorem read_ok (h : RW φ B s w) (b off n : Nat) : (readCells b off n s).wp fun l s' => s' = s ∧ ∃ a xs, φ b = some a ∧ RL φ l xs ∧ xs.length = n ∧ ∀ j, j < n → w.cell? ⟨a.blk, a.off + off + j, none⟩ = xs[j]? := by
 unfold readCells
 refine zAe (zBo fun t x e => ?_)
 obtain ⟨a, ha, hb, _⟩ := h.blk b t x e
 cases x <;> simp only <;> first | exact zAa | skip
 ·rename_i c m g
  obtain ⟨arr, el, h1, h2, _⟩ := hb
  refine zAo (fun hc => zFm fun l hl => ?_) (fun _ => zAa)
  obtain ⟨xs, k1, k2, k3⟩ := take_ok h2 n off l (Nat.le_of_ble_eq_true hc) hl
  exact ⟨rfl, a, xs, ha, k1, k2, fun j hj => by rw [cell_of h1, k3 j hj]⟩
 ·rename_i c m
  obtain ⟨arr, el, fz, h1, h2⟩ := hb
  refine zAo (fun hc => zFm fun l hl => ?_) (fun _ => zAa)
  obtain ⟨xs, k1, k2, k3⟩ := take_ok h2 n off l (Nat.le_of_ble_eq_true hc) hl
  exact ⟨rfl, a, xs, ha, k1, k2, fun j hj => by rw [cell_of h1, k3 j hj]⟩
theorem zNn (h : RW φ B s w) {b t : Nat} {y x : Blk} {a : Lc} (he : s.h.get b = some (t, y)) (hy : y.fixed = false) (hx : x.fixed = false) (hl : s.lim ≤ b) (ha : φ b = some a) (hb : RB φ w' a x)
  (hos : w'.os = w.os) (htape : w'.tape = w.tape) (hout : w'.output = w.output) (hsz : w'.heap.size = w.heap.size) (hh : ∀ r, r ≠ a.blk → w'.heap[r]? = w.heap[r]?) :
  Stp φ B s w φ { s with h := s.h.set b (s.clk + 1, x), clk := s.clk + 1 } w' := by
 obtain ⟨a0, ha0, _, hB⟩ := h.blk b t y he
 rw [ha] at ha0; cases ha0
 have hup : Up s { s with h := s.h.set b (s.clk + 1, x), clk := s.clk + 1 } := by
  have := zAb.setB b x s h.wf
  rw [setB_eq] at this
  simp only [he] at this
  have hc : (Nat.ble s.lim b && !y.fixed && !x.fixed) = true := by simp [hy, hx, hl]
  rw [hc] at this
  exact this
 refine ⟨φ.le_refl, fun b h => (h rfl).elim, fun b a e e' => (by rw [e] at e'; cases e'), ?_, ?_, hup⟩
 ·refine ⟨fun c t' z e => ?_, fun c d t1 t2 x1 x2 a1 a2 e1 e2 f1 hne p1 p2 => ?_, fun c t' z e => hup.wf c t' z e⟩
  ·simp only [Tr.get_set] at e
   split at e
   ·rename_i hcb; subst hcb; cases e; exact ⟨a, ha, hb, fun _ => hB hy⟩
   ·rename_i hcb
    obtain ⟨a1, p1, p2, p3⟩ := h.blk c t' z e
    exact ⟨a1, p1, p2.of_heap (hh _ (h.inj b c t t' y z a a1 he e hy (fun e => hcb e.symm) ha p1).symm), p3⟩
  ·simp only [Tr.get_set] at e1 e2
   split at e1
   ·rename_i hcb; subst hcb; cases e1
    rw [ha] at p1; cases p1
    rw [if_neg (fun e => hne e.symm)] at e2
    exact h.inj c d t t2 y x2 a a2 he e2 hy hne ha p2
   ·split at e2
    ·rename_i hcb hdb; subst hdb; cases e2
     rw [ha] at p2; cases p2
     exact (h.inj d c t t1 y x1 a a1 he e1 hy (fun e => hne e.symm) ha p1).symm
    ·exact h.inj c d t1 t2 x1 x2 a1 a2 e1 e2 f1 hne p1 p2
 ·exact ⟨hos, htape, hout, by rw [hsz]; exact Nat.le_refl _, fun r hr hno => hh r (fun e => hno b t y a he hy ha e.symm)⟩
omit [Facts] [zAc] in
theorem zEe {b : Nat} {x : Blk} {s : HS} {Q : Unit → HS → Prop} (h : ∀ t y, s.h.get b = some (t, y) → y.fixed = false → x.fixed = false → s.lim ≤ b → Q () { s with h := s.h.set b (s.clk + 1, x), clk := s.clk + 1 }) : (setB b x s).wp Q := by
 rw [setB_eq]
 split
 ·rename_i t y e
  cases hc : (Nat.ble s.lim b && !y.fixed && !x.fixed)
  ·trivial
  ·simp only [Bool.and_eq_true, Bool.not_eq_true'] at hc
   exact h t y e hc.1.2 hc.2 (Nat.le_of_ble_eq_true hc.1.1)
 ·trivial
theorem ok_all {l : List AV} {xs : List Value} (h : RL φ l xs) (h1 : zIu l = true) : ∀ x ∈ xs, oneC x = true := by
 induction l generalizing xs with
 | nil => cases h; simp
 | cons a l ih =>
  cases h with | cons hv hl =>
  simp only [zIu, List.all_cons, Bool.and_eq_true] at h1
  intro x hx
  rcases List.mem_cons.1 hx with rfl | hx
  ·exact hv.one h1.1
  ·exact ih hl (by simpa [zIu] using h1.2) x hx
theorem zOv (h : RW φ B s w) (b off : Nat) (l : List AV) : (writeCells b off l s).wp fun _ s' => ∃ a, φ b = some a ∧ ∀ xs, RL φ l xs → ∃ w', (storeCells ⟨a.blk, a.off + off, none⟩ xs).run P w = .ok () w' ∧ Stp φ B s w φ s' w' := by
 unfold writeCells
 refine zAe (zBo fun t x e => ?_)
 obtain ⟨a, ha, hb, _⟩ := h.blk b t x e
 cases x <;> simp only <;> first | exact zAa | skip
 rename_i c m g
 obtain ⟨arr, el, h1, h2, h3⟩ := hb
 refine zAo (fun hc => zEe fun t' y e' hy hx hl => ?_) (fun _ => zAa)
 rw [e] at e'; cases e'
 simp only [Bool.and_eq_true] at hc
 have hm := Nat.le_of_ble_eq_true hc.1
 refine ⟨a, ha, fun xs hxs => ?_⟩
 have hlen := hxs.length
 have h2s := h2.1
 obtain ⟨w', e1, e2, e3, e4, e5, e6, e7⟩ := zDl (P := P) xs (a.off + off) 0 arr w h1 (by omega) (ok_all hxs hc.2)
 refine ⟨w', e1, zNn h e hy rfl hl ha ⟨_, el, e2, ⟨by rw [zBw]; exact h2s, fun i v hi hv => ?_⟩, fun z hz => by rw [zBw]; exact h3 z hz⟩ e5 e6 e7 e4 e3⟩
 rw [Tr.get_fill] at hv
 rw [zDu _ _ _ _ (by omega)]
 by_cases hr : off ≤ i ∧ i < off + l.length
 ·rw [if_pos hr] at hv
  rw [if_pos (by omega)]
  obtain ⟨x, g1, g2⟩ := hxs.get hv
  refine ⟨x, ?_, g2⟩
  rw [show a.off + i - (a.off + off + 0) = i - off by omega]; exact g1
 ·rw [if_neg hr] at hv
  rw [if_neg (by omega)]
  exact h2.2 i v hi hv
omit [Facts] [zAc] in
theorem row_inj {z r r' c c' : Nat} (hc : c < z) (hc' : c' < z) (h : r * z + c = r' * z + c') : r = r' ∧ c = c' := by
 have h1 : (r * z + c) / z = r := by rw [Nat.mul_comm, Nat.mul_add_div (by omega)]; simp [Nat.div_eq_of_lt hc]
 have h2 : (r' * z + c') / z = r' := by rw [Nat.mul_comm, Nat.mul_add_div (by omega)]; simp [Nat.div_eq_of_lt hc']
 have : r = r' := by rw [← h1, ← h2, h]
 subst this
 exact ⟨rfl, by omega⟩
theorem cols_ok {ks : List CK} {A r : SE} {arr : Array Value} {off m M : Nat} (hm : r.eval zAc.env = m) (hM : m < M) (hr : ∀ r c k, r < M → ks[c]? = some k → ∃ x, arr[off + (r * ks.length + c)]? = some x ∧ CKv k (A.row zAc.env r c) x) :
  ∀ (n c : Nat) (l : List AV), colsA A r ks c n = some l → ∃ xs, RL φ l xs ∧ xs.length = n ∧ ∀ j, j < n → arr[off + (m * ks.length + c) + j]? = xs[j]? := by
 intro n
 induction n with
 | zero => intro c l h; simp only [colsA] at h; cases h; exact ⟨[], .nil, rfl, fun j hj => by omega⟩
 | succ n ih =>
  intro c l h
  have hval := selS_ok A r c
  rw [hm] at hval
  have key : ∀ {k : CK} {v : AV} {l' : List AV}, ks[c]? = some k → colsA A r ks (c + 1) n = some l' → (∀ x, CKv k (A.row zAc.env m c) x → RV φ v x) → ∃ xs, RL φ (v :: l') xs ∧ xs.length = n + 1 ∧ ∀ j, j < n + 1 → arr[off + (m * ks.length + c) + j]? = xs[j]? := by
   intro k v l' hk hl' hv
   obtain ⟨xs, h1, h2, h3⟩ := ih (c + 1) l' hl'
   obtain ⟨x, h4, h5⟩ := hr m c k hM hk
   refine ⟨x :: xs, .cons (hv x h5) h1, by simp [h2], fun j hj => ?_⟩
   cases j with
   | zero => simpa using h4
   | succ j =>
    have := h3 j (by omega)
    rw [show off + (m * ks.length + c) + (j + 1) = off + (m * ks.length + (c + 1)) + j by omega, this]; simp
  simp only [colsA] at h
  split at h
  ·rename_i k l' hk hl'
   cases h
   exact key hk hl' (fun x hx => by cases hx; exact .sx hval)
  ·rename_i l' hk hl'
   split at h
   ·rename_i d hd
    cases h
    have := zBd hd
    rw [zIx, hval] at this
    refine key hk hl' (fun x hx => ?_)
    cases hx
    simp only [SE.eval] at this
    have e : ∀ p q : Bool, p = q → RV φ (.val (.bool p)) (.bool q) := fun p q h => by subst h; exact .val _
    refine e _ _ ?_
    cases d
    ·rw [decide_eq_false (of_decide_eq_false this)]
    ·rw [decide_eq_true (of_decide_eq_true this)]
   ·cases h
  ·rename_i l' hk hl'
   cases h
   refine key hk hl' (fun x hx => ?_)
   obtain ⟨h0, p, c', rfl⟩ := hx
   exact .so (by rw [hval]; exact (Int.toNat_of_nonneg h0).symm)
  ·cases h
theorem rowIn_ok {r len : SE} (h : rowIn r len = true) {M : Nat} (hM : len.eval zAc.env = M) : ∃ m : Nat, r.eval zAc.env = m ∧ m < M := by
 simp only [rowIn, Bool.and_eq_true] at h
 have h1 := zJn h.1
 have h2 := zJn h.2
 rw [zFt] at h2
 simp only [SE.eval] at h1 h2
 exact ⟨_, (Int.toNat_of_nonneg h1).symm, by omega⟩
theorem chainC_ok {cs : Tr AV} {k : IntKind} {z off lo : Nat} {e0 : SE} {v0 : AV} (h0 : cs.get (lo * z + off) = some v0) (hs : zOq v0 = some (k, e0)) : ∀ {n : Nat} {A : SE}, chainC cs k z off lo e0 n = some A →
  ∀ m : Nat, lo ≤ m → m ≤ lo + n → ∃ v e, cs.get (m * z + off) = some v ∧ zOq v = some (k, e) ∧ A.row zAc.env (m : Int) 0 = e.eval zAc.env := by
 intro n
 induction n with
 | zero =>
  intro A h m h1 h2
  cases h
  have : m = lo := by omega
  subst this
  exact ⟨v0, e0, h0, hs, rfl⟩
 | succ n ih =>
  intro A h m h1 h2
  unfold chainC at h
  split at h
  ·rename_i A' k' e hA hv
   split at h
   ·rename_i hk
    cases h
    subst hk
    rw [Option.bind_eq_some_iff] at hv
    obtain ⟨v, g1, g2⟩ := hv
    by_cases hm : m = lo + (n + 1)
    ·subst hm
     refine ⟨v, e, g1, g2, ?_⟩
     show (if ((lo + (n + 1) : Nat) : Int) = (SE.lit ((lo + (n + 1) : Nat) : Int)).eval zAc.env ∧ (0 : Nat) = 0 then e.eval zAc.env else _) = _
     rw [if_pos ⟨rfl, rfl⟩]
    ·obtain ⟨v', e', q1, q2, q3⟩ := ih hA m h1 (by omega)
     refine ⟨v', e', q1, q2, ?_⟩
     show (if (m : Int) = (SE.lit ((lo + (n + 1) : Nat) : Int)).eval zAc.env ∧ (0 : Nat) = 0 then e.eval zAc.env else A'.row zAc.env (m : Int) 0) = _
     rw [if_neg (fun hh => by have := hh.1; simp only [SE.eval] at this; omega)]
     exact q3
   ·cases h
  ·cases h
theorem selCells_ok {cs : Tr AV} {z lo cnt M a0 m : Nat} {r : SE} {arr : Array Value} (hr : r.eval zAc.env = m) (h1 : lo ≤ m) (h2 : m ≤ lo + cnt) (hc : Cells φ cs M a0 arr) : ∀ (n off : Nat) (l : List AV), m * z + (off + n) ≤ M → zPb cs z lo cnt r off n = some l →
  ∃ xs, RL φ l xs ∧ xs.length = n ∧ ∀ j, j < n → arr[a0 + (m * z + off) + j]? = xs[j]? := by
 intro n
 induction n with
 | zero => intro off l _ h; cases h; exact ⟨[], .nil, rfl, fun j hj => by omega⟩
 | succ n ih =>
  intro off l hM h
  unfold zPb at h
  split at h
  ·rename_i v l' hv hl
   cases h
   obtain ⟨xs, k1, k2, k3⟩ := ih (off + 1) l' (by omega) hl
   unfold selCell at hv
   split at hv
   ·rename_i k e0 hb
    rw [Option.bind_eq_some_iff] at hb
    obtain ⟨v0, b1, b2⟩ := hb
    split at hv
    ·rename_i A hA
     cases hv
     obtain ⟨u, e, q1, q2, q3⟩ := chainC_ok b1 b2 hA m h1 h2
     obtain ⟨x, x1, x2⟩ := hc.2 (m * z + off) u (by omega) q1
     have hx := zCn x2 q2
     refine ⟨x :: xs, .cons (by rw [hx]; exact .sx (by rw [selS_ok, hr]; exact q3)) k1, by simp [k2], fun j hj => ?_⟩
     cases j with
     | zero => simpa using x1
     | succ j =>
      have := k3 j (by omega)
      rw [show a0 + (m * z + off) + (j + 1) = a0 + (m * z + (off + 1)) + j by omega, this]; simp
    ·cases hv
   ·cases hv
  ·cases h
theorem rowsOf_ok {cs : Tr AV} {M z c n a0 : Nat} {r : SE} {arr : Array Value} {l : List AV} (hc : Cells φ cs M a0 arr) (h : rowsOf cs M z r c n = some l) :
  ∃ (m : Nat) (xs : List Value), r.eval zAc.env = m ∧ RL φ l xs ∧ xs.length = n ∧ ∀ j, j < n → arr[a0 + (m * z + c) + j]? = xs[j]? := by
 unfold rowsOf at h
 have hr := r.rng_ok
 split at h
 ·rename_i lo hi e1 e2
  have g1 := hr.1 _ e1
  have g2 := hr.2 _ e2
  simp only [Int.ofNat_eq_natCast] at g1 g2
  rcases zDs h with ⟨hb, h⟩ | ⟨_, h⟩
  ·simp only [Bool.and_eq_true] at hb
   have b1 := Nat.le_of_ble_eq_true hb.1
   have b3 := Nat.le_of_ble_eq_true hb.2.2
   obtain ⟨m, hm⟩ : ∃ m : Nat, r.eval zAc.env = m := ⟨_, (Int.toNat_of_nonneg (show 0 ≤ r.eval zAc.env by omega)).symm⟩
   have hmz : m * z ≤ hi * z := Nat.mul_le_mul_right _ (by omega)
   obtain ⟨xs, k1, k2, k3⟩ := selCells_ok (φ := φ) hm (show lo ≤ m by omega) (show m ≤ lo + (hi - lo) by omega) hc n c l (by omega) h
   exact ⟨m, xs, hm, k1, k2, k3⟩
  ·cases h
 ·cases h
theorem readRow_ok (h : RW φ B s w) (b z : Nat) (r : SE) (c n : Nat) : (readRow b z r c n s).wp fun l s' => s' = s ∧ ∃ (a : Lc) (m : Nat) (xs : List Value), φ b = some a ∧ r.eval zAc.env = m ∧ RL φ l xs ∧ xs.length = n ∧ ∀ j, j < n → w.cell? ⟨a.blk, a.off + (m * z + c) + j, none⟩ = xs[j]? := by
 unfold readRow
 refine zAe (zBo fun t x e => ?_)
 obtain ⟨a, ha, hb, _⟩ := h.blk b t x e
 cases x <;> simp only <;> first | exact zAa | skip
 ·obtain ⟨arr, el, h1, h2, _⟩ := hb
  refine zFm fun l hl => ?_
  obtain ⟨m, xs, hm, k1, k2, k3⟩ := rowsOf_ok h2 hl
  exact ⟨rfl, a, m, xs, ha, hm, k1, k2, fun j hj => by rw [cell_of h1, k3 j hj]⟩
 ·obtain ⟨arr, el, fz, h1, h2⟩ := hb
  refine zFm fun l hl => ?_
  obtain ⟨m, xs, hm, k1, k2, k3⟩ := rowsOf_ok h2 hl
  exact ⟨rfl, a, m, xs, ha, hm, k1, k2, fun j hj => by rw [cell_of h1, k3 j hj]⟩
 rename_i ks A len ro
 obtain ⟨arr, el, fz, h1, h2, M, hM, h3, h4⟩ := hb
 refine zAo (fun hc => ?_) (fun _ => zAa)
 refine zAo (fun hin => zFm fun l hl => ?_) (fun _ => zAa)
 simp only [Bool.and_eq_true] at hc
 have hz := Nat.eq_of_beq_eq_true hc.1
 subst hz
 obtain ⟨m, hm, hlt⟩ := rowIn_ok hin hM
 obtain ⟨xs, k1, k2, k3⟩ := cols_ok (φ := φ) hm hlt h4 n c l hl
 exact ⟨rfl, a, m, xs, ha, hm, k1, k2, fun j hj => by rw [cell_of h1, k3 j hj]⟩
theorem toCols_ok {ks : List CK} : ∀ {l : List AV} {c : Nat} {es : List SE} {xs : List Value}, toCols ks c l = some es → RL φ l xs →
  es.length = xs.length ∧ (0 < xs.length → c + xs.length ≤ ks.length) ∧ (∀ x ∈ xs, oneC x = true) ∧ ∀ j k, j < xs.length → ks[c + j]? = some k → ∃ x, xs[j]? = some x ∧ CKv k (((es[j]?).getD (.lit 0)).eval zAc.env) x := by
 intro l
 induction l with
 | nil => intro c es xs h hl; cases hl; simp only [toCols] at h; cases h; exact ⟨rfl, fun h => absurd h (by simp), by simp, fun j k hj => absurd hj (by simp)⟩
 | cons v l ih =>
  intro c es xs h hl
  cases hl with | cons hv hl =>
  rename_i x xs
  simp only [toCols] at h
  split at h
  ·rename_i e r he hr
   cases h
   obtain ⟨i1, i2, i3, i4⟩ := ih hr hl
   cases hk : ks[c]? with
   | none => rw [hk] at he; cases he
   | some k =>
    rw [hk] at he
    simp only [Option.bind_some] at he
    have hlt := (List.getElem?_eq_some_iff.1 hk).1
    have hx : CKv k (e.eval zAc.env) x ∧ oneC x = true := by
     unfold toCol at he
     split at he
     ·split at he
      ·rename_i hkk
       cases he; subst hkk
       cases hv
       exact ⟨rfl, rfl⟩
      ·cases he
     ·split at he
      ·rename_i hkk
       cases he; subst hkk
       cases hv with | sx hv => exact ⟨by rw [hv]; rfl, rfl⟩
      ·cases he
     ·cases he
      cases hv
      rename_i t
      cases t
      ·exact ⟨rfl, rfl⟩
      ·exact ⟨rfl, rfl⟩
     ·cases he
    refine ⟨by simp [i1], fun _ => ?_, fun y hy => ?_, fun j k' hj hk' => ?_⟩
    ·cases xs with
     | nil => simp; omega
     | cons _ _ => have := i2 (by simp); simp at this ⊢; omega
    ·rcases List.mem_cons.1 hy with rfl | hy
     ·exact hx.2
     ·exact i3 y hy
    ·cases j with
     | zero =>
      simp only [Nat.add_zero] at hk'
      rw [hk] at hk'; cases hk'
      exact ⟨x, by simp, by simpa using hx.1⟩
     | succ j =>
      rw [show c + (j + 1) = c + 1 + j by omega] at hk'
      have := i4 j k' (by simpa using hj) hk'
      simpa using this
  ·cases h
theorem writeRow_ok (h : RW φ B s w) (b z : Nat) (r : SE) (c : Nat) (l : List AV) : (writeRow b z r c l s).wp fun _ s' => ∃ (a : Lc) (m : Nat), φ b = some a ∧ r.eval zAc.env = m ∧ ∀ xs, RL φ l xs → ∃ w', (storeCells ⟨a.blk, a.off + (m * z + c), none⟩ xs).run P w = .ok () w' ∧ Stp φ B s w φ s' w' := by
 unfold writeRow
 refine zAe (zBo fun t x e => ?_)
 obtain ⟨a, ha, hb, hBB⟩ := h.blk b t x e
 cases x <;> first | exact zAa | skip
 rename_i ks A len ro
 cases ro <;> first | exact zAa | skip
 dsimp only
 obtain ⟨arr, el, fz, h1, h2, M, hM, h3, h4⟩ := hb
 obtain ⟨h2, hroom⟩ := h2 rfl
 subst h2
 refine zAo (fun hc => ?_) (fun _ => zAa)
 refine zAo (fun hin => ?_) (fun _ => zAa)
 have hz := Nat.eq_of_beq_eq_true hc
 subst hz
 obtain ⟨m, hm, hlt⟩ := rowIn_ok hin hM
 cases hes : toCols ks c l with
 | none => exact zAa
 | some es =>
  refine zEe fun t' y e' hy hx hl => ?_
  rw [e] at e'; cases e'
  refine ⟨a, m, ha, hm, fun xs hxs => ?_⟩
  obtain ⟨g1, g2, g3, g4⟩ := toCols_ok hes hxs
  have hMm : (m + 1) * ks.length ≤ M * ks.length := Nat.mul_le_mul_right _ hlt
  rw [Nat.add_mul] at hMm
  have hfit : a.off + (m * ks.length + c) + xs.length ≤ arr.size ∨ xs.length = 0 := by
   rcases Nat.eq_zero_or_pos xs.length with h0 | h0
   ·exact .inr h0
   ·have := g2 h0; exact .inl (by omega)
  by_cases h0 : xs.length = 0
  ·have : xs = [] := List.length_eq_zero_iff.1 h0
   subst this
   refine ⟨w, by simp [storeCells], zNn h e hy rfl hl ha ⟨arr, el, (0, 0), h1, fun _ => ⟨rfl, hroom⟩, M, hM, h3, fun r' c' k hr' hk => ?_⟩ rfl rfl rfl rfl (fun _ _ => rfl)⟩
   have : es = [] := List.length_eq_zero_iff.1 (by simpa using g1)
   subst this
   exact h4 r' c' k hr' hk
  have hfit : a.off + (m * ks.length + c) + xs.length ≤ arr.size := by
   rcases hfit with h | h
   ·exact h
   ·exact (h0 h).elim
  have hcl := g2 (by omega)
  obtain ⟨w', e1, e2, e3, e4, e5, e6, e7⟩ := zDl (P := P) xs (a.off + (m * ks.length + c)) 0 arr w h1 (by omega) g3
  refine ⟨w', e1, zNn h e hy rfl hl ha ⟨_, el, (0, 0), e2, fun _ => ⟨rfl, by rw [zBw]; exact hroom⟩, M, hM, by rw [zBw]; exact h3, fun r' c' k hr' hk => ?_⟩ e5 e6 e7 e4 e3⟩
  have hc' := (List.getElem?_eq_some_iff.1 hk).1
  rw [zDu _ _ _ _ (by omega), updL_ok, hm]
  by_cases hin : r' = m ∧ c ≤ c' ∧ c' < c + es.length
  ·obtain ⟨rfl, q1, q2⟩ := hin
   rw [if_pos (by omega), if_pos ⟨rfl, q1, q2⟩]
   obtain ⟨x, p1, p2⟩ := g4 (c' - c) k (by omega) (by rw [show c + (c' - c) = c' by omega]; exact hk)
   refine ⟨x, ?_, p2⟩
   rw [show a.off + (r' * ks.length + c') - (a.off + (r' * ks.length + c) + 0) = c' - c by omega]
   exact p1
  ·have n1 : ¬ (a.off + (m * ks.length + c) + 0 ≤ a.off + (r' * ks.length + c') ∧ a.off + (r' * ks.length + c') < a.off + (m * ks.length + c) + 0 + xs.length) := by
    intro hh
    have : r' * ks.length + c' = m * ks.length + (c + (r' * ks.length + c' - (m * ks.length + c))) := by omega
    have := row_inj hc' (by omega) this
    exact hin ⟨this.1, by omega, by omega⟩
   have n2 : ¬ ((r' : Int) = (m : Int) ∧ c ≤ c' ∧ c' < c + es.length) := fun hh => hin ⟨by have := hh.1; omega, hh.2⟩
   rw [if_neg n1, if_neg n2]
   exact h4 r' c' k hr' hk
def Phi.put (φ : Phi) (n : Nat) (a : Lc) : Phi := fun b => if b = n then some a else φ b
omit [Facts] [zAc] in
theorem Phi.le_put {φ : Phi} {n : Nat} (h : φ n = none) (a : Lc) : φ.le (φ.put n a) := fun b x e => by
 unfold Phi.put
 rw [if_neg]; exact e
 rintro rfl; rw [h] at e; cases e
theorem zIv (h : RW φ B s w) (hB : B ≤ w.heap.size) (hf : φ s.n = none) {x : Blk} (hx : x.fixed = false) {cap : Nat}
  (hos : w'.os = w.os) (htape : w'.tape = w.tape) (hout : w'.output = w.output) (hsz : w.heap.size < w'.heap.size) (hh : ∀ r, r < w.heap.size → w'.heap[r]? = w.heap[r]?)
  (hb : RB (φ.put s.n ⟨w.heap.size, 0, cap⟩) w' ⟨w.heap.size, 0, cap⟩ x) :
  Stp φ B s w (φ.put s.n ⟨w.heap.size, 0, cap⟩) { s with h := s.h.set s.n (s.clk + 1, x), n := s.n + 1, clk := s.clk + 1 } w' := by
 have hle := Phi.le_put hf ⟨w.heap.size, 0, cap⟩
 have hup : Up s { s with h := s.h.set s.n (s.clk + 1, x), n := s.n + 1, clk := s.clk + 1 } := by
  have := zAb.newB x s h.wf
  rw [newB_eq] at this
  rw [hx] at this
  exact this
 have old : ∀ c t z, s.h.get c = some (t, z) → c ≠ s.n := fun c t z e => by have := (h.lt c t z e).1; omega
 have hput : ∀ c, c ≠ s.n → (φ.put s.n ⟨w.heap.size, 0, cap⟩) c = φ c := fun c hc => by unfold Phi.put; rw [if_neg hc]
 refine ⟨hle, fun b hb => ?_, fun b a e e' => ?_, ?_, ?_, hup⟩
 ·have : b = s.n := Classical.byContradiction fun hne => hb (hput b hne)
  subst this; exact ⟨Nat.le_refl _, Nat.lt_succ_self _⟩
 ·by_cases hbn : b = s.n
  ·subst hbn; simp only [Phi.put, if_true] at e; cases e; exact .inl (Nat.le_refl _)
  ·rw [hput b hbn, e'] at e; cases e
 ·refine ⟨fun c t' z e => ?_, fun c d t1 t2 x1 x2 a1 a2 e1 e2 f1 hne p1 p2 => ?_, fun c t' z e => hup.wf c t' z e⟩
  ·simp only [Tr.get_set] at e
   split at e
   ·rename_i hcb; subst hcb; cases e
    exact ⟨_, by simp only [Phi.put, if_true], hb, fun _ => hB⟩
   ·rename_i hcb
    obtain ⟨a1, p1, p2, p3⟩ := h.blk c t' z e
    exact ⟨a1, by rw [hput c hcb]; exact p1, (p2.mono hle).of_heap (hh _ p2.lt), p3⟩
  ·have ltOf : ∀ c t z a, s.h.get c = some (t, z) → φ c = some a → a.blk < w.heap.size := fun c t z a e p => by
    obtain ⟨a', q1, q2, _⟩ := h.blk c t z e
    rw [p] at q1; cases q1; exact q2.lt
   simp only [Tr.get_set] at e1 e2
   split at e1
   ·rename_i hcb; subst hcb
    rw [if_neg (fun e => hne e.symm)] at e2
    simp only [Phi.put, if_true] at p1; cases p1
    rw [hput d (fun e => hne e.symm)] at p2
    have := ltOf d t2 x2 a2 e2 p2
    simp only; omega
   ·rename_i hcb
    rw [hput c hcb] at p1
    split at e2
    ·rename_i hdb; subst hdb
     simp only [Phi.put, if_true] at p2; cases p2
     have := ltOf c t1 x1 a1 e1 p1
     simp only; omega
    ·rename_i hdb
     rw [hput d hdb] at p2
     exact h.inj c d t1 t2 x1 x2 a1 a2 e1 e2 f1 hne p1 p2
 ·exact ⟨hos, htape, hout, Nat.le_of_lt hsz, fun r hr _ => hh r hr⟩
omit [Facts] [zAc] in
theorem zHy {x : Blk} {s : HS} {Q : Nat → HS → Prop} (h : x.fixed = false → Q s.n { s with h := s.h.set s.n (s.clk + 1, x), n := s.n + 1, clk := s.clk + 1 }) : (newB x s).wp Q := by
 rw [newB_eq]
 cases hx : x.fixed
 ·exact h hx
 ·trivial
omit [Facts] [zAc] in
theorem zGz (w : World) (o : Obj) (r : Nat) : r < w.heap.size → ({ w with heap := w.heap.push o } : World).heap[r]? = w.heap[r]? := fun h => by
 simp only [Array.getElem?_push]
 rw [if_neg (by omega)]
theorem cells_new {l : List AV} {xs : List Value} (h : RL φ l xs) (rest : Array Value) : Cells φ (Tr.fill l 0 .lf) l.length 0 (xs.toArray ++ rest) := by
 have hl := h.length
 refine ⟨by simp; omega, fun i v hi hv => ?_⟩
 rw [Tr.get_fill, if_pos (by omega)] at hv
 obtain ⟨x, g1, g2⟩ := h.get (by simpa using hv)
 refine ⟨x, ?_, g2⟩
 rw [Array.getElem?_append_left (by simp; omega)]
 simpa using g1
theorem zIw (h : RW φ B s w) (hB : B ≤ w.heap.size) (l : List AV) (g : Option Nat) : (newCells l g s).wp fun b s' => b = s.n ∧ s'.n = s.n + 1 ∧ (φ s.n = none → ∀ (xs : List Value) (el : TypeId) (rest : Array Value) (cap : Nat) (w1 : World), RL φ l xs → (∀ z, g = some z → xs.length ≤ cap * z ∧ cap * z ≤ (xs.toArray ++ rest).size) →
  w1.os = w.os → w1.tape = w.tape → w1.output = w.output → w1.heap = w.heap →
  Stp φ B s w (φ.put s.n ⟨w.heap.size, 0, cap⟩) s' { w1 with heap := w1.heap.push (.cells (xs.toArray ++ rest) el) }) := by
 unfold newCells
 refine zAo (fun hc => zHy fun hx => ⟨rfl, rfl, fun hf xs el rest cap w1 hxs hg e1 e2 e3 e4 => ?_⟩) (fun _ => zAa)
 have hl := hxs.length
 refine zIv (w' := { w1 with heap := w1.heap.push (.cells (xs.toArray ++ rest) el) }) h hB hf rfl e1 e2 e3 (by simp [e4]) (fun r hr => by rw [zGz _ _ _ (by rw [e4]; exact hr), e4]) ?_
 refine ⟨_, el, by rw [← e4]; simp, (cells_new hxs rest).mono (Phi.le_put hf _), fun z hz => ?_⟩
 have := hg z hz
 simp only
 omega
end
end
end Go.Abs
namespace Go.Abs
noncomputable section
variable [Facts] [zAc]
section
variable {P : Program} {φ ψ : Phi} {B N : Nat} {s s' : HS} {w w' : World}
theorem load_ok (h : RW φ B s w) {t : TypeId} {x : AV} {X : Value} (hx : RV φ x X) : (loadA P t x s).wp fun v s' => s' = s ∧ ∃ y, (Instr.loadAt t X).run P w = .ok y w ∧ RV φ v y := by
 unfold loadA
 split
 ·rename_i b off
  cases hx with | ptr e =>
  rename_i a
  cases h2 : szO P t with
  | none => cases h1 : aggO P t with
   | none => exact zAa
   | some b => cases b <;> exact zAa
  | some n => cases h1 : aggO P t with
   | none => exact zAa
   | some b => cases b with
    | true =>
     refine zAe (R.wp_mono ?_ (read_ok h _ off n))
     rintro l s' ⟨rfl, a', xs, ha, hl, hn, hc⟩
     rw [e] at ha; cases ha
     refine ⟨rfl, .agg xs.toArray, ?_, .agg hl⟩
     simp only [Instr.loadAt, Instr.sureAddr, Sem.run_bind, Sem.run_pure, Result.andThen_ok, loadVar, zNo h1, zAt h2, if_true, run_loadCells hc hn]
    | false =>
     refine zAe (R.wp_mono ?_ (read_ok h _ off 1))
     rintro l s' ⟨rfl, a', xs, ha, hl, hn, hc⟩
     rw [e] at ha; cases ha
     split
     ·rename_i v
      cases hl with | cons hv hl =>
      cases hl
      rename_i y
      refine ⟨rfl, y, ?_, hv⟩
      have := hc 0 (by omega)
      simp only [Nat.add_zero, List.getElem?_cons_zero] at this
      simp only [Instr.loadAt, Instr.sureAddr, Sem.run_bind, Sem.run_pure, Result.andThen_ok, loadVar, zNo h1, Bool.false_eq_true, if_false, run_load, this]
     ·exact zAa
 ·rename_i b z r c
  cases hx with | ps e hr =>
  rename_i a m
  cases h2 : szO P t with
  | none => cases h1 : aggO P t with
   | none => exact zAa
   | some b => cases b <;> exact zAa
  | some n => cases h1 : aggO P t with
   | none => exact zAa
   | some b => cases b with
    | true =>
     refine zAe (R.wp_mono ?_ (readRow_ok h _ z r c n))
     rintro l s' ⟨rfl, a', m', xs, ha, hm, hl, hn, hc⟩
     rw [e] at ha; cases ha
     rw [hr] at hm
     obtain rfl : m = m' := by omega
     refine ⟨rfl, .agg xs.toArray, ?_, .agg hl⟩
     simp only [Instr.loadAt, Instr.sureAddr, Sem.run_bind, Sem.run_pure, Result.andThen_ok, loadVar, zNo h1, zAt h2, if_true, run_loadCells hc hn]
    | false =>
     refine zAe (R.wp_mono ?_ (readRow_ok h _ z r c 1))
     rintro l s' ⟨rfl, a', m', xs, ha, hm, hl, hn, hc⟩
     rw [e] at ha; cases ha
     rw [hr] at hm
     obtain rfl : m = m' := by omega
     split
     ·rename_i v
      cases hl with | cons hv hl =>
      cases hl
      rename_i y
      refine ⟨rfl, y, ?_, hv⟩
      have := hc 0 (by omega)
      simp only [Nat.add_zero, List.getElem?_cons_zero] at this
      simp only [Instr.loadAt, Instr.sureAddr, Sem.run_bind, Sem.run_pure, Result.andThen_ok, loadVar, zNo h1, Bool.false_eq_true, if_false, run_load, this]
     ·exact zAa
 ·exact zAa
theorem store_ok (h : RW φ B s w) {t : TypeId} {x v : AV} {X V : Value} (hx : RV φ x X) (hv : RV φ v V) : (storeA P t x v s).wp fun r s' => r = .val undef ∧ ∃ w', (Instr.storeAt t X V).run P w = .ok () w' ∧ Stp φ B s w φ s' w' := by
 unfold storeA
 split
 ·rename_i b off
  cases hx with | ptr e =>
  rename_i a
  cases h1 : szO P t with
  | none => exact zAa
  | some n =>
   refine zAo (fun hb => ?_) (fun _ => zAa)
   have hn := Nat.eq_of_beq_eq_true hb
   refine zAe (R.wp_mono ?_ (zOv (P := P) h _ off v.cells))
   rintro _ s' ⟨a', ha, hw⟩
   rw [e] at ha; cases ha
   obtain ⟨w', g1, g2⟩ := hw _ hv.cells
   refine ⟨rfl, w', ?_, g2⟩
   have hlen : V.cells.size = n := by have := hv.cells.length; simp at this; omega
   simp only [Instr.storeAt, Instr.sureAddr, Sem.run_bind, Sem.run_pure, Result.andThen_ok, storeVar, zAt h1, hlen]
   simpa using g1
 ·rename_i b z r c
  cases hx with | ps e hr =>
  rename_i a m
  cases h1 : szO P t with
  | none => exact zAa
  | some n =>
   refine zAo (fun hb => ?_) (fun _ => zAa)
   have hn := Nat.eq_of_beq_eq_true hb
   refine zAe (R.wp_mono ?_ (writeRow_ok (P := P) h _ z r c v.cells))
   rintro _ s' ⟨a', m', ha, hm, hw⟩
   rw [e] at ha; cases ha
   rw [hr] at hm
   obtain rfl : m = m' := by omega
   obtain ⟨w', g1, g2⟩ := hw _ hv.cells
   refine ⟨rfl, w', ?_, g2⟩
   have hlen : V.cells.size = n := by have := hv.cells.length; simp at this; omega
   simp only [Instr.storeAt, Instr.sureAddr, Sem.run_bind, Sem.run_pure, Result.andThen_ok, storeVar, zAt h1, hlen]
   simpa using g1
 ·exact zAa
omit [Facts] [zAc] in
theorem rep_length (l : List AV) : ∀ n, (repA l n).length = n * l.length := by
 intro n
 induction n with
 | zero => simp [repA]
 | succ n ih => simp [repA, ih, Nat.add_mul]; omega
omit [Facts] [zAc] in
theorem rep_get (l : List AV) : ∀ (n i : Nat), i < n * l.length → (repA l n)[i]? = l[i % l.length]? := by
 intro n
 induction n with
 | zero => intro i h; omega
 | succ n ih =>
  intro i h
  simp only [repA]
  by_cases hi : i < l.length
  ·rw [List.getElem?_append_left hi, Nat.mod_eq_of_lt hi]
  ·rw [List.getElem?_append_right (by omega), ih _ (by rw [Nat.add_mul] at h; omega)]
   congr 1
   rw [← Nat.mod_eq_sub_mod (by omega)]
theorem RL.of_get {l : List AV} {xs : List Value} (hl : l.length = xs.length) (h : ∀ (i : Nat) (v : AV), l[i]? = some v → ∃ x, xs[i]? = some x ∧ RV φ v x) : RL φ l xs := by
 induction l generalizing xs with
 | nil => cases xs with
  | nil => exact .nil
  | cons x xs => cases hl
 | cons a l ih =>
  cases xs with
  | nil => cases hl
  | cons x xs =>
   obtain ⟨y, h1, h2⟩ := h 0 a (by simp)
   simp at h1; subst h1
   exact .cons h2 (ih (by simpa using hl) (fun i v hv => by simpa using h (i + 1) v (by simpa using hv)))
theorem rep_ok {l : List AV} {z : Array Value} (h : RL φ l z.toList) (n : Nat) : RL φ (repA l n) ((Array.range (n * l.length)).map (fun i => z[i % z.size]!)).toList := by
 have hz : l.length = z.size := by simpa using h.length
 refine RL.of_get (by rw [rep_length]; simp) fun i v hv => ?_
 have hi : i < n * l.length := by have := (List.getElem?_eq_some_iff.1 hv).1; rwa [rep_length] at this
 rw [rep_get _ _ _ hi] at hv
 obtain ⟨x, h1, h2⟩ := h.get hv
 refine ⟨x, ?_, h2⟩
 have hpos : 0 < z.size := by
  rcases Nat.eq_zero_or_pos z.size with h0 | h0
  ·rw [hz, h0] at hi; omega
  ·exact h0
 have hm : i % z.size < z.size := Nat.mod_lt _ hpos
 simp only [Array.toList_map, Array.toList_range, List.getElem?_map, List.getElem?_range hi, Option.map_some]
 rw [hz] at h1
 have : z[i % z.size]? = some x := by simpa using h1
 rw [getElem!_pos z _ hm]
 rw [Array.getElem?_eq_getElem hm] at this
 exact this
def HP (P : Program) (φ : Phi) (B N : Nat) (s : HS) (w : World) (run : Result Next) (v : AV) (s' : HS) : Prop :=
 s'.n ≤ N → ∃ ψ w' x, (run = .ok (.value x) w' ∨ (run = .ok .skip w' ∧ x = undef)) ∧ RV ψ v x ∧ Stp φ B s w ψ s' w'
omit [Facts] [zAc] in
theorem Phi.put_self (φ : Phi) (n : Nat) (a : Lc) : (φ.put n a) n = some a := by simp [Phi.put]
theorem src_ok (h : RW φ B s w) {size : Nat} {x : AV} {X : Value} (hx : RV φ x X) {n : Nat} (hn : zHd x = some n) (k : Nat) (hk : k ≤ n) : (srcCells size x k s).wp fun l s' => s' = s ∧ l.length = k * size ∧ ∃ xs, RL φ l xs.toList ∧ ∀ w1 : World, w1.heap = w.heap → (Builtin.firstCells size k X).run P w1 = .ok xs w1 := by
 unfold srcCells
 split
 ·rename_i b off z len cap
  have hx' := hx
  cases hx with | sl e hc hl ho =>
  rename_i a o c
  refine zAo (fun hb => ?_) (fun hb => zAo (fun hb' => ?_) (fun _ => zAa))
  ·have h0 := Nat.eq_of_beq_eq_true hb
   subst h0
   refine ⟨rfl, by simp, #[], .nil, fun w1 _ => ?_⟩
   simp [Builtin.firstCells, loadCells, loadCellsFrom]
  ·have hk0 : k ≠ 0 := fun e => by rw [e] at hb; cases hb
   simp only [Bool.and_eq_true] at hb'
   have hz := Nat.eq_of_beq_eq_true hb'.1
   have hkl := Nat.le_of_ble_eq_true hb'.2
   subst hz
   refine R.wp_mono ?_ (read_ok h b off (k * z))
   rintro l s' ⟨rfl, a', xs, ha, hl', hlen, hcell⟩
   rw [e] at ha; cases ha
   rw [ho (by omega)]
   refine ⟨rfl, by rw [hl'.length, hlen], xs.toArray, by simpa using hl', fun w1 e1 => ?_⟩
   have hcell1 : ∀ j, j < k * z → w1.cell? ⟨a.blk, a.off + off + j, none⟩ = xs[j]? := fun j hj => by rw [← hcell j hj]; simp only [World.cell?, e1]
   simp only [Builtin.firstCells, run_loadCells hcell1 hlen]
 ·rename_i m c
  cases hx
  have hk0 : k = 0 := by
   unfold zHd at hn
   split at hn <;> first | (rename_i e; cases e; done) | skip
   ·rename_i e; cases e; cases hn; omega
   ·cases hn
  subst hk0
  exact ⟨rfl, by simp, #[], .nil, fun w1 _ => by simp [Builtin.firstCells]⟩
 ·rename_i t
  cases hx
  simp only [zHd] at hn; cases hn
  refine zAo (fun hb => ?_) (fun _ => zAa)
  have h1 := Nat.eq_of_beq_eq_true hb
  subst h1
  refine ⟨rfl, by simp only [List.length_map, List.length_take, Nat.mul_one]; exact Nat.min_eq_left (by simpa using hk), ((t.extract 0 k).data.map fun b => .int .u8 b.toNat), ?_, fun w1 _ => by simp [Builtin.firstCells]⟩
  have : ((t.extract 0 k).data.map fun b => (.int .u8 b.toNat : Value)).toList = (t.data.toList.take k).map fun b => .int .u8 b.toNat := by
   simp [ByteArray.data_extract]
  rw [this]
  generalize t.data.toList.take k = l
  induction l with
  | nil => exact .nil
  | cons b l ih => exact .cons (.val _) ih
 ·exact zAa
theorem lenOf_ok {x : AV} {X : Value} (hx : RV φ x X) {n : Nat} (hn : zHd x = some n) : (Builtin.lenOf X).run P w = .ok n w := by
 unfold zHd at hn
 split at hn
 ·cases hn; cases hx; simp [Builtin.lenOf]
 ·cases hn; cases hx; simp [Builtin.lenOf]
 ·cases hn; cases hx; simp [Builtin.lenOf]
 ·cases hn
omit [Facts] [zAc] in
theorem next_cap {need sCap : Nat} (h : need ≤ 2 * zCo) (h2 : sCap < need) : Builtin.nextslicecap need sCap ≤ 2147483648 := by
 unfold zCo at h
 unfold Builtin.nextslicecap
 split
 ·omega
 ·split
  ·omega
  ·have key : ∀ r c, c ≤ 536870912 + r * 0 → Builtin.growBy need r c ≤ 2147483648 ∨ r > 4 := by
    intro r
    intro c hc
    rcases Nat.lt_or_ge 4 r with hr | hr
    ·exact .inr hr
    ·left
     have : ∀ r c, Builtin.growBy need r c ≤ c ∨ ∃ d, d < need ∧ Builtin.growBy need r c ≤ d + (d + 768) / 4 := by
      intro r
      induction r with
      | zero => intro c; exact .inl (Nat.le_refl _)
      | succ r ih =>
       intro c
       simp only [Builtin.growBy]
       split
       ·exact .inl (Nat.le_refl _)
       ·rename_i hlt
        rcases ih (c + (c + 768) / 4) with h | ⟨d, h1, h2⟩
        ·exact .inr ⟨c, by omega, h⟩
        ·exact .inr ⟨d, h1, h2⟩
     rcases this r c with h | ⟨d, h1, h2⟩
     ·omega
     ·omega
   rcases key 4 sCap (by omega) with h | h
   ·exact h
   ·omega
omit [Facts] [zAc] in
theorem zEk {t e : TypeId} {t2 : TypeId} {d2 : TypeDesc} {ie : TypeInfo} {z : Value} (hu : P.underlying t = some (.slice e)) (hi : P.info? e = some ie) (hz : ie.zero = some z) (hzs : z.cells.size = ie.size)
  (hb : ie.bytes ≤ 65536) (hb1 : 1 ≤ ie.bytes) (hu2 : P.underlying t2 = some d2) (hd2 : ∀ k, d2 ≠ .int k) {ty : TypeId} {bs : Option Addr} {len cap n : Nat} {X : Value} (hl : (Builtin.lenOf X).run P w = .ok n w) (hneed : cap < len + n) (hroom : len + n ≤ 2 * zCo)
  {o l : Array Value} (ho : ∀ w1 : World, w1.heap = w.heap → (Builtin.firstCells ie.size len (.slice bs len cap)).run P w1 = .ok o w1) (hl2 : ∀ w1 : World, w1.heap = w.heap → (Builtin.firstCells ie.size n X).run P w1 = .ok l w1) :
  ∃ (C : Nat) (rest : Array Value) (w1 : World), len + n ≤ C ∧ w1.os = w.os ∧ w1.tape = w.tape ∧ w1.output = w.output ∧ w1.heap = w.heap ∧ rest.size = (C - (len + n)) * ie.size ∧
   (Builtin.append_ #[t, t2] ty #[.slice bs len cap, X]).run P w = .ok (.slice (some ⟨w.heap.size, 0, none⟩) (len + n) C) { w1 with heap := w1.heap.push (.cells (o ++ l ++ rest) e) } := by
 have hs : szO P e = some ie.size := by simp [szO, hi]
 have hzz : zJm P e = some z := by simp [zJm, hi, hz]
 have h1 : ¬ (len + n ≤ cap) := by omega
 have h2 : ¬ ((((len + n : Nat)) : Int) > IntKind.i64.max ∧ (false = true ∨ ie.bytes = 0)) := by
  rintro ⟨_, h | h⟩
  ·cases h
  ·omega
 have h3 : ¬ (Builtin.nextslicecap (len + n) cap * ie.bytes > 2 ^ 48) := by
  have := next_cap hroom (by omega : cap < len + n)
  have : Builtin.nextslicecap (len + n) cap * ie.bytes ≤ 2147483648 * 65536 := Nat.mul_le_mul this hb
  omega
 refine ⟨(Question.appendCap (len + n) cap e).cut (w.tape w.drawn (.appendCap (len + n) cap e)), Builtin.zeroCells z.cells ((Question.appendCap (len + n) cap e).cut (w.tape w.drawn (.appendCap (len + n) cap e)) - (len + n)), { w with drawn := w.drawn + 1 }, ?_, rfl, rfl, rfl, rfl, ?_, ?_⟩
 ·simp only [Question.cut]; omega
 ·simp [Builtin.zeroCells, hzs]
 ·have hzi : (match d2 with | .int _ => true | _ => false) = false := by
   cases d2 <;> first | rfl | exact (hd2 _ rfl).elim
  simp only [Builtin.append_, List.getElem?_toArray, List.getElem?_cons_zero, List.getElem?_cons_succ, Sem.run_bind, zAf hu, zAf hu2, Result.andThen_ok, zAt hs, Sem.run_pure, hzi, Bool.false_eq_true, if_false, hl, if_neg h1, zDy hi, Bool.not_false, if_true, Sem.run_ite]
  rw [if_neg (by rintro ⟨_, h | h⟩; exact h; omega), if_neg h3]
  simp only [run_choose, Question.forced, Bool.false_eq_true, if_false, Result.andThen_ok, run_askRoom, ho { w with drawn := w.drawn + 1 } rfl, hl2 { w with drawn := w.drawn + 1 } rfl, zFv hzz, newRow, Sem.run_bind, run_newObj, Sem.run_pure]
omit [Facts] [zAc] in
theorem run_append_room {t e : TypeId} {t2 : TypeId} {d2 : TypeDesc} {k : Nat} (hu : P.underlying t = some (.slice e)) (hs : szO P e = some k)
  (hu2 : P.underlying t2 = some d2) (hd2 : ∀ k, d2 ≠ .int k) {ty : TypeId} {bs : Option Addr} {len cap n : Nat} {X : Value} (hl : (Builtin.lenOf X).run P w = .ok n w) (hneed : len + n ≤ cap)
  {l : Array Value} (hl2 : (Builtin.firstCells k n X).run P w = .ok l w) (hst : ∀ a, bs = some a → (storeCells (a.add (len * k)) l.toList).run P w = .ok () w') (hnone : bs = none → w' = w) :
  (Builtin.append_ #[t, t2] ty #[.slice bs len cap, X]).run P w = .ok (.slice bs (len + n) cap) w' := by
 have hzi : (match d2 with | .int _ => true | _ => false) = false := by
  cases d2 <;> first | rfl | exact (hd2 _ rfl).elim
 simp only [Builtin.append_, List.getElem?_toArray, List.getElem?_cons_zero, List.getElem?_cons_succ, Sem.run_bind, zAf hu, zAf hu2, Result.andThen_ok, zAt hs, Sem.run_pure, hzi, Bool.false_eq_true, if_false, hl, if_pos hneed, Bool.not_false, if_true, Sem.run_ite, hl2]
 cases bs with
 | none => simp only [Sem.run_pure, Result.andThen_ok, hnone rfl]
 | some a => simp only [hst a rfl, Sem.run_bind, Sem.run_pure, Result.andThen_ok]
end
end
end Go.Abs
namespace Go.Abs
noncomputable section
variable [Facts] [zAc]
section
variable {P : Program} {φ ψ : Phi} {B N : Nat} {s s' : HS} {w w' : World}
omit [Facts] [zAc] in
theorem append_args {ts : Array TypeId} {as : Array Value} {t t2 ty : TypeId} {a b : Value} (h1 : ts[0]? = some t) (h2 : ts[1]? = some t2) (h3 : as[0]? = some a) (h4 : as[1]? = some b) :
  Builtin.append_ ts ty as = Builtin.append_ #[t, t2] ty #[a, b] := by
 simp [Builtin.append_, h1, h2, h3, h4]
theorem first0 {size : Nat} {x : AV} {X : Value} (hx : RV φ x X) {n : Nat} (hn : zHd x = some n) : (Builtin.firstCells size 0 X).run P w = .ok #[] w := by
 unfold zHd at hn
 split at hn
 ·cases hx; simp [Builtin.firstCells, loadCells, loadCellsFrom]
 ·cases hx; simp [Builtin.firstCells]
 ·cases hx; simp [Builtin.firstCells]
 ·cases hn
omit [Facts] [zAc] in
theorem zKb {b : Nat} {s : HS} {Q : Unit → HS → Prop} (h : ∀ t y, s.h.get b = some (t, y) → y.fixed = false → s.lim ≤ b → Q () { s with h := s.h.del b, clk := s.clk + 1 }) : (delB b s).wp Q := by
 rw [delB_eq]
 split
 ·rename_i t y e
  cases hc : (Nat.ble s.lim b && !y.fixed)
  ·trivial
  ·simp only [Bool.and_eq_true, Bool.not_eq_true'] at hc
   exact h t y e hc.2 (Nat.le_of_ble_eq_true hc.1)
 ·trivial
theorem zJb (h : RW φ B s w) {b t : Nat} {y : Blk} (he : s.h.get b = some (t, y)) (hy : y.fixed = false) (hl : s.lim ≤ b) : Stp φ B s w φ { s with h := s.h.del b, clk := s.clk + 1 } w := by
 have hup : Up s { s with h := s.h.del b, clk := s.clk + 1 } := by
  have := zAb.delB b s h.wf
  rw [delB_eq] at this
  simp only [he] at this
  have hc : (Nat.ble s.lim b && !y.fixed) = true := by simp [hy, hl]
  rw [hc] at this
  exact this
 refine ⟨φ.le_refl, fun b h => (h rfl).elim, fun b a e e' => (by rw [e] at e'; cases e'), ?_, Fr.refl _ _ _, hup⟩
 refine ⟨fun c t' z e => ?_, fun c d t1 t2 x1 x2 a1 a2 e1 e2 f1 hne p1 p2 => ?_, fun c t' z e => hup.wf c t' z e⟩
 ·simp only [Tr.get_del] at e
  split at e
  ·cases e
  ·exact h.blk c t' z e
 ·simp only [Tr.get_del] at e1 e2
  split at e1
  ·cases e1
  ·split at e2
   ·cases e2
   ·exact h.inj c d t1 t2 x1 x2 a1 a2 e1 e2 f1 hne p1 p2
theorem zNq (h : RW φ B s w) {b t : Nat} {y x : Blk} {a a' : Lc} (he : s.h.get b = some (t, y)) (hy : y.fixed = false) (hx : x.fixed = false) (hl : s.lim ≤ b) (ha : φ b = some a) (hf : φ s.n = none) (hblk : a'.blk = a.blk)
  (hb : RB (φ.put s.n a') w' a' x) (hos : w'.os = w.os) (htape : w'.tape = w.tape) (hout : w'.output = w.output) (hsz : w'.heap.size = w.heap.size) (hh : ∀ r, r ≠ a.blk → w'.heap[r]? = w.heap[r]?) :
  Stp φ B s w (φ.put s.n a') { s with h := (s.h.del b).set s.n (s.clk + 1 + 1, x), n := s.n + 1, clk := s.clk + 1 + 1 } w' := by
 obtain ⟨a0, ha0, _, hB⟩ := h.blk b t y he
 rw [ha] at ha0; cases ha0
 have d := zJb h he hy hl
 have hle := Phi.le_put hf a'
 have hup : Up s { s with h := (s.h.del b).set s.n (s.clk + 1 + 1, x), n := s.n + 1, clk := s.clk + 1 + 1 } := by
  refine d.up.trans ?_
  have := zAb.newB x { s with h := s.h.del b, clk := s.clk + 1 } d.up.wf
  rw [newB_eq] at this
  rw [hx] at this
  exact this
 have hput : ∀ c, c ≠ s.n → (φ.put s.n a') c = φ c := fun c hc => by unfold Phi.put; rw [if_neg hc]
 have hbn : b ≠ s.n := fun e => by have := (h.lt b t y he).1; omega
 refine ⟨hle, fun c hc => ?_, fun c l e e' => ?_, ?_, ?_, hup⟩
 ·have : c = s.n := Classical.byContradiction fun hne => hc (hput c hne)
  subst this; exact ⟨Nat.le_refl _, Nat.lt_succ_self _⟩
 ·by_cases hcn : c = s.n
  ·subst hcn; rw [Phi.put_self] at e; cases e; exact .inr ⟨b, t, y, a, he, hy, ha, hblk.symm⟩
  ·rw [hput c hcn, e'] at e; cases e
 ·refine ⟨fun c t' z e => ?_, fun c d t1 t2 x1 x2 a1 a2 e1 e2 f1 hne p1 p2 => ?_, fun c t' z e => hup.wf c t' z e⟩
  ·simp only [Tr.get_set, Tr.get_del] at e
   split at e
   ·rename_i hcb; subst hcb; cases e
    exact ⟨a', Phi.put_self _ _ _, hb, fun _ => by rw [hblk]; exact hB hy⟩
   ·rename_i hcb
    split at e
    ·cases e
    ·rename_i hcb2
     obtain ⟨a1, p1, p2, p3⟩ := h.blk c t' z e
     exact ⟨a1, by rw [hput c hcb]; exact p1, (p2.mono hle).of_heap (hh _ (h.inj b c t t' y z a a1 he e hy (fun e => hcb2 e.symm) ha p1).symm), p3⟩
  ·simp only [Tr.get_set, Tr.get_del] at e1 e2
   split at e1
   ·rename_i hcb; subst hcb
    rw [if_neg (fun e => hne e.symm)] at e2
    split at e2
    ·cases e2
    ·rename_i hdb
     rw [Phi.put_self] at p1; cases p1
     rw [hput d (fun e => hne e.symm)] at p2
     rw [hblk]
     exact h.inj b d t t2 y x2 a a2 he e2 hy (fun e => hdb e.symm) ha p2
   ·rename_i hcn
    split at e1
    ·cases e1
    ·rename_i hcb
     rw [hput c hcn] at p1
     split at e2
     ·rename_i hdb; subst hdb
      rw [Phi.put_self] at p2; cases p2
      rw [hblk]
      exact (h.inj b c t t1 y x1 a a1 he e1 hy (fun e => hcb e.symm) ha p1).symm
     ·rename_i hdn
      split at e2
      ·cases e2
      ·rw [hput d hdn] at p2
       exact h.inj c d t1 t2 x1 x2 a1 a2 e1 e2 f1 hne p1 p2
 ·exact ⟨hos, htape, hout, by rw [hsz]; exact Nat.le_refl _, fun r hr hno => hh r (fun e => hno b t y a he hy ha e.symm)⟩
theorem app_new (h : RW φ B s w) (hB : B ≤ w.heap.size) (hf : zEj φ s.n N) {t e : TypeId} {t2 : TypeId} {d2 : TypeDesc} {ie : TypeInfo} {z : Value} (hu : P.underlying t = some (.slice e)) (hi : P.info? e = some ie) (hz : ie.zero = some z) (hzs : z.cells.size = ie.size)
  (hb : ie.bytes ≤ 65536) (hb1 : 1 ≤ ie.bytes) (hu2 : P.underlying t2 = some d2) (hd2 : ∀ k, d2 ≠ .int k) {ty : TypeId} {bs : Option Addr} {len cap n : Nat} {X : Value} (hl : (Builtin.lenOf X).run P w = .ok n w) (hneed : cap < len + n) (hroom : len + n ≤ 2 * zCo)
  {o l : List AV} {os ls : Array Value} (ho : RL φ o os.toList) (hos : o.length = len * ie.size) (hro : ∀ w1 : World, w1.heap = w.heap → (Builtin.firstCells ie.size len (.slice bs len cap)).run P w1 = .ok os w1)
  (hl1 : RL φ l ls.toList) (hls : l.length = n * ie.size) (hrl : ∀ w1 : World, w1.heap = w.heap → (Builtin.firstCells ie.size n X).run P w1 = .ok ls w1) :
  ((newCells (o ++ l) (some ie.size) >>= fun b => M.pure (.sl b 0 ie.size (len + n) none)) s).wp fun v s' => s'.n ≤ N → ∃ ψ w' y, (Builtin.append_ #[t, t2] ty #[.slice bs len cap, X]).run P w = .ok y w' ∧ RV ψ v y ∧ Stp φ B s w ψ s' w' := by
 refine zAe (R.wp_mono ?_ (zIw h hB (o ++ l) (some ie.size)))
 rintro b s'' ⟨rfl, hn', hstp⟩
 refine zAh fun hN => ?_
 obtain ⟨C, rest, w1, c1, c2, c3, c4, c5, c6, c7⟩ := zEk (P := P) (w := w) (ty := ty) (bs := bs) (X := X) hu hi hz hzs hb hb1 hu2 hd2 hl hneed hroom hro hrl
 have hxl : (os ++ ls).size = (len + n) * ie.size := by
  have h1 := ho.length
  have h2 := hl1.length
  simp at h1 h2
  simp only [Array.size_append, Nat.add_mul]; omega
 have hst := hstp (hf _ (Nat.le_refl _) (by omega)) (os ++ ls).toList e rest C w1 (by simpa using ho.append hl1) (fun z' hz' => by
  cases hz'
  have : (len + n) * ie.size ≤ C * ie.size := Nat.mul_le_mul_right _ c1
  have e2 : (C - (len + n)) * ie.size = C * ie.size - (len + n) * ie.size := Nat.sub_mul _ _ _
  have e3 : ((os ++ ls).toList.toArray ++ rest).size = (os ++ ls).size + rest.size := by simp
  have e4 : (os ++ ls).toList.length = (os ++ ls).size := by simp
  rw [e3, e4, hxl, c6, e2]
  omega) c2 c3 c4 c5
 rw [Array.toArray_toList] at hst
 exact ⟨φ.put s.n ⟨w.heap.size, 0, C⟩, _, _, c7, .sl (Phi.put_self _ _ _) (by simp) c1 (fun _ => by simp), hst⟩
theorem clone_ok (h : RW φ B s w) (hB : B ≤ w.heap.size) (hf : zEj φ s.n N) {t e : TypeId} {t2 : TypeId} {d2 : TypeDesc} {ie : TypeInfo} {z : Value} (hu : P.underlying t = some (.slice e)) (hi : P.info? e = some ie) (hz : ie.zero = some z) (hzs : z.cells.size = ie.size)
  (hb : ie.bytes ≤ 65536) (hb1 : 1 ≤ ie.bytes) (hu2 : P.underlying t2 = some d2) (hd2 : ∀ k, d2 ≠ .int k) {ty : TypeId} {bs : Option Addr} {cap n : Nat} {x : AV} {X : Value} (hl : (Builtin.lenOf X).run P w = .ok n w) (hneed : cap < n) (hroom : n ≤ 2 * zCo)
  (hx : RV φ x X) {b : Nat} (hw : wholeT x ie.size n = some b) :
  (cloneTo b ie.size n s).wp fun v s' => s'.n ≤ N → ∃ ψ w' y, (Builtin.append_ #[t, t2] ty #[.slice bs 0 cap, X]).run P w = .ok y w' ∧ RV ψ v y ∧ Stp φ B s w ψ s' w' := by
 unfold wholeT at hw
 split at hw
 ·rename_i b0 off z' len cp
  cases hc : (Nat.beq off 0 && (Nat.beq z' ie.size && (Nat.ble n len && Nat.ble 32 n))) with
  | false => rw [hc] at hw; cases hw
  | true =>
  rw [hc] at hw; cases hw
  simp only [Bool.and_eq_true] at hc
  have h1 := Nat.eq_of_beq_eq_true hc.1
  have h2 := Nat.eq_of_beq_eq_true hc.2.1
  have h3 := Nat.le_of_ble_eq_true hc.2.2.1
  have h4 := Nat.le_of_ble_eq_true hc.2.2.2
  subst h1 h2
  cases hx with | sl he hcap hlen ho =>
  rename_i a o c
  have ho := ho (by omega)
  subst ho
  have key : ∀ (arr : Array Value) (el : TypeId) (fz : Nat × Nat) (cc : Tr AV) (m : Nat), w.heap[a.blk]? = some (.cells arr el fz) → Cells φ cc m a.off arr → n * ie.size ≤ m →
    ((do let b' ← newB (.cells cc (n * ie.size) (some ie.size)); M.pure (.sl b' 0 ie.size n none) : M AV) s).wp fun v s' => s'.n ≤ N → ∃ ψ w' y, (Builtin.append_ #[t, t2] ty #[.slice bs 0 cap, .slice (some ⟨a.blk, a.off + 0, none⟩) len c]).run P w = .ok y w' ∧ RV ψ v y ∧ Stp φ B s w ψ s' w' := by
   intro arr el fz cc m r1 r2 r3
   have k2 : (arr.extract a.off (a.off + n * ie.size)).toList.length = n * ie.size := by
    have := r2.1
    simp only [Array.length_toList, Array.size_extract]
    omega
   have k3 : ∀ j, j < n * ie.size → arr[a.off + 0 + j]? = (arr.extract a.off (a.off + n * ie.size)).toList[j]? := fun j hj => by
    have := r2.1
    rw [Array.getElem?_toList, Array.getElem?_extract]
    rw [if_pos (by omega)]
    simp
   generalize (arr.extract a.off (a.off + n * ie.size)).toList = os at k2 k3
   have hro : ∀ w1 : World, w1.heap = w.heap → (Builtin.firstCells ie.size n (.slice (some ⟨a.blk, a.off + 0, none⟩) len c)).run P w1 = .ok os.toArray w1 := by
    intro w1 ew
    have hcell : ∀ j, j < n * ie.size → w1.cell? ⟨a.blk, a.off + 0 + j, none⟩ = os[j]? := fun j hj => by
     rw [cell_of (by rw [ew]; exact r1), k3 j hj]
    simp only [Builtin.firstCells, run_loadCells hcell k2]
   refine zAe (zHy fun _ => zAh fun hN => ?_)
   have hfn := hf s.n (Nat.le_refl _) (by simp only at hN; omega)
   obtain ⟨C, rest, w1, c1, c2, c3, c4, c5, c6, c7⟩ := zEk (P := P) (w := w) (ty := ty) (bs := bs) (len := 0) (cap := cap) (o := #[]) (l := os.toArray) hu hi hz hzs hb hb1 hu2 hd2 hl (by omega) (by omega) (fun w1 _ => by cases bs <;> simp [Builtin.firstCells, loadCells, loadCellsFrom]) hro
   rw [Nat.zero_add] at c1 c6 c7
   have e2 : (C - n) * ie.size = C * ie.size - n * ie.size := Nat.sub_mul _ _ _
   have e3 : n * ie.size ≤ C * ie.size := Nat.mul_le_mul_right _ c1
   have e4 : (#[] ++ os.toArray ++ rest).size = C * ie.size := by simp; omega
   have hst := zIv (w' := { w1 with heap := w1.heap.push (.cells (#[] ++ os.toArray ++ rest) e) }) (cap := C) (x := .cells cc (n * ie.size) (some ie.size)) h hB hfn rfl c2 c3 c4 (by simp [c5]) (fun r hr => by rw [zGz _ _ _ (by rw [c5]; exact hr), c5])
    ⟨#[] ++ os.toArray ++ rest, e, by show (w1.heap.push _)[w.heap.size]? = _; rw [← c5]; simp, ⟨by rw [e4]; simp only [Nat.zero_add]; exact e3, fun i v hi hv => by
     obtain ⟨y, g1, g2⟩ := r2.2 i v (by omega) hv
     refine ⟨y, ?_, g2.mono (Phi.le_put hfn _)⟩
     have := k3 i hi
     rw [Nat.add_zero, g1] at this
     rw [Nat.zero_add, Array.getElem?_append_left (by simp; omega)]
     simpa using this.symm⟩, fun z' hz' => by cases hz'; simp only; exact ⟨e3, by rw [e4]; omega⟩⟩
   exact ⟨φ.put s.n ⟨w.heap.size, 0, C⟩, _, _, c7, .sl (Phi.put_self _ _ _) (by simp) c1 (fun _ => by simp), hst⟩
  unfold cloneTo
  refine zAe (zBo fun tt y hy => ?_)
  obtain ⟨a1, ha1, hrb, hBy⟩ := h.blk b tt y hy
  rw [he] at ha1; cases ha1
  cases y <;> first | exact zAa | skip
  ·obtain ⟨arr, el, r1, r2, _⟩ := hrb
   exact zAo (fun hm => key arr el _ _ _ r1 r2 (Nat.le_of_ble_eq_true hm)) (fun _ => zAa)
  ·obtain ⟨arr, el, fz, r1, r2⟩ := hrb
   exact zAo (fun hm => key arr el _ _ _ r1 r2 (Nat.le_of_ble_eq_true hm)) (fun _ => zAa)
 ·cases hw
set_option maxHeartbeats 1000000 in
theorem appendTo_ok (h : RW φ B s w) (hB : B ≤ w.heap.size) (hf : zEj φ s.n N) {t e : TypeId} {t2 : TypeId} {d2 : TypeDesc} {ie : TypeInfo} {z : Value} (hu : P.underlying t = some (.slice e)) (hi : P.info? e = some ie) (hz : ie.zero = some z) (hzs : z.cells.size = ie.size)
  (hb : ie.bytes ≤ 65536) (hb1 : 1 ≤ ie.bytes) (hsz : 1 ≤ ie.size) (hu2 : P.underlying t2 = some d2) (hd2 : ∀ k, d2 ≠ .int k) {ty : TypeId} {sv x : AV} {SV X : Value} (hs : RV φ sv SV) (hx : RV φ x X) {n : Nat} (hn : zHd x = some n) (hnm : n ≤ zCo) :
  (appendTo ie.size sv x n s).wp fun v s' => s'.n ≤ N → ∃ ψ w' y, (Builtin.append_ #[t, t2] ty #[SV, X]).run P w = .ok y w' ∧ RV ψ v y ∧ Stp φ B s w ψ s' w' := by
 have hso : szO P e = some ie.size := by simp [szO, hi]
 have hlen : ∀ w, (Builtin.lenOf X).run P w = .ok n w := fun w => lenOf_ok hx hn
 unfold appendTo
 split
 ·-- to nothing
  cases hs
  refine zAo (fun hn0 => ?_) (fun hn0 => ?_)
  ·have h0 := Nat.eq_of_beq_eq_true hn0
   subst h0
   refine zAh fun _ => ⟨φ, w, .slice none 0 0, ?_, .val _, Stp.refl h⟩
   exact run_append_room hu hso hu2 hd2 (hlen w) (by omega) (first0 hx hn) (fun a ha => by cases ha) (fun _ => rfl)
  ·have hn0' : n ≠ 0 := fun e => by rw [e] at hn0; cases hn0
   cases hwt : wholeT x ie.size n with
   | some b1 => exact clone_ok (P := P) (ty := ty) h hB hf hu hi hz hzs hb hb1 hu2 hd2 (hlen w) (by omega) (by unfold zCo at *; omega) hx hwt
   | none =>
   refine zAe (R.wp_mono ?_ (src_ok (P := P) h hx hn n (Nat.le_refl _)))
   rintro l s' ⟨rfl, hll, xs, hxs, hrun⟩
   have := app_new (P := P) (ty := ty) h hB hf hu hi hz hzs hb hb1 hu2 hd2 (bs := none) (len := 0) (cap := 0) (hlen w) (by omega) (by unfold zCo at *; omega) (o := []) (os := #[]) .nil (by simp) (fun w1 _ => by simp [Builtin.firstCells]) hxs hll hrun
   rw [List.nil_append, Nat.zero_add] at this
   exact this
 ·rename_i b off z' len cap
  have hs0 := hs
  cases hs with | sl he hc hl ho =>
  rename_i a o c
  simp only at hc
  subst hc
  refine zAo (fun hg => ?_) (fun _ => zAa)
  simp only [Bool.and_eq_true] at hg
  have hz' := Nat.eq_of_beq_eq_true hg.1
  have hlm := Nat.le_of_ble_eq_true hg.2
  subst hz'
  refine zAo (fun hn0 => ?_) (fun hn0 => zAo (fun hr => ?_) (fun hr => ?_))
  ·have h0 := Nat.eq_of_beq_eq_true hn0
   subst h0
   refine zAh fun _ => ⟨φ, w, .slice (some ⟨a.blk, o, none⟩) len c, ?_, hs0, Stp.refl h⟩
   exact run_append_room hu hso hu2 hd2 (hlen w) (by omega) (first0 hx hn) (fun a ha => by simp [storeCells]) (fun e => by cases e)
  ·have hn0' : n ≠ 0 := fun e => by rw [e] at hn0; cases hn0
   have hr := Nat.le_of_ble_eq_true hr
   refine zAe (R.wp_mono ?_ (src_ok (P := P) h hx hn n (Nat.le_refl _)))
   rintro l s' ⟨rfl, hll, xs, hxs, hrun⟩
   refine zAe (R.wp_mono ?_ (zOv (P := P) h b (off + len * ie.size) l))
   rintro _ s'' ⟨a', ha, hw⟩
   rw [he] at ha; cases ha
   obtain ⟨w', g1, g2⟩ := hw xs.toList hxs
   have ho := ho (by omega)
   subst ho
   refine zAh fun _ => ⟨φ, w', .slice (some ⟨a.blk, a.off + off, none⟩) (len + n) c, ?_, .sl he rfl hr (fun _ => rfl), g2⟩
   exact run_append_room hu hso hu2 hd2 (hlen w) hr (hrun w rfl) (fun a1 e1 => by cases e1; rw [zCd, Nat.add_assoc]; exact g1) (fun e => by cases e)
  ·have hr : ¬ (len + n ≤ c) := fun hle => by rw [Nat.ble_eq_true_of_le hle] at hr; cases hr
   cases hwt : (bif Nat.beq len 0 then wholeT x ie.size n else none) with
   | some b1 =>
    cases hl0 : Nat.beq len 0 with
    | false => rw [hl0] at hwt; cases hwt
    | true =>
    rw [hl0] at hwt
    have hl0 := Nat.eq_of_beq_eq_true hl0
    subst hl0
    exact clone_ok (P := P) (ty := ty) h hB hf hu hi hz hzs hb hb1 hu2 hd2 (hlen w) (by omega) (by unfold zCo at *; omega) hx hwt
   | none =>
   refine zAe (R.wp_mono ?_ (src_ok (P := P) h hs0 (by simp [zHd]) len (Nat.le_refl _)))
   rintro ol s' ⟨rfl, hol, os, hos, hro⟩
   refine zAe (R.wp_mono ?_ (src_ok (P := P) h hx hn n (Nat.le_refl _)))
   rintro l s' ⟨rfl, hll, xs, hxs, hrun⟩
   exact app_new (P := P) (ty := ty) h hB hf hu hi hz hzs hb hb1 hu2 hd2 (hlen w) (by omega) (by omega) hos hol hro hxs hll hrun
 ·rename_i b off z' len
  have hs0 := hs
  cases hs with | sl he hc hl ho =>
  rename_i a o c
  simp only at hc
  subst hc
  refine zAo (fun hn0 => ?_) (fun hn0 => zAo (fun hg => ?_) (fun _ => zAa))
  ·have h0 := Nat.eq_of_beq_eq_true hn0
   subst h0
   refine zAh fun _ => ⟨φ, w, _, ?_, hs0, Stp.refl h⟩
   exact run_append_room hu hso hu2 hd2 (hlen w) (by omega) (first0 hx hn) (fun a ha => by simp [storeCells]) (fun e => by cases e)
  ·have hn0' : n ≠ 0 := fun e => by rw [e] at hn0; cases hn0
   simp only [Bool.and_eq_true] at hg
   have hz' := Nat.eq_of_beq_eq_true hg.1
   have hlm := Nat.le_of_ble_eq_true hg.2
   subst hz'
   refine zAe (zBo fun tt y hy => ?_)
   obtain ⟨a1, ha1, hrb, hBy⟩ := h.blk b tt y hy
   rw [he] at ha1; cases ha1
   cases y <;> first | exact zAa | skip
   rename_i cc m g
   cases g with
   | none => exact zAa
   | some g =>
   refine zAo (fun hg2 => ?_) (fun _ => zAa)
   simp only [Bool.and_eq_true] at hg2
   have q1 := Nat.eq_of_beq_eq_true hg2.1.1
   have q2 := Nat.le_of_ble_eq_true hg2.1.2
   have q3 := Nat.eq_of_beq_eq_true hg2.2
   subst q1
   obtain ⟨arr, el, r1, r2, r3⟩ := hrb
   have r3 := r3 ie.size rfl
   have hoff : off = off / ie.size * ie.size := by have := Nat.div_add_mod off ie.size; rw [q3, Nat.add_zero, Nat.mul_comm] at this; exact this.symm
   refine zAo (fun hin => ?_) (fun _ => ?_)
   ·have hin := Nat.le_of_ble_eq_true hin
    have hroom : len + n ≤ a.cap - off / ie.size := by
     have e1 : (off / ie.size + (len + n)) * ie.size ≤ a.cap * ie.size := by
      rw [Nat.add_mul, ← hoff]; omega
     have := Nat.le_of_mul_le_mul_right e1 (by omega)
     omega
    have ho := ho (by omega)
    subst ho
    refine zAe (R.wp_mono ?_ (src_ok (P := P) h hx hn n (Nat.le_refl _)))
    rintro l s' ⟨rfl, hll, xs, hxs, hrun⟩
    refine zAe (R.wp_mono ?_ (zOv (P := P) h b (off + len * ie.size) l))
    rintro _ s'' ⟨a', ha, hw⟩
    rw [he] at ha; cases ha
    obtain ⟨w', g1, g2⟩ := hw xs.toList hxs
    refine zAh fun _ => ⟨φ, w', .slice (some ⟨a.blk, a.off + off, none⟩) (len + n) (a.cap - off / ie.size), ?_, .sl he rfl hroom (fun _ => rfl), g2⟩
    exact run_append_room hu hso hu2 hd2 (hlen w) hroom (hrun w rfl) (fun a1 e1 => by cases e1; rw [zCd, Nat.add_assoc]; exact g1) (fun e => by cases e)
   refine zAo (fun h00 => ?_) (fun _ => ?_)
   ·have h00 := Nat.eq_of_beq_eq_true h00
    subst h00
    have k2 : (arr.extract a.off (a.off + len * ie.size)).toList.length = len * ie.size := by
     have := r2.1
     simp only [Array.length_toList, Array.size_extract]
     omega
    have k3 : ∀ j, j < len * ie.size → arr[a.off + 0 + j]? = (arr.extract a.off (a.off + len * ie.size)).toList[j]? := fun j hj => by
     have := r2.1
     rw [Array.getElem?_toList, Array.getElem?_extract]
     rw [if_pos (by omega)]
     simp
    generalize (arr.extract a.off (a.off + len * ie.size)).toList = os at k2 k3
    have hcv : ∀ i v, i < len * ie.size → cc.get i = some v → ∃ y, os[i]? = some y ∧ RV φ v y := fun i v hi hv => by
     obtain ⟨y, g1, g2⟩ := r2.2 i v (by omega) hv
     refine ⟨y, ?_, g2⟩
     rw [← k3 i hi]
     simpa using g1
    refine zAe (R.wp_mono ?_ (src_ok (P := P) h hx hn n (Nat.le_refl _)))
    rintro l s' ⟨rfl, hll, xs, hxs, hrun⟩
    refine zAe (zKb fun t1 y1 hy1 hf1 hl1 => ?_)
    rw [hy] at hy1; cases hy1
    have hbn := (h.lt b tt _ hy).1
    have hxl : xs.size = n * ie.size := by have := hxs.length; simp at this; omega
    have hln : (len + n) * ie.size = len * ie.size + n * ie.size := Nat.add_mul _ _ _
    refine zAo (fun hok2 => ?_) (fun _ => zAa)
    refine zAe (zHy fun _ => zAh fun hN => ?_)
    have hfn := hf s'.n (Nat.le_refl _) (by simp only at hN; omega)
    have cells : ∀ (ψ : Phi) (arr' : Array Value) (o' : Nat), φ.le ψ → o' + (len + n) * ie.size ≤ arr'.size → (∀ j, j < len * ie.size → arr'[o' + j]? = os[j]?) → (∀ j, j < n * ie.size → arr'[o' + len * ie.size + j]? = xs[j]?) →
      Cells ψ (Tr.fill l (len * ie.size) cc) ((len + n) * ie.size) o' arr' := fun ψ arr' o' hle hsz h1 h2 => ⟨hsz, fun i v hi hv => by
     rw [Tr.get_fill] at hv
     split at hv
     ·rename_i hi2
      obtain ⟨y, g1, g2⟩ := hxs.get hv
      refine ⟨y, ?_, g2.mono hle⟩
      have := h2 (i - len * ie.size) (by omega)
      rw [show o' + len * ie.size + (i - len * ie.size) = o' + i by omega] at this
      rw [this]
      simpa using g1
     ·rename_i hi2
      obtain ⟨y, g1, g2⟩ := hcv i v (by omega) hv
      exact ⟨y, by rw [h1 i (by omega)]; exact g1, g2.mono hle⟩⟩
    by_cases hroom : len + n ≤ a.cap - 0 / ie.size
    ·-- in place
     have ho := ho (by omega)
     subst ho
     have hcap : (len + n) * ie.size ≤ a.cap * ie.size := Nat.mul_le_mul_right _ (by simp at hroom; omega)
     obtain ⟨w', e1, e2, e3, e4, e5, e6, e7⟩ := zDl (P := P) xs.toList (a.off + 0 + len * ie.size) 0 arr w r1 (by simp only [Array.length_toList]; omega) (ok_all hxs hok2)
     simp only [Nat.add_zero] at e2
     have hst := zNq (w' := w') (x := .cells (Tr.fill l (len * ie.size) cc) ((len + n) * ie.size) (some ie.size)) (a' := ⟨a.blk, a.off + 0, a.cap - 0 / ie.size⟩) h hy hf1 rfl hl1 he hfn rfl
      ⟨_, el, e2, cells _ _ _ (Phi.le_put hfn _) (by simp only [zBw]; omega) (fun j hj => by
        rw [zDu _ _ _ _ (by simp only [Array.length_toList]; omega), if_neg (by simp only [Nat.add_zero]; omega)]
        exact k3 j hj) (fun j hj => by
        rw [zDu _ _ _ _ (by simp only [Array.length_toList]; omega), if_pos (by simp only [Array.length_toList, Nat.add_zero]; omega)]
        rw [show a.off + 0 + len * ie.size + j - (a.off + len * ie.size) = j by omega]
        simp), fun z' hz' => by
       cases hz'
       simp only [zBw, Nat.zero_div, Nat.sub_zero]
       omega⟩ e5 e6 e7 e4 e3
     refine ⟨_, w', _, run_append_room hu hso hu2 hd2 (hlen w) hroom (hrun w rfl) (fun a1 ea => by cases ea; rw [zCd]; exact e1) (fun e => by cases e), ?_, hst⟩
     show RV _ (.sl s'.n 0 ie.size (len + n) none) _
     exact RV.sl (a := ⟨a.blk, a.off + 0, a.cap - 0 / ie.size⟩) (Phi.put_self _ _ _) (by simp) hroom (fun _ => by simp)
    ·-- a new row
     have d := zJb h hy hf1 hl1
     have hro : ∀ w1 : World, w1.heap = w.heap → (Builtin.firstCells ie.size len (.slice (some ⟨a.blk, o, none⟩) len (a.cap - 0 / ie.size))).run P w1 = .ok os.toArray w1 := by
      intro w1 ew
      by_cases hl0 : len = 0
      ·subst hl0
       have : os = [] := by simpa using k2
       subst this
       simp [Builtin.firstCells, loadCells, loadCellsFrom]
      ·have ho := ho (by omega)
       subst ho
       have hcell : ∀ j, j < len * ie.size → w1.cell? ⟨a.blk, a.off + 0 + j, none⟩ = os[j]? := fun j hj => by
        rw [cell_of (by rw [ew]; exact r1), k3 j hj]
       simp only [Builtin.firstCells, run_loadCells hcell k2]
     obtain ⟨C, rest, w1, c1, c2, c3, c4, c5, c6, c7⟩ := zEk (P := P) (w := w) (ty := ty) (bs := some ⟨a.blk, o, none⟩) (X := X) hu hi hz hzs hb hb1 hu2 hd2 (hlen w) (by omega : a.cap - 0 / ie.size < len + n) (by omega) hro hrun
     have e2 : (C - (len + n)) * ie.size = C * ie.size - (len + n) * ie.size := Nat.sub_mul _ _ _
     have e3 : (len + n) * ie.size ≤ C * ie.size := Nat.mul_le_mul_right _ c1
     have hst := zIv (w' := { w1 with heap := w1.heap.push (.cells (os.toArray ++ xs ++ rest) e) }) (cap := C) (x := .cells (Tr.fill l (len * ie.size) cc) ((len + n) * ie.size) (some ie.size)) d.rw hB (d.free hf s'.n (Nat.le_refl _) (by simp only at hN; omega)) rfl c2 c3 c4 (by simp [c5]) (fun r hr => by rw [zGz _ _ _ (by rw [c5]; exact hr), c5])
      ⟨os.toArray ++ xs ++ rest, e, by show (w1.heap.push _)[w.heap.size]? = _; rw [← c5]; simp, cells _ _ _ (Phi.le_put hfn _) (by simp only [Array.size_append, List.size_toArray]; omega) (fun j hj => by
        simp only [Nat.zero_add]
        rw [Array.getElem?_append_left (by simp; omega), Array.getElem?_append_left (by simp; omega)]
        simp) (fun j hj => by
        simp only [Nat.zero_add]
        rw [Array.getElem?_append_left (by simp; omega), Array.getElem?_append_right (by simp; omega)]
        simp [k2]), fun z' hz' => by
       cases hz'
       simp only [Array.size_append, List.size_toArray]
       omega⟩
     refine ⟨_, _, _, c7, ?_, d.trans hst (fun b hb hb' => by simp only at hb'; omega)⟩
     exact .sl (Phi.put_self _ _ _) (by simp) c1 (fun _ => by simp)
   refine zAe (zFm fun ol hol => ?_)
   obtain ⟨os, k1, k2, k3⟩ := take_ok r2 (len * ie.size) off ol (by omega) hol
   refine zAe (R.wp_mono ?_ (src_ok (P := P) h hx hn n (Nat.le_refl _)))
   rintro l s' ⟨rfl, hll, xs, hxs, hrun⟩
   refine zAe (zKb fun t1 y1 hy1 hf1 hl1 => ?_)
   rw [hy] at hy1; cases hy1
   have hbn := (h.lt b tt _ hy).1
   have hxl : xs.size = n * ie.size := by have := hxs.length; simp at this; omega
   by_cases hroom : len + n ≤ a.cap - off / ie.size
   ·-- in place
    have ho := ho (by omega)
    subst ho
    have hcap : off + (len + n) * ie.size ≤ a.cap * ie.size := by
     have e1 : (off / ie.size + (len + n)) * ie.size ≤ a.cap * ie.size := Nat.mul_le_mul_right _ (by omega)
     rw [Nat.add_mul, ← hoff] at e1; exact e1
    have hcap2 : off + (a.cap - off / ie.size) * ie.size = a.cap * ie.size := by
     rw [Nat.sub_mul, ← hoff]
     have := Nat.mul_le_mul_right ie.size (by omega : off / ie.size ≤ a.cap)
     rw [← hoff] at this; omega
    have hln : (len + n) * ie.size = len * ie.size + n * ie.size := Nat.add_mul _ _ _
    unfold newCells
    refine zAe (zAo (fun hok => zHy fun _ => zAh fun hN => ?_) (fun _ => zAa))
    have hok2 : zIu l = true := by
     simp only [zIu, List.all_append, Bool.and_eq_true] at hok
     simpa [zIu] using hok.2
    obtain ⟨w', e1, e2, e3, e4, e5, e6, e7⟩ := zDl (P := P) xs.toList (a.off + off + len * ie.size) 0 arr w r1 (by simp only [Array.length_toList]; omega) (ok_all hxs hok2)
    simp only [Nat.add_zero] at e2
    have hfn := hf s'.n (Nat.le_refl _) (by simp only at hN; omega)
    have hst := zNq (w' := w') (x := .cells (Tr.fill (ol ++ l) 0 .lf) (ol ++ l).length (some ie.size)) (a' := ⟨a.blk, a.off + off, a.cap - off / ie.size⟩) h hy hf1 rfl hl1 he hfn rfl
     ⟨_, el, e2, ⟨by
      simp only [zBw, List.length_append, k1.length, k2, hll]
      omega, fun i v hi hv => by
      have hl1' := k1.length
      rw [Tr.get_fill, if_pos (by omega)] at hv
      simp only [List.length_append] at hi
      rw [zDu _ _ _ _ (by simp only [Array.length_toList]; omega)]
      simp only [Nat.sub_zero] at hv
      by_cases hio : i < ol.length
      ·rw [List.getElem?_append_left hio] at hv
       obtain ⟨y, g1, g2⟩ := k1.get hv
       refine ⟨y, ?_, g2.mono (Phi.le_put hfn _)⟩
       rw [if_neg (by simp only; omega)]
       have := k3 i (by omega)
       simp only; rw [this]; exact g1
      ·rw [List.getElem?_append_right (by omega)] at hv
       obtain ⟨y, g1, g2⟩ := hxs.get hv
       refine ⟨y, ?_, g2.mono (Phi.le_put hfn _)⟩
       rw [if_pos (by simp only [Array.length_toList]; omega)]
       have : a.off + off + i - (a.off + off + len * ie.size) = i - ol.length := by omega
       simp only; rw [this]; exact g1⟩, fun z' hz' => by
      cases hz'
      have hl1' := k1.length
      simp only [zBw, List.length_append]
      omega⟩ e5 e6 e7 e4 e3
    refine ⟨_, w', _, run_append_room hu hso hu2 hd2 (hlen w) hroom (hrun w rfl) (fun a1 ea => by cases ea; rw [zCd]; exact e1) (fun e => by cases e), ?_, hst⟩
    show RV _ (.sl s'.n 0 ie.size (len + n) none) _
    exact RV.sl (a := ⟨a.blk, a.off + off, a.cap - off / ie.size⟩) (Phi.put_self _ _ _) (by simp) hroom (fun _ => by simp)
   ·-- a new row
    have d := zJb h hy hf1 hl1
    have hro : ∀ w1 : World, w1.heap = w.heap → (Builtin.firstCells ie.size len (.slice (some ⟨a.blk, o, none⟩) len (a.cap - off / ie.size))).run P w1 = .ok os.toArray w1 := by
     intro w1 ew
     by_cases hl0 : len = 0
     ·subst hl0
      have : os = [] := by simpa using k2
      subst this
      simp [Builtin.firstCells, loadCells, loadCellsFrom]
     ·have ho := ho (by omega)
      subst ho
      have hcell : ∀ j, j < len * ie.size → w1.cell? ⟨a.blk, a.off + off + j, none⟩ = os[j]? := fun j hj => by
       rw [cell_of (by rw [ew]; exact r1), k3 j hj]
      simp only [Builtin.firstCells, run_loadCells hcell k2]
    have := app_new (P := P) (ty := ty) (N := N) d.rw hB (d.free hf) hu hi hz hzs hb hb1 hu2 hd2 (bs := some ⟨a.blk, o, none⟩) (len := len) (cap := a.cap - off / ie.size) (hlen w) (by omega) (by omega) (o := ol) (os := os.toArray) (by simpa using k1) (by rw [k1.length, k2]) hro hxs hll hrun
    refine R.wp_mono (fun v s2 hq hN => ?_) this
    obtain ⟨ψ, w2, y, g1, g2, g3⟩ := hq hN
    exact ⟨ψ, w2, y, g1, g2, d.trans g3 (fun b hb hb' => by simp only at hb'; omega)⟩
 ·exact zAa
omit [Facts] [zAc] in
theorem ckEq_eq {c d : CK} (h : ckEq c d = true) : c = d := by
 cases c <;> cases d <;> simp only [ckEq] at h <;> first | rfl | (cases h; done) | skip
 rw [of_decide_eq_true h]
omit [Facts] [zAc] in
theorem ksEq_eq : ∀ {l m : List CK}, ksEq l m = true → l = m := by
 intro l
 induction l with
 | nil => intro m h; cases m <;> first | rfl | cases h
 | cons x l ih =>
  intro m h
  cases m with
  | nil => cases h
  | cons y m =>
   simp only [ksEq, Bool.and_eq_true] at h
   rw [ckEq_eq h.1, ih h.2]
omit [Facts] [zAc] in
theorem CKv.one {k : CK} {n : Int} {x : Value} (h : CKv k n x) : oneC x = true := by
 cases k with
 | i k => cases h; rfl
 | b => cases h; rfl
 | s => obtain ⟨_, p, c, rfl⟩ := h; rfl
theorem shS_row (A o : SE) (r : Int) (c : Nat) : (shS A o).row zAc.env r c = A.row zAc.env (r + o.eval zAc.env) c := by
 unfold shS
 cases h : o.isZ
 ·rfl
 ·rw [cond_true, SE.isZ_ok h, Int.add_zero]
theorem layRows_ok {ks : List CK} : ∀ {n r : Nat} {A A' : SE} {l : List AV} {xs : List Value}, layRows ks A r n l = some A' → RL φ l xs → l.length = n * ks.length →
  (∀ (R : Nat) c, R < r → A'.row zAc.env (R : Int) c = A.row zAc.env (R : Int) c) ∧ ∀ (i c : Nat) (k : CK), i < n → ks[c]? = some k → ∃ y, xs[i * ks.length + c]? = some y ∧ CKv k (A'.row zAc.env ((r + i : Nat) : Int) c) y := by
 intro n
 induction n with
 | zero => intro r A A' l xs h _ _; cases h; exact ⟨fun _ _ _ => rfl, fun i c k hi => absurd hi (by omega)⟩
 | succ n ih =>
  intro r A A' l xs h hl hlen
  unfold layRows at h
  split at h
  ·rename_i es he
   have hlx := hl.length
   rw [Nat.add_mul, Nat.one_mul] at hlen
   obtain ⟨g1, g2, g3, g4⟩ := toCols_ok he (hl.take ks.length)
   have hte : (xs.take ks.length).length = ks.length := by simp; omega
   obtain ⟨i1, i2⟩ := ih h (hl.drop ks.length) (by simp; omega)
   have hrow : ∀ (R : Nat) c, (updL A (.lit r) 0 es).row zAc.env (R : Int) c = if R = r ∧ c < ks.length then ((es[c]?).getD (.lit 0)).eval zAc.env else A.row zAc.env (R : Int) c := fun R c => by
    rw [updL_ok]
    have e0 : (SE.lit (r : Int)).eval zAc.env = (r : Int) := rfl
    by_cases hR : R = r ∧ c < ks.length
    ·rw [if_pos hR, if_pos (show (R : Int) = (SE.lit (r : Int)).eval zAc.env ∧ 0 ≤ c ∧ c < 0 + es.length from ⟨by rw [e0]; omega, by omega, by omega⟩), Nat.sub_zero]
    ·rw [if_neg hR, if_neg (show ¬ ((R : Int) = (SE.lit (r : Int)).eval zAc.env ∧ 0 ≤ c ∧ c < 0 + es.length) from fun hh => hR ⟨by have := hh.1; rw [e0] at this; omega, by have := hh.2.2; omega⟩)]
   refine ⟨fun R c hR => ?_, fun i c k hi hk => ?_⟩
   ·rw [i1 R c (by omega), hrow, if_neg (by omega)]
   ·have hc := (List.getElem?_eq_some_iff.1 hk).1
    cases i with
    | zero =>
     obtain ⟨x, p1, p2⟩ := g4 c k (by omega) (by rw [Nat.zero_add]; exact hk)
     refine ⟨x, ?_, ?_⟩
     ·rw [Nat.zero_mul, Nat.zero_add]
      rw [List.getElem?_take, if_pos hc] at p1
      exact p1
     ·rw [Nat.add_zero, i1 r c (by omega), hrow, if_pos ⟨rfl, hc⟩]
      exact p2
    | succ i =>
     obtain ⟨y, p1, p2⟩ := i2 i c k (by omega) hk
     refine ⟨y, ?_, by rw [show r + (i + 1) = r + 1 + i by omega]; exact p2⟩
     rw [List.getElem?_drop] at p1
     rw [← p1]
     congr 1
     rw [Nat.add_mul, Nat.one_mul]; omega
  ·cases h
theorem srcT_ok (h : RW φ B s w) {ks : List CK} {size not : Nat} (hks : ks.length = size) {x : AV} {X : Value} (hx : RV φ x X) : (srcT ks size not x s).wp fun p s' => s' = s ∧ ∃ (m : Nat) (ls : Array Value), p.2.eval zAc.env = (m : Int) ∧ (Builtin.lenOf X).run P w = .ok m w ∧ ls.size = m * size ∧
  (∀ w1 : World, w1.heap = w.heap → (Builtin.firstCells size m X).run P w1 = .ok ls w1) ∧ ∀ (r c : Nat) (k : CK), r < m → ks[c]? = some k → ∃ y, ls[r * size + c]? = some y ∧ CKv k (p.1.row zAc.env (r : Int) c) y := by
 unfold srcT
 split
 ·rename_i b z off n
  cases hx with | ss e hm hl hc ho =>
  rename_i a m0 m o c0
  refine zAe (zBo fun t y hy => ?_)
  obtain ⟨a1, ha1, hrb, hBy⟩ := h.blk b t y hy
  rw [e] at ha1; cases ha1
  cases y <;> first | exact zAa | skip
  rename_i ks' A N ro
  refine zAo (fun hg => ?_) (fun _ => zAa)
  simp only [Bool.and_eq_true] at hg
  have hz := Nat.eq_of_beq_eq_true hg.1
  have hk := ksEq_eq hg.2.1
  subst hz hk
  refine zAo (fun hin => zAh ⟨rfl, ?_⟩) (fun _ => zAa)
  obtain ⟨arr, el, fz, r1, r2, M, hM, r3, r4⟩ := hrb
  rw [hks] at r3
  simp only [hks] at r4
  have hin := zJn hin
  rw [zFt, hm, hl, hM] at hin
  have hmM : m0 + m ≤ M := by omega
  have hmul : (m0 + m) * z ≤ M * z := Nat.mul_le_mul_right _ hmM
  rw [Nat.add_mul] at hmul
  have hcells : ∀ w1 : World, w1.heap = w.heap → ∀ j, j < m * z → w1.cell? ⟨a.blk, a.off + m0 * z + j, none⟩ = (arr.extract (a.off + m0 * z) (a.off + m0 * z + m * z)).toList[j]? := fun w1 e1 j hj => by
   rw [cell_of (by rw [e1]; exact r1), Array.getElem?_toList, Array.getElem?_extract, if_pos (by omega)]
  have hsz : (arr.extract (a.off + m0 * z) (a.off + m0 * z + m * z)).toList.length = m * z := by
   simp only [Array.length_toList, Array.size_extract]; omega
  refine ⟨m, arr.extract (a.off + m0 * z) (a.off + m0 * z + m * z), hl, by simp [Builtin.lenOf], by rw [← Array.length_toList]; exact hsz, fun w1 e1 => ?_, fun r c k hr hk => ?_⟩
  ·rcases Nat.eq_zero_or_pos c0 with h0 | h0
   ·have : m = 0 := by omega
    subst this
    have e0 : (arr.extract (a.off + m0 * z) (a.off + m0 * z + 0 * z)) = #[] := by
     apply Array.eq_empty_of_size_eq_zero; simp only [Array.size_extract]; omega
    rw [e0]
    simp [Builtin.firstCells, loadCells, loadCellsFrom]
   ·have ho := ho h0
    subst ho
    have := run_loadCells (P := P) (hcells w1 e1) hsz
    simp only [Builtin.firstCells, this, Array.toArray_toList]
  ·have hcl := (List.getElem?_eq_some_iff.1 hk).1
   obtain ⟨y, p1, p2⟩ := r4 (m0 + r) c k (by omega) hk
   have hrm : (r + 1) * z ≤ m * z := Nat.mul_le_mul_right _ hr
   rw [Nat.add_mul, Nat.one_mul] at hrm
   refine ⟨y, ?_, ?_⟩
   ·rw [Array.getElem?_extract, if_pos (by omega), ← p1]
    congr 1
    rw [Nat.add_mul]; omega
   ·rw [shS_row, hm, show (r : Int) + (m0 : Int) = ((m0 + r : Nat) : Int) by omega]
    exact p2
 ·cases hn : zHd x with
  | some n =>
   refine zAe (R.wp_mono ?_ (src_ok (P := P) h hx hn n (Nat.le_refl _) (size := size)))
   rintro l s' ⟨rfl, hll, xs, hxs, hrun⟩
   refine zAe (zFm fun A hA => zAh ⟨rfl, n, xs, rfl, lenOf_ok hx hn, by have := hxs.length; simp at this; omega, hrun, fun r c k hr hk => ?_⟩)
   obtain ⟨_, q⟩ := layRows_ok hA hxs (by rw [hll, hks])
   obtain ⟨y, p1, p2⟩ := q r c k hr hk
   rw [hks] at p1
   exact ⟨y, by simpa using p1, by rw [Nat.zero_add] at p2; exact p2⟩
  | none => exact zAa
theorem dstT_ok (h : RW φ B s w) {ks : List CK} {size : Nat} (hks : ks.length = size) (hsz : 1 ≤ size) {x : AV} {X : Value} (hx : RV φ x X) : (dstT ks size x s).wp fun p s' => s' = s ∧ ∃ (t : Nat) (y : Blk) (a : Lc) (o c L : Nat) (arr : Array Value) (el : TypeId),
  s.h.get p.1 = some (t, y) ∧ y.fixed = false ∧ φ p.1 = some a ∧ X = .slice (some ⟨a.blk, o, none⟩) L c ∧ p.2.2.eval zAc.env = (L : Int) ∧ L ≤ c ∧ (0 < c → o = a.off) ∧ w.heap[a.blk]? = some (.cells arr el (0, 0)) ∧ a.off + c * size ≤ arr.size ∧
  ∀ (r c : Nat) (k : CK), r < L → ks[c]? = some k → ∃ y, arr[a.off + (r * size + c)]? = some y ∧ CKv k (p.2.1.row zAc.env (r : Int) c) y := by
 unfold dstT
 split
 ·rename_i b z off n
  cases hx with | ss e hm hl hc ho =>
  rename_i a m0 m o c0
  refine zAe (zBo fun t y hy => ?_)
  obtain ⟨a1, ha1, hrb, hBy⟩ := h.blk b t y hy
  rw [e] at ha1; cases ha1
  cases y <;> first | exact zAa | skip
  rename_i ks' A N ro
  cases ro <;> first | exact zAa | skip
  refine zAo (fun hg => zAh ⟨rfl, ?_⟩) (fun _ => zAa)
  simp only [Bool.and_eq_true] at hg
  have hz := Nat.eq_of_beq_eq_true hg.1
  have hk := ksEq_eq hg.2.1
  have h0 := SE.isZ_ok hg.2.2.1
  have hN := yesS_ok hg.2.2.2
  rw [zIx, decide_eq_true_eq] at hN
  subst hz hk
  rw [h0] at hm
  have hm0 : m0 = 0 := by omega
  subst hm0
  obtain ⟨arr, el, fz, r1, r2, M, hM, r3, r4⟩ := hrb
  obtain ⟨rfl, r5⟩ := r2 rfl
  rw [hks] at r5
  simp only [hks] at r4
  have hmM : m = M := by rw [hl, hM] at hN; omega
  subst hmM
  have hcc : c0 * z ≤ a.cap * z := Nat.mul_le_mul_right _ (by omega)
  exact ⟨t, _, a, o, c0, m, arr, el, hy, rfl, e, rfl, hl, hc.1, fun hp => by rw [ho hp]; simp, r1, by omega, fun r c k hr hk => r4 r c k hr hk⟩
 ·rename_i b off z len cap
  cases hx with | sl e hc hl ho =>
  rename_i a o c
  refine zAe (zBo fun t y hy => ?_)
  obtain ⟨a1, ha1, hrb, hBy⟩ := h.blk b t y hy
  rw [e] at ha1; cases ha1
  cases y <;> first | exact zAa | skip
  rename_i cc m g
  obtain ⟨arr, el, r1, r2, r3⟩ := hrb
  refine zAo (fun hg => ?_) (fun _ => zAa)
  simp only [Bool.and_eq_true] at hg
  obtain ⟨g1, g2, g3⟩ := hg
  have hz := Nat.eq_of_beq_eq_true g1
  have h0 := Nat.eq_of_beq_eq_true g2
  subst hz h0
  have hroom : len ≤ c ∧ len * z ≤ m ∧ a.off + c * z ≤ arr.size := by
   cases cap with
   | some cp =>
    simp only [Bool.and_eq_true] at g3
    simp only at hc
    subst hc
    have q1 := Nat.le_of_ble_eq_true g3.1
    have q2 := Nat.le_of_ble_eq_true g3.2
    have : len * z ≤ c * z := Nat.mul_le_mul_right _ q1
    exact ⟨q1, by omega, by have := r2.1; omega⟩
   | none =>
    cases g with
    | none => cases g3
    | some g =>
     simp only [Bool.and_eq_true] at g3
     have q1 := Nat.eq_of_beq_eq_true g3.1
     have q2 := Nat.le_of_ble_eq_true g3.2.1
     subst q1
     have r3 := r3 g rfl
     simp only [Nat.zero_div, Nat.sub_zero] at hc
     subst hc
     exact ⟨hl, q2, r3.2⟩
  refine zAe (zFm fun l hl' => zAe (zFm fun A hA => zAh ⟨rfl, ?_⟩))
  obtain ⟨xs, k1, k2, k3⟩ := take_ok r2 (len * z) 0 l (by omega) hl'
  obtain ⟨_, q⟩ := layRows_ok hA k1 (by rw [k1.length, k2, hks])
  refine ⟨t, _, a, o, c, len, arr, el, hy, rfl, e, rfl, rfl, hroom.1, fun hp => by rw [ho hp, Nat.add_zero], r1, hroom.2.2, fun r c' k hr hk => ?_⟩
  obtain ⟨y, p1, p2⟩ := q r c' k hr hk
  have hcl := (List.getElem?_eq_some_iff.1 hk).1
  have hrm : (r + 1) * z ≤ len * z := Nat.mul_le_mul_right _ hr
  rw [Nat.add_mul, Nat.one_mul] at hrm
  refine ⟨y, ?_, by rw [Nat.zero_add] at p2; exact p2⟩
  rw [hks] at p1
  rw [← p1, ← k3 (r * z + c') (by omega), Nat.add_zero]
 ·exact zAa
set_option maxHeartbeats 1000000 in
theorem appendO_ok (h : RW φ B s w) (hB : B ≤ w.heap.size) (hf : zEj φ s.n N) {t e : TypeId} {t2 : TypeId} {d2 : TypeDesc} {ie : TypeInfo} {z : Value} (hu : P.underlying t = some (.slice e)) (hi : P.info? e = some ie) (hz : ie.zero = some z) (hzs : z.cells.size = ie.size)
  (hb : ie.bytes ≤ 65536) (hb1 : 1 ≤ ie.bytes) (hsz : 1 ≤ ie.size) (hu2 : P.underlying t2 = some d2) (hd2 : ∀ k, d2 ≠ .int k) {ty : TypeId} {ks : List CK} (hks : ks.length = ie.size) {sv x : AV} {SV X : Value} (hs : RV φ sv SV) (hx : RV φ x X) :
  (appendO ks ie.size sv x s).wp fun v s' => s'.n ≤ N → ∃ ψ w' y, (Builtin.append_ #[t, t2] ty #[SV, X]).run P w = .ok y w' ∧ RV ψ v y ∧ Stp φ B s w ψ s' w' := by
 have hso : szO P e = some ie.size := by simp [szO, hi]
 unfold appendO
 refine zAe (R.wp_mono ?_ (dstT_ok h hks hsz hs))
 rintro ⟨b, A, n⟩ s' ⟨rfl, tt, y, a, o, c, L, arr, el, q1, q2, q3, rfl, q5, q6, q7, q8, q9, q10⟩
 refine zAe (R.wp_mono ?_ (srcT_ok (P := P) h hks hx))
 rintro ⟨A2, n2⟩ s' ⟨rfl, M, ls, p1, p2, p3, p4, p5⟩
 dsimp only at q1 q3 q5 q10 p1 p5 ⊢
 refine zAo (fun hroom => ?_) (fun _ => zAa)
 simp only [Bool.and_eq_true] at hroom
 have rL := zJn hroom.1
 have rM := zJn hroom.2
 rw [q5] at rL
 rw [p1] at rM
 simp only [SE.eval] at rL rM
 have hLM : (zKx n n2).eval zAc.env = ((L + M : Nat) : Int) := by rw [zFt, q5, p1]; rfl
 have hone : ∀ x ∈ ls.toList, oneC x = true := fun x hx => by
  obtain ⟨j, hj, hjx⟩ := List.getElem_of_mem hx
  have hjs : j < M * ie.size := by rw [← p3]; simpa using hj
  have hpos : 0 < ie.size := hsz
  have hmod : j % ie.size < ks.length := by rw [hks]; exact Nat.mod_lt _ hpos
  obtain ⟨y, g1, g2⟩ := p5 (j / ie.size) (j % ie.size) ks[j % ie.size] ((Nat.div_lt_iff_lt_mul hpos).2 hjs) (List.getElem?_eq_getElem hmod)
  rw [Nat.div_add_mod' j ie.size] at g1
  have : ls[j]? = some x := by rw [← hjx]; simp
  rw [this] at g1; cases g1
  exact g2.one
 have catL : ∀ (r : Nat) c', r < L → (SE.cat A n A2).row zAc.env (r : Int) c' = A.row zAc.env (r : Int) c' := fun r c' hr => by
  show (if (r : Int) < n.eval zAc.env then _ else _) = _
  rw [q5, if_pos (by omega)]
 have catR : ∀ (r : Nat) c', (SE.cat A n A2).row zAc.env ((L + r : Nat) : Int) c' = A2.row zAc.env (r : Int) c' := fun r c' => by
  show (if ((L + r : Nat) : Int) < n.eval zAc.env then _ else A2.row zAc.env (((L + r : Nat) : Int) - n.eval zAc.env) c') = _
  rw [q5, if_neg (by omega)]
  congr 1; omega
 refine zAe (zKb fun t0 y0 hy0 hfx hlim => zAe (zHy fun hfx2 => zAh fun hN => ?_))
 rw [q1] at hy0; cases hy0
 simp only at hN
 have hfn := hf s'.n (Nat.le_refl _) (by omega)
 by_cases hin : L + M ≤ c
 ·-- there is room
  have key : ∃ w' arr', (∀ a1, some (⟨a.blk, o, none⟩ : Addr) = some a1 → (storeCells (a1.add (L * ie.size)) ls.toList).run P w = .ok () w') ∧ w'.heap[a.blk]? = some (.cells arr' el (0, 0)) ∧ arr'.size = arr.size ∧ (∀ j, arr'[j]? = if a.off + L * ie.size ≤ j ∧ j < a.off + L * ie.size + ls.size then ls[j - (a.off + L * ie.size)]? else arr[j]?) ∧
    (∀ r, r ≠ a.blk → w'.heap[r]? = w.heap[r]?) ∧ w'.heap.size = w.heap.size ∧ w'.os = w.os ∧ w'.tape = w.tape ∧ w'.output = w.output := by
   rcases Nat.eq_zero_or_pos M with h0 | h0
   ·subst h0
    have : ls = #[] := Array.eq_empty_of_size_eq_zero (by rw [p3, Nat.zero_mul])
    subst this
    exact ⟨w, arr, fun a1 _ => by simp [storeCells], q8, rfl, fun j => by rw [if_neg (by simp only [Array.size_empty]; omega)], fun _ _ => rfl, rfl, rfl, rfl, rfl⟩
   ·have ho := q7 (by omega)
    subst ho
    have hmul : (L + M) * ie.size ≤ c * ie.size := Nat.mul_le_mul_right _ hin
    rw [Nat.add_mul] at hmul
    obtain ⟨w', e1, e2, e3, e4, e5, e6, e7⟩ := zDl (P := P) ls.toList (a.off + L * ie.size) 0 arr w q8 (by simp; omega) hone
    refine ⟨w', _, fun a1 ea => by cases ea; rw [zCd]; exact e1, e2, zBw _ _ _, fun j => ?_, e3, e4, e5, e6, e7⟩
    rw [zDu _ _ _ _ (by simp; omega)]
    simp only [Nat.add_zero, Array.length_toList, Array.getElem?_toList]
  obtain ⟨w', arr', e1, e2, e2s, e2g, e3, e4, e5, e6, e7⟩ := key
  have hrb : RB (φ.put s'.n ⟨a.blk, a.off, c⟩) w' ⟨a.blk, a.off, c⟩ (.arr ks (.cat A n A2) (zKx n n2) false) := by
   have hmul : (L + M) * ie.size ≤ c * ie.size := Nat.mul_le_mul_right _ hin
   refine ⟨arr', el, (0, 0), e2, fun _ => ⟨rfl, by rw [hks, e2s]; exact q9⟩, L + M, hLM, by rw [hks, e2s]; show a.off + (L + M) * ie.size ≤ arr.size; omega, fun r c' k hr hk => ?_⟩
   rw [hks]
   have hcl := (List.getElem?_eq_some_iff.1 hk).1
   rw [hks] at hcl
   by_cases hrL : r < L
   ·obtain ⟨y, g1, g2⟩ := q10 r c' k hrL hk
    have hrm : (r + 1) * ie.size ≤ L * ie.size := Nat.mul_le_mul_right _ hrL
    rw [Nat.add_mul, Nat.one_mul] at hrm
    refine ⟨y, ?_, by rw [catL r c' hrL]; exact g2⟩
    show arr'[a.off + (r * ie.size + c')]? = _
    rw [e2g, if_neg (by omega)]
    exact g1
   ·obtain ⟨i, rfl⟩ : ∃ i, r = L + i := ⟨r - L, by omega⟩
    obtain ⟨y, g1, g2⟩ := p5 i c' k (by omega) hk
    have him : (i + 1) * ie.size ≤ M * ie.size := Nat.mul_le_mul_right _ (by omega)
    rw [Nat.add_mul, Nat.one_mul] at him
    refine ⟨y, ?_, by rw [catR]; exact g2⟩
    have : a.off + ((L + i) * ie.size + c') = a.off + L * ie.size + (i * ie.size + c') := by rw [Nat.add_mul]; omega
    show arr'[a.off + ((L + i) * ie.size + c')]? = _
    rw [this, e2g, if_pos (by omega), show a.off + L * ie.size + (i * ie.size + c') - (a.off + L * ie.size) = i * ie.size + c' by omega]
    exact g1
  have hst := zNq h q1 q2 (x := .arr ks (.cat A n A2) (zKx n n2) false) rfl hlim q3 hfn (a' := ⟨a.blk, a.off, c⟩) rfl hrb e5 e6 e7 e4 e3
  exact ⟨φ.put s'.n ⟨a.blk, a.off, c⟩, w', .slice (some ⟨a.blk, o, none⟩) (L + M) c, run_append_room hu hso hu2 hd2 p2 hin (p4 w rfl) e1 (fun e => by cases e), .ss (a := ⟨a.blk, a.off, c⟩) (m := 0) (Phi.put_self _ _ _) rfl hLM ⟨hin, by show 0 + c ≤ c; omega⟩ (fun hp => by rw [q7 hp]; simp), hst⟩
 ·-- a new one
  have hload : ∀ w1 : World, w1.heap = w.heap → (Builtin.firstCells ie.size L (.slice (some ⟨a.blk, o, none⟩) L c)).run P w1 = .ok (arr.extract a.off (a.off + L * ie.size)) w1 := fun w1 e1 => by
   have hLc : L * ie.size ≤ c * ie.size := Nat.mul_le_mul_right _ q6
   have hlen : (arr.extract a.off (a.off + L * ie.size)).toList.length = L * ie.size := by
    simp only [Array.length_toList, Array.size_extract]; omega
   rcases Nat.eq_zero_or_pos L with h0 | h0
   ·subst h0
    have e0 : (arr.extract a.off (a.off + 0 * ie.size)) = #[] := by
     apply Array.eq_empty_of_size_eq_zero; simp only [Array.size_extract]; omega
    rw [e0]
    simp [Builtin.firstCells, loadCells, loadCellsFrom]
   ·have ho := q7 (by omega)
    subst ho
    have hcell : ∀ j, j < L * ie.size → w1.cell? ⟨a.blk, a.off + j, none⟩ = (arr.extract a.off (a.off + L * ie.size)).toList[j]? := fun j hj => by
     rw [cell_of (by rw [e1]; exact q8), Array.getElem?_toList, Array.getElem?_extract, if_pos (by omega)]
    have := run_loadCells (P := P) hcell hlen
    simp only [Builtin.firstCells, this, Array.toArray_toList]
  obtain ⟨C, rest, w1, c1, c2, c3, c4, c5, c6, c7⟩ := zEk (P := P) (w := w) (ty := ty) (bs := some ⟨a.blk, o, none⟩) (len := L) (cap := c) (X := X) hu hi hz hzs hb hb1 hu2 hd2 p2 (by omega) (by omega) hload p4
  have d := zJb h q1 q2 hlim
  have hLc : L * ie.size ≤ c * ie.size := Nat.mul_le_mul_right _ q6
  have hsL : (arr.extract a.off (a.off + L * ie.size)).size = L * ie.size := by
   simp only [Array.size_extract]; omega
  have hCs : (L + M) * ie.size ≤ C * ie.size := Nat.mul_le_mul_right _ c1
  have hsub : (C - (L + M)) * ie.size = C * ie.size - (L + M) * ie.size := Nat.sub_mul _ _ _
  have hsum : (L + M) * ie.size = L * ie.size + M * ie.size := Nat.add_mul _ _ _
  have hall : (arr.extract a.off (a.off + L * ie.size) ++ ls ++ rest).size = C * ie.size := by
   simp only [Array.size_append, hsL, p3, c6]; omega
  have hrb : ∀ ψ : Phi, RB ψ { w1 with heap := w1.heap.push (.cells (arr.extract a.off (a.off + L * ie.size) ++ ls ++ rest) e) } ⟨w.heap.size, 0, C⟩ (.arr ks (.cat A n A2) (zKx n n2) false) := fun ψ => by
   refine ⟨_, e, (0, 0), by show (w1.heap.push _)[w.heap.size]? = _; rw [← c5, Array.getElem?_push_size], fun _ => ⟨rfl, by rw [hks, hall]; show 0 + C * ie.size ≤ C * ie.size; omega⟩, L + M, hLM, by rw [hks, hall]; show 0 + (L + M) * ie.size ≤ C * ie.size; omega, fun r c' k hr hk => ?_⟩
   rw [hks]
   have hcl := (List.getElem?_eq_some_iff.1 hk).1
   rw [hks] at hcl
   have hrm : (r + 1) * ie.size ≤ (L + M) * ie.size := Nat.mul_le_mul_right _ hr
   rw [Nat.add_mul, Nat.one_mul] at hrm
   by_cases hrL : r < L
   ·obtain ⟨y, g1, g2⟩ := q10 r c' k hrL hk
    have hrm' : (r + 1) * ie.size ≤ L * ie.size := Nat.mul_le_mul_right _ hrL
    rw [Nat.add_mul, Nat.one_mul] at hrm'
    refine ⟨y, ?_, by rw [catL r c' hrL]; exact g2⟩
    show ((arr.extract a.off (a.off + L * ie.size) ++ ls ++ rest))[0 + (r * ie.size + c')]? = _
    rw [Nat.zero_add, Array.getElem?_append_left (by simp only [Array.size_append, hsL]; omega), Array.getElem?_append_left (by omega), Array.getElem?_extract, if_pos (by omega)]
    exact g1
   ·obtain ⟨i, rfl⟩ : ∃ i, r = L + i := ⟨r - L, by omega⟩
    obtain ⟨y, g1, g2⟩ := p5 i c' k (by omega) hk
    have him : (i + 1) * ie.size ≤ M * ie.size := Nat.mul_le_mul_right _ (by omega)
    rw [Nat.add_mul, Nat.one_mul] at him
    refine ⟨y, ?_, by rw [catR]; exact g2⟩
    have e0 : 0 + ((L + i) * ie.size + c') = L * ie.size + (i * ie.size + c') := by rw [Nat.add_mul]; omega
    show ((arr.extract a.off (a.off + L * ie.size) ++ ls ++ rest))[0 + ((L + i) * ie.size + c')]? = _
    rw [e0, Array.getElem?_append_left (by simp only [Array.size_append, hsL]; omega), Array.getElem?_append_right (by omega), hsL, show L * ie.size + (i * ie.size + c') - L * ie.size = i * ie.size + c' by omega]
    exact g1
  have nst := zIv (w := w) (w' := { w1 with heap := w1.heap.push (.cells (arr.extract a.off (a.off + L * ie.size) ++ ls ++ rest) e) }) (cap := C) (x := .arr ks (.cat A n A2) (zKx n n2) false) d.rw hB hfn rfl c2 c3 c4 (by simp [c5]) (fun r hr => by show (w1.heap.push _)[r]? = _; rw [Array.getElem?_push, c5, if_neg (by omega)]) (hrb _)
  exact ⟨φ.put s'.n ⟨w.heap.size, 0, C⟩, _, _, c7, .ss (a := ⟨w.heap.size, 0, C⟩) (m := 0) (Phi.put_self _ _ _) rfl hLM ⟨c1, by show 0 + C ≤ C; omega⟩ (fun _ => by simp), d.trans nst (fun b hb hb' => by simp only at hb'; omega)⟩
theorem appendN_ok (h : RW φ B s w) (hB : B ≤ w.heap.size) (hf : zEj φ s.n N) {t e : TypeId} {t2 : TypeId} {d2 : TypeDesc} {ie : TypeInfo} {z : Value} (hu : P.underlying t = some (.slice e)) (hi : P.info? e = some ie) (hz : ie.zero = some z) (hzs : z.cells.size = ie.size)
  (hb : ie.bytes ≤ 65536) (hb1 : 1 ≤ ie.bytes) (hu2 : P.underlying t2 = some d2) (hd2 : ∀ k, d2 ≠ .int k) {ty : TypeId} {ks : List CK} (hks : ks.length = ie.size) {x : AV} {X : Value} (hx : RV φ x X) :
  (appendN ks ie.size x s).wp fun v s' => s'.n ≤ N → ∃ ψ w' y, (Builtin.append_ #[t, t2] ty #[.slice none 0 0, X]).run P w = .ok y w' ∧ RV ψ v y ∧ Stp φ B s w ψ s' w' := by
 unfold appendN
 refine zAe (R.wp_mono ?_ (srcT_ok (P := P) h hks hx))
 rintro ⟨A, n⟩ s' ⟨rfl, M, ls, p1, p2, p3, p4, p5⟩
 dsimp only at p1 p5 ⊢
 refine zAo (fun hroom => ?_) (fun _ => zAa)
 simp only [Bool.and_eq_true] at hroom
 have r1 := zJn hroom.1
 have rM := zJn hroom.2
 rw [p1] at r1 rM
 simp only [SE.eval] at r1 rM
 refine zAe (zHy fun hfx2 => zAh fun hN => ?_)
 simp only at hN
 have hfn := hf s'.n (Nat.le_refl _) (by omega)
 obtain ⟨C, rest, w1, c1, c2, c3, c4, c5, c6, c7⟩ := zEk (P := P) (w := w) (ty := ty) (bs := none) (len := 0) (cap := 0) (X := X) (o := #[]) hu hi hz hzs hb hb1 hu2 hd2 p2 (by omega) (by omega) (fun w1 _ => by simp [Builtin.firstCells]) p4
 rw [Nat.zero_add] at c1 c6 c7
 rw [Array.empty_append] at c7
 have hCs : M * ie.size ≤ C * ie.size := Nat.mul_le_mul_right _ c1
 have hsub : (C - M) * ie.size = C * ie.size - M * ie.size := Nat.sub_mul _ _ _
 have hall : (ls ++ rest).size = C * ie.size := by
  simp only [Array.size_append, p3, c6]; omega
 have hrb : ∀ ψ : Phi, RB ψ { w1 with heap := w1.heap.push (.cells (ls ++ rest) e) } ⟨w.heap.size, 0, C⟩ (.arr ks A n false) := fun ψ => by
  refine ⟨_, e, (0, 0), by show (w1.heap.push _)[w.heap.size]? = _; rw [← c5, Array.getElem?_push_size], fun _ => ⟨rfl, by rw [hks, hall]; show 0 + C * ie.size ≤ C * ie.size; omega⟩, M, p1, by rw [hks, hall]; show 0 + M * ie.size ≤ C * ie.size; omega, fun r c' k hr hk => ?_⟩
  rw [hks]
  have hcl := (List.getElem?_eq_some_iff.1 hk).1
  rw [hks] at hcl
  obtain ⟨y, g1, g2⟩ := p5 r c' k hr hk
  have him : (r + 1) * ie.size ≤ M * ie.size := Nat.mul_le_mul_right _ hr
  rw [Nat.add_mul, Nat.one_mul] at him
  refine ⟨y, ?_, g2⟩
  show ((ls ++ rest))[0 + (r * ie.size + c')]? = _
  rw [Nat.zero_add, Array.getElem?_append_left (by omega)]
  exact g1
 have nst := zIv (w := w) (w' := { w1 with heap := w1.heap.push (.cells (ls ++ rest) e) }) (cap := C) (x := .arr ks A n false) h hB hfn rfl c2 c3 c4 (by simp [c5]) (fun r hr => by show (w1.heap.push _)[r]? = _; rw [Array.getElem?_push, c5, if_neg (by omega)]) (hrb _)
 exact ⟨φ.put s'.n ⟨w.heap.size, 0, C⟩, _, _, c7, .ss (a := ⟨w.heap.size, 0, C⟩) (m := 0) (Phi.put_self _ _ _) rfl p1 ⟨c1, by show 0 + C ≤ C; omega⟩ (fun _ => by simp), nst⟩
theorem appendT_ok (h : RW φ B s w) (hB : B ≤ w.heap.size) (hf : zEj φ s.n N) {t e : TypeId} {t2 : TypeId} {d2 : TypeDesc} {ie : TypeInfo} {z : Value} (hu : P.underlying t = some (.slice e)) (hi : P.info? e = some ie) (hz : ie.zero = some z) (hzs : z.cells.size = ie.size)
  (hb : ie.bytes ≤ 65536) (hb1 : 1 ≤ ie.bytes) (hsz : 1 ≤ ie.size) (hu2 : P.underlying t2 = some d2) (hd2 : ∀ k, d2 ≠ .int k) {ty : TypeId} {sv x : AV} {SV X : Value} (hs : RV φ sv SV) (hx : RV φ x X) :
  (appendT ie.size z sv x s).wp fun v s' => s'.n ≤ N → ∃ ψ w' y, (Builtin.append_ #[t, t2] ty #[SV, X]).run P w = .ok y w' ∧ RV ψ v y ∧ Stp φ B s w ψ s' w' := by
 unfold appendT
 have hk : ∀ y : AV, (kindsT y z s).wp fun _ s' => s' = s := fun y => by
  unfold kindsT
  split
  ·refine zAe (zBo fun _ _ _ => ?_)
   split
   ·exact zAh rfl
   ·exact zAa
  ·exact zAh rfl
 refine zAe (R.wp_mono ?_ (hk _))
 rintro ks s' rfl
 refine zAo (fun hks => ?_) (fun _ => zAa)
 have hks := Nat.eq_of_beq_eq_true hks
 split
 ·cases hs
  exact appendN_ok h hB hf hu hi hz hzs hb hb1 hu2 hd2 hks hx
 ·exact appendO_ok h hB hf hu hi hz hzs hb hb1 hsz hu2 hd2 hks hs hx
theorem append_ok (h : RW φ B s w) (hB : B ≤ w.heap.size) (hf : zEj φ s.n N) {t t2 : TypeId} {d2 : TypeDesc} (hu2 : P.underlying t2 = some d2) (hd2 : ∀ k, d2 ≠ .int k) {ty : TypeId} {sv x : AV} {SV X : Value} (hs : RV φ sv SV) (hx : RV φ x X) :
  (appendA P t sv x s).wp fun v s' => s'.n ≤ N → ∃ ψ w' y, (Builtin.append_ #[t, t2] ty #[SV, X]).run P w = .ok y w' ∧ RV ψ v y ∧ Stp φ B s w ψ s' w' := by
 unfold appendA
 cases hu : P.underlying t with
 | none => exact zAa
 | some d =>
  cases d <;> first | exact zAa | skip
  rename_i e
  cases hi : P.info? e with
  | none => simp only [hi]; exact zAa
  | some ie =>
   simp only [hi]
   refine zAo (fun _ => ?_) (fun _ => ?_)
   ·cases hz : ie.zero with
    | none => exact zAa
    | some z =>
     refine zAo (fun hc => ?_) (fun _ => zAa)
     simp only [Bool.and_eq_true] at hc
     obtain ⟨⟨⟨c1, c3⟩, c4⟩, c5⟩ := hc
     exact appendT_ok h hB hf hu hi hz (Nat.eq_of_beq_eq_true c5) (Nat.le_of_ble_eq_true c1) (Nat.le_of_ble_eq_true c4) (Nat.le_of_ble_eq_true c3) hu2 hd2 hs hx
   cases hn : zHd x with
   | none => exact zAa
   | some n =>
    cases hz : ie.zero with
    | none => exact zAa
    | some z =>
     refine zAo (fun hc => ?_) (fun _ => zAa)
     simp only [Bool.and_eq_true] at hc
     obtain ⟨⟨⟨⟨c1, c2⟩, c3⟩, c4⟩, c5⟩ := hc
     exact appendTo_ok h hB hf hu hi hz (Nat.eq_of_beq_eq_true c5) (Nat.le_of_ble_eq_true c1) (Nat.le_of_ble_eq_true c4) (Nat.le_of_ble_eq_true c3) hu2 hd2 hs hx hn (Nat.le_of_ble_eq_true c2)
theorem copyT_ok (h : RW φ B s w) {t e : TypeId} {ts : Array TypeId} {as : Array Value} {ty : TypeId} {k : Nat} {d x : AV} {D X : Value} (hu : P.underlying t = some (.slice e)) (hk : szO P e = some k) (h1 : ts[0]? = some t) (h3 : as[0]? = some D) (h4 : as[1]? = some X) (hd : RV φ d D) (hx : RV φ x X) :
  (copyT k d x s).wp fun v s' => ∃ w' y, (Builtin.copy_ ts ty as).run P w = .ok y w' ∧ RV φ v y ∧ Stp φ B s w φ s' w' := by
 unfold copyT
 split
 ·rename_i b z off n b2 z2 off2 n2
  cases hd with | ss e1 hm hl hc ho =>
  rename_i a m l o c
  refine zAe (zBo fun tt y hy => ?_)
  obtain ⟨a1, ha1, hrb, hBy⟩ := h.blk b tt y hy
  rw [e1] at ha1; cases ha1
  cases y <;> first | exact zAa | skip
  rename_i ks A N ro
  cases ro <;> first | exact zAa | skip
  dsimp only
  refine zAo (fun hg => ?_) (fun _ => zAa)
  simp only [Bool.and_eq_true] at hg
  have hz := Nat.eq_of_beq_eq_true hg.1
  have hks := Nat.eq_of_beq_eq_true hg.2.1
  have hin := zJn hg.2.2
  subst hz
  cases hq : zBi (zEm n2 n) with
  | none => exact zAa
  | some q =>
   dsimp only
   cases hx with | ss e2 hm2 hl2 hc2 ho2 =>
   rename_i a2 m2 l2 o2 c2
   have hq' := zBd hq
   rw [zHb, hl, hl2] at hq'
   obtain ⟨cnt, hcnt, hcn, hle⟩ : ∃ cnt : Nat, (bif q then n2 else n).eval zAc.env = (cnt : Int) ∧ cnt = Nat.min l2 l ∧ cnt ≤ l2 := by
    cases q with
    | true =>
     have : l2 ≤ l := by have := of_decide_eq_true hq'; omega
     exact ⟨l2, hl2, (Nat.min_eq_left this).symm, Nat.le_refl _⟩
    | false =>
     have : l ≤ l2 := by have := of_decide_eq_false hq'; omega
     exact ⟨l, hl, (Nat.min_eq_right this).symm, this⟩
   have hx' : RV φ (.ss b2 z2 off2 (bif q then n2 else n)) (.slice (some ⟨a2.blk, o2, none⟩) cnt c2) := .ss e2 hm2 hcnt ⟨by omega, hc2.2⟩ ho2
   refine zAe (R.wp_mono ?_ (srcT_ok (P := P) h hks hx'))
   rintro ⟨A2, r2⟩ s' ⟨rfl, M, ls, p1, p2, p3, p4, p5⟩
   dsimp only at p1 p5 ⊢
   have hM : M = cnt := by
    have p2 := p2
    simp [Builtin.lenOf] at p2
    exact p2.symm
   subst hM
   refine zAe (zEe fun t0 y0 hy0 hfx hfx2 hlim => zAh ?_)
   rw [hy] at hy0; cases hy0
   obtain ⟨arr, el, fz, r1, r2', M', hM', r3, r4⟩ := hrb
   obtain ⟨rfl, r5⟩ := r2' rfl
   rw [hks] at r3 r5
   simp only [hks] at r4
   rw [zFt, hm, hl, hM'] at hin
   have hml : m + l ≤ M' := by omega
   have hcl : M ≤ l := by rw [hcn]; exact Nat.min_le_right _ _
   have hmul : (m + M) * z ≤ M' * z := Nat.mul_le_mul_right _ (by omega)
   rw [Nat.add_mul] at hmul
   have hpos : 1 ≤ z ∨ z = 0 := by omega
   have hone : ∀ x ∈ ls.toList, oneC x = true := fun x hx => by
    obtain ⟨j, hj, hjx⟩ := List.getElem_of_mem hx
    have hjs : j < M * z := by rw [← p3]; simpa using hj
    have hpos : 0 < z := Nat.pos_of_ne_zero (fun e => by subst e; omega)
    have hmod : j % z < ks.length := by rw [hks]; exact Nat.mod_lt _ hpos
    obtain ⟨y, g1, g2⟩ := p5 (j / z) (j % z) ks[j % z] ((Nat.div_lt_iff_lt_mul hpos).2 hjs) (List.getElem?_eq_getElem hmod)
    rw [Nat.div_add_mod' j z] at g1
    have : ls[j]? = some x := by rw [← hjx]; simp
    rw [this] at g1; cases g1
    exact g2.one
   have key : ∃ w' arr', (storeCells (⟨a.blk, o, none⟩ : Addr) ls.toList).run P w = .ok () w' ∧ w'.heap[a.blk]? = some (.cells arr' el (0, 0)) ∧ arr'.size = arr.size ∧ (∀ j, arr'[j]? = if a.off + m * z ≤ j ∧ j < a.off + m * z + ls.size then ls[j - (a.off + m * z)]? else arr[j]?) ∧
     (∀ r, r ≠ a.blk → w'.heap[r]? = w.heap[r]?) ∧ w'.heap.size = w.heap.size ∧ w'.os = w.os ∧ w'.tape = w.tape ∧ w'.output = w.output := by
    rcases Nat.eq_zero_or_pos M with h0 | h0
    ·subst h0
     have : ls = #[] := Array.eq_empty_of_size_eq_zero (by rw [p3, Nat.zero_mul])
     subst this
     exact ⟨w, arr, by simp [storeCells], r1, rfl, fun j => by rw [if_neg (by simp only [Array.size_empty]; omega)], fun _ _ => rfl, rfl, rfl, rfl, rfl⟩
    ·have ho := ho (by omega)
     subst ho
     obtain ⟨w', e1, e2, e3, e4, e5, e6, e7⟩ := zDl (P := P) ls.toList (a.off + m * z) 0 arr w r1 (by simp; omega) hone
     refine ⟨w', _, e1, e2, zBw _ _ _, fun j => ?_, e3, e4, e5, e6, e7⟩
     rw [zDu _ _ _ _ (by simp; omega)]
     simp only [Nat.add_zero, Array.length_toList, Array.getElem?_toList]
   obtain ⟨w', arr', f1, f2, f2s, f2g, f3, f4, f5, f6, f7⟩ := key
   refine ⟨w', goInt (M : Nat), ?_, .sx p1, zNn h hy rfl rfl hlim e1 ⟨arr', el, (0, 0), f2, fun _ => ⟨rfl, by rw [hks, f2s]; exact r5⟩, M', hM', by rw [hks, f2s]; exact r3, fun r c' kk hr hkk => ?_⟩ f5 f6 f7 f4 f3⟩
   ·have hl0 : (Builtin.lenOf (.slice (some ⟨a2.blk, o2, none⟩) l2 c2)).run P w = .ok l2 w := by simp [Builtin.lenOf]
    have hfc : (Builtin.firstCells z M (.slice (some ⟨a2.blk, o2, none⟩) l2 c2)).run P w = .ok ls w := p4 w rfl
    simp only [Builtin.copy_, h1, h3, h4, Sem.run_bind, zAf hu, Result.andThen_ok, hl0, zAt hk, ← hcn, hfc, f1, Sem.run_pure]
   ·rw [hks]
    have hcl' := (List.getElem?_eq_some_iff.1 hkk).1
    rw [hks] at hcl'
    have hrow : (SE.cat A off (.cat A2 r2 (shS A (zKx off r2)))).row zAc.env (r : Int) c' = if r < m then A.row zAc.env (r : Int) c' else if r < m + M then A2.row zAc.env ((r - m : Nat) : Int) c' else A.row zAc.env (r : Int) c' := by
     show (if (r : Int) < off.eval zAc.env then _ else (if (r : Int) - off.eval zAc.env < r2.eval zAc.env then _ else _)) = _
     rw [hm, p1]
     by_cases q1 : r < m
     ·rw [if_pos (by omega), if_pos q1]
     ·rw [if_neg (by omega), if_neg q1]
      by_cases q2 : r < m + M
      ·rw [if_pos (by omega), if_pos q2]
       congr 1; omega
      ·rw [if_neg (by omega), if_neg q2, shS_row, zFt, hm, p1]
       congr 1; omega
    rw [hrow]
    show ∃ y, arr'[a.off + (r * z + c')]? = some y ∧ _
    rw [f2g, p3]
    by_cases q1 : r < m
    ·have hrm : (r + 1) * z ≤ m * z := Nat.mul_le_mul_right _ q1
     rw [Nat.add_mul, Nat.one_mul] at hrm
     rw [if_neg (by omega), if_pos q1]
     exact r4 r c' kk hr hkk
    ·rw [if_neg q1]
     obtain ⟨i, rfl⟩ : ∃ i, r = m + i := ⟨r - m, by omega⟩
     have hsp : (m + i) * z = m * z + i * z := Nat.add_mul _ _ _
     by_cases q2 : m + i < m + M
     ·have him : (i + 1) * z ≤ M * z := Nat.mul_le_mul_right _ (by omega)
      rw [Nat.add_mul, Nat.one_mul] at him
      rw [if_pos (by omega), if_pos q2]
      obtain ⟨y, g1, g2⟩ := p5 i c' kk (by omega) hkk
      refine ⟨y, ?_, by rw [show m + i - m = i by omega]; exact g2⟩
      rw [← g1]
      congr 1; omega
     ·have him : M * z ≤ i * z := Nat.mul_le_mul_right _ (by omega)
      rw [if_neg (by omega), if_neg q2]
      exact r4 (m + i) c' kk hr hkk
 ·exact zAa
theorem copy_ok (h : RW φ B s w) {t : TypeId} {ts : Array TypeId} {as : Array Value} {ty : TypeId} {d x : AV} {D X : Value} (h1 : ts[0]? = some t) (h3 : as[0]? = some D) (h4 : as[1]? = some X) (hd : RV φ d D) (hx : RV φ x X) :
  (copyA P t d x s).wp fun v s' => ∃ w' y, (Builtin.copy_ ts ty as).run P w = .ok y w' ∧ RV φ v y ∧ Stp φ B s w φ s' w' := by
 unfold copyA
 cases hu : P.underlying t with
 | none => exact zAa
 | some dd =>
  cases dd <;> first | exact zAa | skip
  rename_i e
  simp only
  cases hk : szO P e with
  | none =>
   refine zAo (fun _ => zAa) (fun _ => ?_)
   exact zAa
  | some k =>
   refine zAo (fun _ => copyT_ok h hu hk h1 h3 h4 hd hx) (fun hnt => ?_)
   clear hnt
   cases hn : zHd x with
   | none => exact zAa
   | some n =>
    have hlen : (Builtin.lenOf X).run P w = .ok n w := lenOf_ok hx hn
    show (copyTo k n d x s).wp _
    unfold copyTo
    split
    ·rename_i b off z len cap
     have hd0 := hd
     cases hd with | sl he hc hl ho =>
     rename_i a o c
     refine zAo (fun hz => ?_) (fun _ => zAa)
     have hz := Nat.eq_of_beq_eq_true hz
     subst hz
     refine zAe (R.wp_mono ?_ (src_ok (P := P) h hx hn (min n len) (Nat.min_le_left _ _)))
     rintro l s' ⟨rfl, hll, xs, hxs, hrun⟩
     refine zAo (fun hm0 => ?_) (fun hm0 => ?_)
     ·have hm0 := Nat.eq_of_beq_eq_true hm0
      refine zAh ⟨w, goInt 0, ?_, .val _, Stp.refl h⟩
      have hxe : xs = #[] := by
       have := hxs.length
       rw [hll, hm0, Nat.zero_mul] at this
       apply Array.eq_empty_of_size_eq_zero; simpa using this.symm
      have hmin : Nat.min n len = 0 := hm0
      rw [hm0] at hrun
      simp only [Builtin.copy_, h1, h3, h4, Sem.run_bind, zAf hu, Result.andThen_ok, hlen, zAt hk, hmin, hrun w rfl, hxe]
      simp [storeCells]
     ·have hm0' : min n len ≠ 0 := fun e => by rw [e] at hm0; cases hm0
      refine zAe (R.wp_mono ?_ (zOv (P := P) h b off l))
      rintro _ s'' ⟨a', ha, hw⟩
      rw [he] at ha; cases ha
      obtain ⟨w', g1, g2⟩ := hw xs.toList hxs
      have ho := ho (by omega)
      subst ho
      refine zAh ⟨w', goInt (min n len : Nat), ?_, .val _, g2⟩
      have hmin : Nat.min n len = min n len := rfl
      simp only [Builtin.copy_, h1, h3, h4, Sem.run_bind, zAf hu, Result.andThen_ok, hlen, zAt hk, hmin, hrun w rfl, g1, Sem.run_pure]
    ·cases hd
     refine zAh ⟨w, goInt 0, ?_, .val _, Stp.refl h⟩
     have hmin : Nat.min n 0 = 0 := Nat.min_zero _
     simp only [Builtin.copy_, h1, h3, h4, Sem.run_bind, zAf hu, Result.andThen_ok, hlen, zAt hk, hmin, first0 hx hn]
     simp
    ·exact zAa
end
end
end Go.Abs
namespace Go.Abs
noncomputable section
variable [Facts] [zAc]
section
variable {P : Program} {φ ψ : Phi} {B N : Nat} {s s' : HS} {w w' : World}
omit [Facts] [zAc] in
theorem zBl {r : Nat} {o : Obj} (h : w.heap[r]? = some o) (hc : ∀ a b c, o ≠ .cells a b c) : (getObj r).run P w = .ok o w := by
 cases o <;> first | exact (hc _ _ _ rfl).elim | simp [getObj, Sem.run, h]
omit [Facts] [zAc] in
theorem zCm {r : Nat} {o o' : Obj} (h : w.heap[r]? = some o) (hc : ∀ a b c, o ≠ .cells a b c) : (setObj r o').run P w = .ok () { w with heap := w.heap.setIfInBounds r o' } := by
 cases o <;> first | exact (hc _ _ _ rfl).elim | simp [setObj, Sem.run, h]
omit [Facts] [zAc] in
theorem zPa (w : World) (r i : Nat) (o : Obj) : i ≠ r → ({ w with heap := w.heap.setIfInBounds r o } : World).heap[i]? = w.heap[i]? := fun h => Array.getElem?_setIfInBounds_ne (fun e => h e.symm)
theorem zHa (h : RW φ B s w) {b t : Nat} {y x : Blk} {a : Lc} {o' : Obj} (he : s.h.get b = some (t, y)) (hy : y.fixed = false) (hx : x.fixed = false) (hl : s.lim ≤ b) (ha : φ b = some a) (hb : RB φ { w with heap := w.heap.setIfInBounds a.blk o' } a x) :
  Stp φ B s w φ { s with h := s.h.set b (s.clk + 1, x), clk := s.clk + 1 } { w with heap := w.heap.setIfInBounds a.blk o' } :=
 zNn h he hy hx hl ha hb rfl rfl rfl (by simp) (fun r hr => zPa w a.blk r o' hr)
omit [Facts] [zAc] in
theorem set_self {w : World} {r : Nat} (h : r < w.heap.size) (o : Obj) : ({ w with heap := w.heap.setIfInBounds r o } : World).heap[r]? = some o := by
 simp [Array.getElem?_setIfInBounds_self_of_lt h]
theorem RM.length {l : List (AV × AV × Nat)} {r : List MapEntry} (h : RM φ l r) : l.length = r.length := by
 induction h with
 | nil => rfl
 | cons _ _ _ ih => simp [ih]
theorem RM.modify {l : List (AV × AV × Nat)} {r : List MapEntry} (h : RM φ l r) {v : AV} {V X : Value} (hv : RV φ v V) (i : Nat) (hk : ∀ k n, (∃ v0, l[i]? = some (k, v0, n)) → RV φ k X) :
  RM φ (l.modify i fun (k, _, n) => (k, v, n)) (r.modify i fun e => { e with key := X, val := V }) := by
 induction h generalizing i with
 | nil => cases i <;> exact .nil
 | cons a b hl ih =>
  cases i with
  | zero => simp only [List.modify_zero_cons]; exact .cons (hk _ _ ⟨_, rfl⟩) hv hl
  | succ i => simp only [List.modify_succ_cons]; exact .cons a b (ih i (fun k n ⟨v0, e⟩ => hk k n ⟨v0, by simpa using e⟩))
theorem RM.snoc {l : List (AV × AV × Nat)} {r : List MapEntry} (h : RM φ l r) {k v : AV} {K V : Value} (hk : RV φ k K) (hv : RV φ v V) (n : Nat) : RM φ (l ++ [(k, v, n)]) (r ++ [{ key := K, val := V, born := n }]) := by
 induction h with
 | nil => exact .cons hk hv .nil
 | cons a b _ ih => exact .cons a b ih
theorem RM.erase {l : List (AV × AV × Nat)} {r : List MapEntry} (h : RM φ l r) (i : Nat) : RM φ (l.eraseIdx i) (r.eraseIdx i) := by
 induction h generalizing i with
 | nil => cases i <;> exact .nil
 | cons a b hl ih =>
  cases i with
  | zero => simpa using hl
  | succ i => simpa using RM.cons a b (ih i)
theorem RM.get {l : List (AV × AV × Nat)} {r : List MapEntry} (h : RM φ l r) {i : Nat} {e : AV × AV × Nat} (hi : l[i]? = some e) : ∃ q, r[i]? = some q ∧ RV φ e.1 q.key ∧ RV φ e.2.1 q.val ∧ q.born = e.2.2 := by
 induction h generalizing i with
 | nil => cases hi
 | cons a b hl ih =>
  cases i with
  | zero => simp at hi; subst hi; exact ⟨⟨_, _, _⟩, by simp, a, b, rfl⟩
  | succ i => simp at hi; simpa using ih hi
theorem RM.filter {l : List (AV × AV × Nat)} {r : List MapEntry} (h : RM φ l r) (p : Nat → Bool) : RM φ (l.filter fun e => p e.2.2) (r.filter fun e => p e.born) := by
 induction h with
 | nil => exact .nil
 | cons a b hl ih =>
  rename_i n _ _ _ _
  simp only [List.filter_cons]
  cases p n <;> simp only [Bool.false_eq_true, if_false, if_true]
  ·exact ih
  ·exact .cons a b ih
omit [Facts] [zAc] in
theorem bytes_beq {a b : ByteArray} (h : (a == b) = true) : a = b := by
 rw [beq_toListBytes, ByteArray.toList_eq, ByteArray.toList_eq] at h
 obtain ⟨⟨x⟩⟩ := a
 obtain ⟨⟨y⟩⟩ := b
 have : x = y := by simpa using h
 rw [this]
theorem sameKeyS_ok {x y : AV} {X Y : Value} (hx : RV φ x X) (hy : RV φ y Y) (h : sameKeyS x y = true) : X = Y := by
 unfold sameKeyS at h
 split at h
 ·cases hx; cases hy
  simp only [beq_iff_eq] at h
  rw [h]
 ·split at h
  ·rename_i k a k' b e1 e2
   split at h
   ·rename_i ek
    subst ek
    split at h
    ·rename_i hd
     have := zBd hd
     rw [zIx] at this
     rw [zCn hx e1, zCn hy e2, of_decide_eq_true this]
    ·cases h
   ·cases h
  ·cases h
theorem sameKeyL_ok : ∀ {l m : List AV} {X Y : List Value}, RL φ l X → RL φ m Y → zPd l m = true → X = Y := by
 intro l
 induction l with
 | nil =>
  intro m X Y hx hy h
  cases m with
  | nil => cases hx; cases hy; rfl
  | cons y m => cases h
 | cons x l ih =>
  intro m X Y hx hy h
  cases m with
  | nil => cases h
  | cons y m =>
   simp only [zPd, Bool.and_eq_true] at h
   cases hx with | cons h1 h2 =>
   cases hy with | cons h3 h4 =>
   rw [sameKeyS_ok h1 h3 h.1, ih h2 h4 h.2]
def asks : TypeDesc → Bool
 | .struct _ | .array _ _ => true
 | _ => false
theorem key_ok {kt : TypeId} {kd : TypeDesc} {x y : AV} {X Y : Value} {b : Bool} (hx : RV φ x X) (hy : RV φ y Y) (h : keyEq P kt kd x y = some b) :
  (asks kd = false → Instr.sameNow kd X Y = some b) ∧ (asks kd = true → Instr.sameNow kd X Y = none ∧ ∀ w, (Op.equal kt X Y).run P w = .ok b w) ∧ (b = true → X = Y) := by
 unfold keyEq at h
 split at h
 ·split at h
  ·rename_i j a j' b' e1 e2
   split at h
   ·rename_i e
    subst e
    have hd := zBd h
    rw [zIx] at hd
    rw [zCn hx e1, zCn hy e2]
    refine ⟨fun _ => ?_, fun e => (by cases e), fun e => ?_⟩
    ·simp only [Instr.sameNow, if_true]
     rw [← hd]; rfl
    ·rw [e] at hd
     rw [of_decide_eq_true hd]
   ·cases h
  ·cases h
 ·split at h
  ·cases h; cases hx; cases hy
   exact ⟨fun _ => (by simp [Instr.sameNow]), fun e => (by cases e), fun e => (by rw [bytes_beq e])⟩
  ·cases h
 all_goals first | (cases h; done) | skip
 all_goals
  split at h
  ·rename_i l m
   split at h
   ·rename_i he
    rcases zBr h with ⟨hs, e⟩ | ⟨_, e⟩
    ·cases e
     have hr : ∀ w, (Op.equal kt X Y).run P w = .ok true w := fun w => eqA_ok w zGg 10000 kt _ _ X Y true (by unfold zGg; omega) hx hy he
     cases hx with | agg hx =>
     cases hy with | agg hy =>
     refine ⟨fun e => (by cases e), fun _ => ⟨rfl, hr⟩, fun _ => ?_⟩
     have := sameKeyL_ok hx hy hs
     congr 1
     exact Array.ext' this
    ·cases e
   ·rename_i he
    cases h
    have hr : ∀ w, (Op.equal kt X Y).run P w = .ok false w := fun w => eqA_ok w zGg 10000 kt _ _ X Y false (by unfold zGg; omega) hx hy he
    cases hx with | agg hx =>
    cases hy with | agg hy =>
    exact ⟨fun e => (by cases e), fun _ => ⟨rfl, hr⟩, fun e => (by cases e)⟩
   ·cases h
  ·cases h
def Finds (P : Program) (kt : TypeId) (kd : TypeDesc) (X : Value) (r : List MapEntry) (i : Nat) (q : Option (Nat × Value)) : Prop :=
 (asks kd = false → Instr.findNow kd X r i = some q) ∧ (asks kd = true → (r ≠ [] → Instr.findNow kd X r i = none) ∧ ∀ w, (Instr.findAsking kt X r i).run P w = .ok q w)
theorem find_ok {kt : TypeId} {kd : TypeDesc} {x : AV} {X : Value} (hx : RV φ x X) {l : List (AV × AV × Nat)} {r : List MapEntry} (h : RM φ l r) : ∀ (i : Nat) (q : Option (Nat × AV)), findA P kt kd x l i = some q →
  (q = none → Finds P kt kd X r i none) ∧ ∀ j v, q = some (j, v) → ∃ V k n, Finds P kt kd X r i (some (j, V)) ∧ RV φ v V ∧ i ≤ j ∧ l[j - i]? = some (k, v, n) ∧ RV φ k X ∧ (r[j - i]?).map (·.key) = some X := by
 induction h with
 | nil =>
  intro i q hq
  simp only [findA] at hq; cases hq
  exact ⟨fun _ => ⟨fun _ => rfl, fun _ => ⟨fun h => absurd rfl h, fun w => by simp [Instr.findAsking]⟩⟩, fun j v e => by cases e⟩
 | cons a b hl ih =>
  rename_i k0 v0 n0 l0 x0 y0 es0
  intro i q hq
  simp only [findA] at hq
  split at hq
  ·rename_i hk
   cases hq
   obtain ⟨k1, k2, k3⟩ := key_ok hx a hk
   refine ⟨fun e => (by cases e), fun j v e => ?_⟩
   cases e
   have := k3 rfl
   subst this
   refine ⟨_, _, _, ⟨fun ha => by simp only [Instr.findNow, k1 ha], fun ha => ⟨fun _ => by simp only [Instr.findNow, (k2 ha).1], fun w => ?_⟩⟩, b, Nat.le_refl _, by rw [Nat.sub_self]; rfl, a, by simp⟩
   simp only [Instr.findAsking, Sem.run_bind, (k2 ha).2, Result.andThen_ok, if_true, Sem.run_pure]
  ·rename_i hk
   obtain ⟨k1, k2, _⟩ := key_ok hx a hk
   obtain ⟨g1, g2⟩ := ih (i + 1) q hq
   have ext : ∀ q', Finds P kt kd X es0 (i + 1) q' → Finds P kt kd X ({ key := x0, val := y0, born := n0 } :: es0) i q' := fun q' hf =>
    ⟨fun ha => (by simp only [Instr.findNow, k1 ha, hf.1 ha]), fun ha => ⟨fun _ => (by simp only [Instr.findNow, (k2 ha).1]), fun w => (by
     simp only [Instr.findAsking, Sem.run_bind, (k2 ha).2, Result.andThen_ok, Bool.false_eq_true, if_false]
     exact (hf.2 ha).2 w)⟩⟩
   refine ⟨fun e => ext _ (g1 e), fun j v e => ?_⟩
   obtain ⟨V, k, n, p1, p2, p3, p4, p5, p6⟩ := g2 j v e
   refine ⟨V, k, n, ext _ p1, p2, by omega, ?_, p5, ?_⟩
   ·rw [show j - i = (j - (i + 1)) + 1 by omega]; simpa using p4
   ·rw [show j - i = (j - (i + 1)) + 1 by omega]; simpa using p6
  ·cases hq
omit [Facts] [zAc] in
theorem zKd {t : TypeId} (h : scalarT P t = true) (e : Bool) (d : Nat) (X : Value) (w : World) : (Instr.checkKey e (d + 1) t X).run P w = .ok () w := by
 unfold scalarT at h
 rw [Instr.checkKey]
 split at h
 ·rename_i hu
  simp only [Sem.run_bind, zAf hu, Result.andThen_ok, Sem.run_pure]
 ·rename_i hu
  simp only [Sem.run_bind, zAf hu, Result.andThen_ok, Sem.run_pure]
 ·cases h
theorem run_checkKey {kt : TypeId} {kd : TypeDesc} {x : AV} {X : Value} (hu : P.underlying kt = some kd) (hk : keyOk P kd x = true) (hx : RV φ x X) (e : Bool) : (Instr.checkKey e 10000 kt X).run P w = .ok () w := by
 unfold keyOk at hk
 split at hk
 ·cases hx
  rw [show (10000 : Nat) = 9999 + 1 from rfl, Instr.checkKey]
  simp only [Sem.run_bind, zAf hu, Result.andThen_ok, Sem.run_pure]
 ·cases hx
  rw [show (10000 : Nat) = 9999 + 1 from rfl, Instr.checkKey]
  simp only [Sem.run_bind, zAf hu, Result.andThen_ok, Sem.run_pure]
 ·cases hx
  rw [show (10000 : Nat) = 9999 + 1 from rfl, Instr.checkKey]
  simp only [Sem.run_bind, zAf hu, Result.andThen_ok, Sem.run_pure]
 ·rename_i fs l
  cases hx with | agg hx =>
  simp only [Bool.and_eq_true, List.all_eq_true] at hk
  obtain ⟨_, hk⟩ := hk
  rw [show (10000 : Nat) = 9999 + 1 from rfl, Instr.checkKey]
  simp only [Sem.run_bind, zAf hu, Result.andThen_ok]
  rw [← Array.forIn_toList]
  generalize fs.toList = L at hk
  induction L with
  | nil => simp
  | cons f L ih =>
   obtain ⟨h1, h2⟩ := hk f (.head _)
   obtain ⟨v, hv⟩ := Option.isSome_iff_exists.1 h2
   obtain ⟨X1, e1, _⟩ := zHo (P := P) hx hv w
   have c1 := zKd h1 e 9998 X1 w
   have hih := ih (fun f hf => hk f (.tail _ hf))
   simp only [List.forIn_cons, Sem.run_bind]
   by_cases hn : f.name ≠ "_"
   ·simp only [if_pos hn, Sem.run_bind, e1, Result.andThen_ok, c1, Sem.run_pure]
    exact hih
   ·simp only [if_neg hn, Sem.run_pure, Result.andThen_ok]
    exact hih
 ·rename_i len el l
  cases hx with | agg hx =>
  rename_i xs0
  simp only [Bool.and_eq_true] at hk
  obtain ⟨_, hk1, hk⟩ := hk
  cases hz : szO P el with
  | none => rw [hz] at hk; cases hk
  | some k =>
   rw [hz] at hk
   simp only at hk
   rw [show (10000 : Nat) = 9999 + 1 from rfl, Instr.checkKey]
   simp only [Sem.run_bind, zAf hu, Result.andThen_ok, zAt hz]
   simp only [Std.Legacy.Range.forIn_eq_forIn_range', Std.Legacy.Range.size]
   have : (len - 0 + 1 - 1) / 1 = len := by omega
   rw [this]
   have key : ∀ (m i : Nat), partsOk P el k l i m = true → (forIn (List.range' i m) PUnit.unit fun i r => (do
     Instr.checkKey e 9999 el (← part el ⟨xs0⟩ (i * (← sizeOf el)))
     pure (ForInStep.yield PUnit.unit) : Sem (ForInStep PUnit))).run P w = .ok PUnit.unit w := by
    intro m
    induction m with
    | zero => intro i _; simp
    | succ m ih =>
     intro i hp
     simp only [partsOk, Bool.and_eq_true] at hp
     obtain ⟨v, hv⟩ := Option.isSome_iff_exists.1 hp.1
     obtain ⟨X1, e1, _⟩ := zHo (P := P) hx hv w
     have c1 := zKd hk1 e 9998 X1 w
     simp only [List.range'_succ, List.forIn_cons, Sem.run_bind, zAt hz, e1, Result.andThen_ok, c1, Sem.run_pure]
     exact ih (i + 1) hp.2
   have := key len 0 hk
   simp at this ⊢
   rw [this]
   rfl
 ·cases hk
omit [Facts] [zAc] in
theorem run_findKey {kt : TypeId} {kd : TypeDesc} {X : Value} {r : List MapEntry} {q : Option (Nat × Value)} (hu : P.underlying kt = some kd) (h : Finds P kt kd X r 0 q) : (Instr.findKey kt X r).run P w = .ok q w := by
 cases ha : asks kd with
 | false => simp [Instr.findKey, zAf hu, h.1 ha]
 | true =>
  obtain ⟨h1, h2⟩ := h.2 ha
  by_cases hr : r = []
  ·subst hr
   have := h2 w
   simp only [Instr.findAsking, Sem.run_pure] at this
   simp [Instr.findKey, zAf hu, Instr.findNow, this]
  ·simp [Instr.findKey, zAf hu, h1 hr, h2]
omit [Facts] [zAc] in
theorem finds_nil {kt : TypeId} {kd : TypeDesc} {X : Value} : Finds P kt kd X [] 0 none := ⟨fun _ => rfl, fun _ => ⟨fun h => absurd rfl h, fun w => by simp [Instr.findAsking]⟩⟩
theorem lookup_ok (h : RW φ B s w) {t : TypeId} {m x : AV} {M' X : Value} (hm : RV φ m M') (hx : RV φ x X) (ok : Bool) : (lookupA P t m x ok s).wp fun v s' => s' = s ∧ ∃ y, (Instr.lookup t M' X ok).run P w = .ok y w ∧ RV φ v y := by
 unfold lookupA
 cases hu : P.underlying t with
 | none => exact zAa
 | some d =>
  cases d <;> first | exact zAa | skip
  rename_i kt e
  simp only
  cases hk : P.underlying kt with
  | none => exact zAa
  | some kd =>
   cases hz : zJm P e with
   | none => exact zAa
   | some z =>
    refine zAo (fun hko => ?_) (fun _ => zAa)
    refine zAe ?_
    split
    ·cases hm
     refine zAh ?_
     refine zAh ⟨rfl, if ok then .tuple #[z, .bool false] else z, ?_, ?_⟩
     ·simp only [Instr.lookup, Sem.run_bind, zAf hu, Result.andThen_ok, Sem.run_pure, run_checkKey hk hko hx, run_findKey (r := []) (q := none) hk finds_nil, zFv hz]
     ·cases ok
      ·exact RV.ofV z
      ·exact .tup (.cons (RV.ofV z) (.cons (.val _) .nil))
    ·rename_i b
     cases hm with | mp he =>
     rename_i a
     refine zAe (zBo fun tt y hy => ?_)
     obtain ⟨a1, ha1, hrb, hBy⟩ := h.blk b tt y hy
     rw [he] at ha1; cases ha1
     cases y <;> first | exact zAa | skip
     rename_i es clock
     obtain ⟨res, r1, r2⟩ := hrb
     refine zFm fun q hq => ?_
     obtain ⟨g1, g2⟩ := find_ok hx r2 0 q hq
     have hobj := zBl (P := P) r1 (by intros; simp)
     cases q with
     | none =>
      refine zAh ⟨rfl, if ok then .tuple #[z, .bool false] else z, ?_, ?_⟩
      ·simp only [Instr.lookup, Sem.run_bind, zAf hu, Result.andThen_ok, Sem.run_pure, hobj, run_checkKey hk hko hx, run_findKey hk (g1 rfl), zFv hz]
      ·cases ok
       ·exact RV.ofV z
       ·exact .tup (.cons (RV.ofV z) (.cons (.val _) .nil))
     | some p =>
      obtain ⟨j, v⟩ := p
      obtain ⟨V, k, n, p1, p2, _⟩ := g2 j v rfl
      refine zAh ⟨rfl, if ok then .tuple #[V, .bool true] else V, ?_, ?_⟩
      ·simp only [Instr.lookup, Sem.run_bind, zAf hu, Result.andThen_ok, Sem.run_pure, hobj, run_checkKey hk hko hx, run_findKey hk p1]
      ·cases ok
       ·exact p2
       ·exact .tup (.cons p2 (.cons (.val _) .nil))
    ·exact zAa
theorem scalar_bits {x : AV} {X : Value} (hk : zJr x = true) (hx : RV φ x X) (d : Nat) : Instr.sameBits d X X = true := by
 unfold zJr at hk
 split at hk
 ·cases hx; simp [Instr.sameBits]
 ·cases hx; simp [Instr.sameBits]
 ·cases hx; simp [Instr.sameBits]
 ·cases hk
theorem zOh : ∀ {l : List AV} {X : List Value}, RL φ l X → l.all zJr = true → ∀ d, ((X.zip X).all fun (x, y) => Instr.sameBits d x y) = true := by
 intro l
 induction l with
 | nil => intro X h _ d; cases h; rfl
 | cons x l ih =>
  intro X h hk d
  simp only [List.all_cons, Bool.and_eq_true] at hk
  cases h with | cons h1 h2 =>
  simp only [List.zip_cons_cons, List.all_cons, Bool.and_eq_true]
  exact ⟨scalar_bits hk.1 h1 d, ih h2 hk.2 d⟩
theorem keyEq_bits {kd : TypeDesc} {x : AV} {X : Value} (hk : keyOk P kd x = true) (hx : RV φ x X) : Instr.sameBits 10000 X X = true := by
 unfold keyOk at hk
 split at hk
 ·cases hx; simp [Instr.sameBits]
 ·cases hx; simp [Instr.sameBits]
 ·cases hx; simp [Instr.sameBits, beq_toListBytes]
 ·simp only [Bool.and_eq_true] at hk
  cases hx with | agg hx =>
  rw [show (10000 : Nat) = 9999 + 1 from rfl, Instr.sameBits]
  simp only [beq_self_eq_true, Bool.true_and]
  exact zOh hx hk.1 9999
 ·simp only [Bool.and_eq_true] at hk
  cases hx with | agg hx =>
  rw [show (10000 : Nat) = 9999 + 1 from rfl, Instr.sameBits]
  simp only [beq_self_eq_true, Bool.true_and]
  exact zOh hx hk.1 9999
 ·cases hk
theorem update_ok (h : RW φ B s w) {t : TypeId} {m x v : AV} {M' X V : Value} (hm : RV φ m M') (hx : RV φ x X) (hv : RV φ v V) : (updateA P t m x v s).wp fun r s' => r = .val undef ∧ ∃ w', (Instr.mapUpdate t M' X V).run P w = .ok () w' ∧ Stp φ B s w φ s' w' := by
 unfold updateA
 cases hu : P.underlying t with
 | none => exact zAa
 | some d =>
  cases d <;> first | exact zAa | skip
  rename_i kt e
  simp only
  cases hk : P.underlying kt with
  | none => exact zAa
  | some kd =>
   refine zAo (fun hko => ?_) (fun _ => zAa)
   split
   ·rename_i b
    cases hm with | mp he =>
    rename_i a
    refine zAe (zBo fun tt y hy => ?_)
    obtain ⟨a1, ha1, hrb, hBy⟩ := h.blk b tt y hy
    rw [he] at ha1; cases ha1
    cases y <;> first | exact zAa | skip
    rename_i es clock
    obtain ⟨res, r1, r2⟩ := hrb
    refine zAe (zFm fun q hq => ?_)
    obtain ⟨g1, g2⟩ := find_ok hx r2 0 q hq
    have hobj := zBl (P := P) r1 (by intros; simp)
    have hlt := (Array.getElem?_eq_some_iff.1 r1).1
    cases q with
    | none =>
     refine zAe (zEe fun t1 y1 hy1 f1 f2 hl1 => ?_)
     rw [hy] at hy1; cases hy1
     refine zAh ⟨rfl, { w with heap := w.heap.setIfInBounds a.blk (.map (res.push { key := X, val := V, born := clock }) (clock + 1)) }, ?_, zHa h hy f1 f2 hl1 he ⟨_, set_self hlt _, by simpa using r2.snoc hx hv clock⟩⟩
     simp only [Instr.mapUpdate, Sem.run_bind, zAf hu, Result.andThen_ok, Sem.run_pure, hobj, run_checkKey hk hko hx, run_findKey hk (g1 rfl)]
     exact zCm r1 (by intros; simp)
    | some p =>
     obtain ⟨j, v0⟩ := p
     obtain ⟨V0, k, n, p1, p2, p3, p4, p5, p6⟩ := g2 j v0 rfl
     simp only [Nat.sub_zero] at p4 p6
     refine zAe (zEe fun t1 y1 hy1 f1 f2 hl1 => ?_)
     rw [hy] at hy1; cases hy1
     refine zAh ⟨rfl, { w with heap := w.heap.setIfInBounds a.blk (.map (res.modify j fun e => { e with key := X, val := V }) clock) }, ?_, zHa h hy f1 f2 hl1 he ⟨_, set_self hlt _, ?_⟩⟩
     ·have hkey : ((res[j]?).map (·.key)).getD X = X := by
       have : (res.toList[j]?).map (·.key) = some X := p6
       simp only [Array.getElem?_toList] at this
       rw [this]; rfl
      have hks : (Instr.keyThatStays X X).run P w = .ok X w := by
       simp only [Instr.keyThatStays, keyEq_bits hko hx, if_true, Sem.run_pure]
      simp only [Instr.mapUpdate, Sem.run_bind, zAf hu, Result.andThen_ok, Sem.run_pure, hobj, run_checkKey hk hko hx, run_findKey hk p1, hkey, hks]
      exact zCm r1 (by intros; simp)
     ·rw [Array.toList_modify]
      exact r2.modify hv j (fun k' n' ⟨v1, e1⟩ => by rw [p4] at e1; cases e1; exact p5)
   ·exact zAa
omit [Facts] [zAc] in
theorem findIdx_list {α : Type} (R : Array α) (p : α → Bool) : R.findIdx? p = R.toList.findIdx? p := by
 first | exact Array.findIdx?_toList.symm | exact (Array.findIdx?_toList ..).symm | (cases R; exact List.findIdx?_toArray ..) | (cases R; simp)
theorem RM.reval {l : List (AV × AV × Nat)} {r : List MapEntry} (h : RM φ l r) {v : AV} {V : Value} (hv : RV φ v V) (i : Nat) : RM φ (l.modify i fun (k, _, n) => (k, v, n)) (r.modify i fun e => { e with val := V }) := by
 induction h generalizing i with
 | nil => cases i <;> exact .nil
 | cons a b hl ih =>
  cases i with
  | zero => simp only [List.modify_zero_cons]; exact .cons a hv hl
  | succ i => simp only [List.modify_succ_cons]; exact .cons a b (ih i)
theorem RM.rekey {l : List (AV × AV × Nat)} {r : List MapEntry} (h : RM φ l r) {X : Value} (i : Nat) (hk : ∀ k v n, l[i]? = some (k, v, n) → RV φ k X) : RM φ l (r.modify i fun e => { e with key := X }) := by
 induction h generalizing i with
 | nil => cases i <;> exact .nil
 | cons a b hl ih =>
  cases i with
  | zero => simp only [List.modify_zero_cons]; exact .cons (hk _ _ _ rfl) b hl
  | succ i => simp only [List.modify_succ_cons]; exact .cons a b (ih i (fun k v n e => hk k v n (by simpa using e)))
theorem RM.findIdx {l : List (AV × AV × Nat)} {r : List MapEntry} (h : RM φ l r) (n : Nat) : r.findIdx? (fun e => (e.born : Int) == (n : Int)) = l.findIdx? (fun e => Nat.beq e.2.2 n) := by
 induction h with
 | nil => rfl
 | cons a b hl ih =>
  rename_i k0 v0 n0 l0 x0 y0 es0
  simp only [List.findIdx?_cons, ih]
  have : (((n0 : Nat) : Int) == ((n : Nat) : Int)) = Nat.beq n0 n := by
   rw [nbeq, Bool.eq_iff_iff]
   simp only [beq_iff_eq, decide_eq_true_eq]
   omega
  rw [this]
theorem mapEntry_ok (h : RW φ B s w) {t : TypeId} {m x : AV} {M' X : Value} (hm : RV φ m M') (hx : RV φ x X) : (mapEntryA P t m x s).wp fun r s' => ∃ w' y, (Instr.mapEntry t M' X).run P w = .ok y w' ∧ RV φ r y ∧ Stp φ B s w φ s' w' := by
 unfold mapEntryA
 cases hu : P.underlying t with
 | none => exact zAa
 | some d =>
  cases d <;> first | exact zAa | skip
  rename_i kt e
  simp only
  cases hk : P.underlying kt with
  | none => exact zAa
  | some kd =>
   cases hz : zJm P e with
   | none => exact zAa
   | some z =>
    refine zAo (fun hko => ?_) (fun _ => zAa)
    split
    ·rename_i b
     cases hm with | mp he =>
     rename_i a
     refine zAe (zBo fun tt y hy => ?_)
     obtain ⟨a1, ha1, hrb, hBy⟩ := h.blk b tt y hy
     rw [he] at ha1; cases ha1
     cases y <;> first | exact zAa | skip
     rename_i es clock
     obtain ⟨res, r1, r2⟩ := hrb
     refine zAe (zFm fun q hq => ?_)
     obtain ⟨g1, g2⟩ := find_ok hx r2 0 q hq
     have hobj := zBl (P := P) r1 (by intros; simp)
     have hlt := (Array.getElem?_eq_some_iff.1 r1).1
     cases q with
     | none =>
      refine zAe (zEe fun t1 y1 hy1 f1 f2 hl1 => ?_)
      rw [hy] at hy1; cases hy1
      refine zAh ⟨{ w with heap := w.heap.setIfInBounds a.blk (.map (res.push { key := X, val := z, born := clock }) (clock + 1)) }, .tuple #[z, .int .i64 (clock : Nat)], ?_, .tup (.cons (RV.ofV z) (.cons (.val _) .nil)), zHa h hy f1 f2 hl1 he ⟨_, set_self hlt _, by simpa using r2.snoc hx (RV.ofV z) clock⟩⟩
      simp only [Instr.mapEntry, Sem.run_bind, zAf hu, Result.andThen_ok, Sem.run_pure, hobj, run_checkKey hk hko hx, run_findKey hk (g1 rfl), zFv hz]
      rw [zCm r1 (by intros; simp)]; rfl
     | some p =>
      obtain ⟨j, v0⟩ := p
      obtain ⟨V0, k, n, p1, p2, p3, p4, p5, p6⟩ := g2 j v0 rfl
      simp only [Nat.sub_zero] at p4 p6
      simp only [p4]
      obtain ⟨eq, e1, _, _, e4⟩ := r2.get p4
      have e1 : res[j]? = some eq := by simpa using e1
      refine zAe (zEe fun t1 y1 hy1 f1 f2 hl1 => ?_)
      rw [hy] at hy1; cases hy1
      refine zAh ⟨{ w with heap := w.heap.setIfInBounds a.blk (.map (res.modify j fun e => { e with key := X }) clock) }, .tuple #[V0, .int .i64 (n : Nat)], ?_, .tup (.cons p2 (.cons (.val _) .nil)), zHa h hy f1 f2 hl1 he ⟨_, set_self hlt _, ?_⟩⟩
      ·have hkey : ((res[j]?).map (·.key)).getD X = X := by
        have : (res.toList[j]?).map (·.key) = some X := p6
        simp only [Array.getElem?_toList] at this
        rw [this]; rfl
       have hks : (Instr.keyThatStays X X).run P w = .ok X w := by
        simp only [Instr.keyThatStays, keyEq_bits hko hx, if_true, Sem.run_pure]
       have hb : ((res[j]?).map (fun x => (x.born : Int))).getD 0 = (n : Int) := by
        rw [e1]
        show ((eq.born : Nat) : Int) = n
        rw [e4]
       simp only [Instr.mapEntry, Sem.run_bind, zAf hu, Result.andThen_ok, Sem.run_pure, hobj, run_checkKey hk hko hx, run_findKey hk p1, hkey, hks, hb]
       rw [zCm r1 (by intros; simp)]; rfl
      ·rw [Array.toList_modify]
       exact r2.rekey j (fun k' v' n' e1 => by rw [p4] at e1; cases e1; exact p5)
    ·exact zAa
theorem entryStore_ok (h : RW φ B s w) {t : TypeId} {m st v : AV} {M' S V : Value} (hm : RV φ m M') (hs : RV φ st S) (hv : RV φ v V) : (entryStoreA m st v s).wp fun r s' => r = .val undef ∧ ∃ w', (Instr.entryStore t M' S V).run P w = .ok () w' ∧ Stp φ B s w φ s' w' := by
 unfold entryStoreA
 split
 ·rename_i b n
  cases hm with | mp he =>
  rename_i a
  cases hs
  refine zAe (zBo fun tt y hy => ?_)
  obtain ⟨a1, ha1, hrb, hBy⟩ := h.blk b tt y hy
  rw [he] at ha1; cases ha1
  cases y <;> first | exact zAa | skip
  rename_i es clock
  obtain ⟨res, r1, r2⟩ := hrb
  have hobj := zBl (P := P) r1 (by intros; simp)
  have hlt := (Array.getElem?_eq_some_iff.1 r1).1
  have hfi : res.findIdx? (fun e => (e.born : Int) == (n : Int)) = es.findIdx? (fun e => Nat.beq e.2.2 n) := by
   rw [← r2.findIdx n]; exact findIdx_list _ _
  dsimp only
  cases hi : es.findIdx? (fun e => Nat.beq e.2.2 n) with
  | none => exact zAa
  | some i =>
   dsimp only
   rw [hi] at hfi
   refine zAe (zEe fun t1 y1 hy1 f1 f2 hl1 => ?_)
   rw [hy] at hy1; cases hy1
   refine zAh ⟨rfl, { w with heap := w.heap.setIfInBounds a.blk (.map (res.modify i fun e => { e with val := V }) clock) }, ?_, zHa h hy f1 f2 hl1 he ⟨_, set_self hlt _, ?_⟩⟩
   ·have hfi : res.findIdx? (fun e => (e.born : Int) == Int.ofNat n) = some i := hfi
    simp only [Instr.entryStore, Sem.run_bind, Result.andThen_ok, Sem.run_pure, hobj, asInt, asIntOf, hfi]
    exact zCm r1 (by intros; simp)
   ·rw [Array.toList_modify]
    exact r2.reval hv i
 ·exact zAa
theorem delete_ok (h : RW φ B s w) {t : TypeId} {ts : Array TypeId} {as : Array Value} {ty : TypeId} {m x : AV} {M' X : Value} (h1 : ts[0]? = some t) (h3 : as[0]? = some M') (h4 : as[1]? = some X) (hm : RV φ m M') (hx : RV φ x X) :
  (deleteA P t m x s).wp fun r s' => ∃ w' y, (Builtin.delete_ ts ty as).run P w = .ok y w' ∧ RV φ r y ∧ Stp φ B s w φ s' w' := by
 unfold deleteA
 cases hu : P.underlying t with
 | none => exact zAa
 | some d =>
  cases d <;> first | exact zAa | skip
  rename_i kt e
  simp only
  cases hk : P.underlying kt with
  | none => exact zAa
  | some kd =>
   refine zAo (fun hko => ?_) (fun _ => zAa)
   split
   ·cases hm
    refine zAh ⟨w, .tuple #[], ?_, .tup .nil, Stp.refl h⟩
    simp only [Builtin.delete_, h1, h3, h4, Sem.run_bind, zAf hu, Result.andThen_ok, run_checkKey hk hko hx, Sem.run_pure]
   ·rename_i b
    cases hm with | mp he =>
    rename_i a
    refine zAe (zBo fun tt y hy => ?_)
    obtain ⟨a1, ha1, hrb, hBy⟩ := h.blk b tt y hy
    rw [he] at ha1; cases ha1
    cases y <;> first | exact zAa | skip
    rename_i es clock
    obtain ⟨res, r1, r2⟩ := hrb
    refine zAe (zFm fun q hq => ?_)
    obtain ⟨g1, g2⟩ := find_ok hx r2 0 q hq
    have hobj := zBl (P := P) r1 (by intros; simp)
    have hlt := (Array.getElem?_eq_some_iff.1 r1).1
    cases q with
    | none =>
     refine zAe (zEe fun t1 y1 hy1 f1 f2 hl1 => ?_)
     rw [hy] at hy1; cases hy1
     refine zAh ⟨{ w with heap := w.heap.setIfInBounds a.blk (.map res clock) }, .tuple #[], ?_, .tup .nil, zHa h hy f1 f2 hl1 he ⟨_, set_self hlt _, r2⟩⟩
     simp only [Builtin.delete_, h1, h3, h4, Sem.run_bind, zAf hu, Result.andThen_ok, Sem.run_pure, hobj, run_checkKey hk hko hx, run_findKey hk (g1 rfl)]
     rw [zCm r1 (by intros; simp)]; rfl
    | some p =>
     obtain ⟨j, v0⟩ := p
     obtain ⟨V0, k, n, p1, p2, p3, p4, p5, p6⟩ := g2 j v0 rfl
     refine zAe (zEe fun t1 y1 hy1 f1 f2 hl1 => ?_)
     rw [hy] at hy1; cases hy1
     refine zAh ⟨{ w with heap := w.heap.setIfInBounds a.blk (.map (res.eraseIdxIfInBounds j) clock) }, .tuple #[], ?_, .tup .nil, zHa h hy f1 f2 hl1 he ⟨_, set_self hlt _, ?_⟩⟩
     ·simp only [Builtin.delete_, h1, h3, h4, Sem.run_bind, zAf hu, Result.andThen_ok, Sem.run_pure, hobj, run_checkKey hk hko hx, run_findKey hk p1]
      rw [zCm r1 (by intros; simp)]; rfl
     ·have : (res.eraseIdxIfInBounds j).toList = res.toList.eraseIdx j := by simp
      rw [this]; exact r2.erase j
   ·exact zAa
end
end
end Go.Abs
namespace Go.Abs
noncomputable section
variable [Facts] [zAc]
section
variable {P : Program} {φ ψ : Phi} {B N : Nat} {s s' : HS} {w w' : World} {ev : Operand → Option AV} {ρ : Operand → Value}
theorem all_born {l : List (AV × AV × Nat)} {r : List MapEntry} (h : RM φ l r) {p : Nat → Bool} (ha : l.all (fun e => p e.2.2) = true) : r.all (fun e => p e.born) = true := by
 induction h with
 | nil => rfl
 | cons a b hl ih =>
  simp only [List.all_cons, Bool.and_eq_true] at ha ⊢
  exact ⟨ha.1, ih ha.2⟩
omit [Facts] [zAc] in
theorem filter_all {α : Type} {l : List α} {p : α → Bool} (h : l.all p = true) : l.filter p = l := by
 rw [List.filter_eq_self]; simpa using h
omit [Facts] [zAc] in
theorem run_next_map {ty : TypeId} {blk mb since : Nat} {seen : Array Nat} {res : Array MapEntry} (hi : w.heap[blk]? = some (.mapIter (some mb) since seen since)) (hm : w.heap[mb]? = some (.map res since)) (hb : res.toList.all (fun e => decide (e.born < since)) = true)
  {left : List MapEntry} (hl : left = res.toList.filter fun e => !seen.contains e.born) :
  (left = [] → (Instr.next (.pointer (some ⟨blk, 0, none⟩)) false ty).run P w = .ok (.tuple #[.bool false]) w) ∧
  (left ≠ [] → ∃ (i : Nat) (w1 : World), i < left.length ∧ w1.os = w.os ∧ w1.tape = w.tape ∧ w1.output = w.output ∧ w1.heap = w.heap ∧ ∀ e, left[i]? = some e →
   (Instr.next (.pointer (some ⟨blk, 0, none⟩)) false ty).run P w = .ok (.tuple #[.bool true, e.key, e.val]) { w1 with heap := w1.heap.setIfInBounds blk (.mapIter (some mb) since (seen.push e.born) since) }) := by
 have g1 := zBl (P := P) hi (by intros; simp)
 have g2 := zBl (P := P) hm (by intros; simp)
 have hnb : res.isEmpty = false → (res.all fun e => decide (e.born ≥ since)) = false := by
  intro hne
  cases hr : res.all (fun e => decide (e.born ≥ since)) with
  | false => rfl
  | true =>
   have hpos : 0 < res.size := by
    rcases Nat.eq_zero_or_pos res.size with h0 | h0
    ·have : res = #[] := Array.eq_empty_of_size_eq_zero h0
     rw [this] at hne; simp at hne
    ·exact h0
   have h1 := (Array.all_eq_true.1 hr) 0 hpos
   have h2 : ∀ e ∈ res.toList, e.born < since := fun e he => by have := (List.all_eq_true.1 hb) e he; exact of_decide_eq_true this
   have h3 := h2 res[0] (by simp)
   simp at h1; omega
 have hguard : (!seen.isEmpty && !res.isEmpty && res.all (fun e => decide (e.born ≥ since))) = false := by
  cases he : res.isEmpty with
  | true => simp
  | false => rw [hnb he]; simp
 have hlt : ∀ e ∈ res.toList, e.born < since := fun e he => by have := (List.all_eq_true.1 hb) e he; exact of_decide_eq_true this
 have e0 : (res.filter fun e => !seen.contains e.born) = left.toArray := by
  rw [hl]; apply Array.ext'; simp
 have e1 : (left.toArray.filter fun e => decide (e.born < since)) = left.toArray := by
  have : left.all (fun e => decide (e.born < since)) = true := by
   rw [hl]; simp only [List.all_eq_true, List.mem_filter, decide_eq_true_eq]
   exact fun e he => hlt e he.1
  apply Array.ext'; simp only [Array.toList_filter, List.toList_toArray]; exact filter_all this
 have e2 : (left.toArray.filter fun e => decide (e.born ≥ since)) = #[] := by
  apply Array.ext'
  simp only [Array.toList_filter, List.toList_toArray, List.filter_eq_nil_iff]
  intro e he
  rw [hl] at he
  have := hlt e (List.mem_filter.1 he).1
  simp; omega
 constructor
 ·intro hnil
  have e0' : (res.filter fun e => !seen.contains e.born) = #[] := by rw [e0, hnil]
  simp only [Instr.next, Sem.run_bind, g1, Result.andThen_ok, g2, hguard, Bool.false_eq_true, if_false, e0', Sem.run_pure]
  simp [run_choose, Question.forced]
 ·intro hne
  have hpos : 0 < left.length := by cases left with | nil => exact (hne rfl).elim | cons _ _ => simp
  have hie : left.toArray.isEmpty = false := by cases left with | nil => exact (hne rfl).elim | cons _ _ => rfl
  have hcand : ((if left.toArray.isEmpty = true then #[none] else #[]) ++ (left.toArray ++ #[]).map some : Array (Option MapEntry)) = (left.map some).toArray := by
   rw [hie]; simp
  by_cases h1 : left.length ≤ 1
  ·refine ⟨0, w, hpos, rfl, rfl, rfl, rfl, fun e he => ?_⟩
   simp only [Instr.next, Sem.run_bind, g1, Result.andThen_ok, g2, hguard, Bool.false_eq_true, if_false, e0, e1, e2, Sem.run_pure, hcand]
   have hf : (Question.mapNext (left.map some).toArray.size).forced = true := by simp [Question.forced, h1]
   rw [run_choose, hf]
   simp only [if_true, Result.andThen_ok]
   have : (left.map some).toArray[0]? = some (some e) := by simp [he]
   rw [this]
   simp only [Sem.run_bind, zCm hi (by intros; simp), Result.andThen_ok, Sem.run_pure]
  ·refine ⟨(w.tape w.drawn (.mapNext (left.map some).toArray.size)) % (left.map some).toArray.size, { w with drawn := w.drawn + 1 }, by have := Nat.mod_lt (w.tape w.drawn (.mapNext (left.map some).toArray.size)) (show 0 < (left.map some).toArray.size by simpa using hpos); simpa using this, rfl, rfl, rfl, rfl, fun e he => ?_⟩
   simp only [Instr.next, Sem.run_bind, g1, Result.andThen_ok, g2, hguard, Bool.false_eq_true, if_false, e0, e1, e2, Sem.run_pure, hcand]
   have hf : (Question.mapNext (left.map some).toArray.size).forced = false := by simp [Question.forced]; omega
   rw [run_choose, hf]
   simp only [Bool.false_eq_true, if_false, Result.andThen_ok, Question.cut]
   have : (left.map some).toArray[w.tape w.drawn (Question.mapNext (left.map some).toArray.size) % (left.map some).toArray.size]? = some (some e) := by
    simp only [List.getElem?_toArray, List.getElem?_map, he, Option.map_some]
   rw [this]
   simp only [Sem.run_bind, Result.andThen_ok, Sem.run_pure]
   rw [zCm (w := { w with drawn := w.drawn + 1 }) hi (by intros; simp)]
   rfl
omit [Facts] [zAc] in
theorem wp_choice {n : Nat} {s : HS} {Q : Nat → HS → Prop} (i : Nat) (hi : i < n) (h : Q i s) : (choice n s).wp Q := .inr ⟨i, hi, h⟩
set_option maxHeartbeats 1000000 in
theorem RM.find {l : List (AV × AV × Nat)} {r : List MapEntry} (h : RM φ l r) (n : Nat) {e : AV × AV × Nat} (hf : l.find? (fun e => Nat.beq e.2.2 n) = some e) : ∃ q, r.find? (fun q => q.born == n) = some q ∧ RV φ e.1 q.key ∧ RV φ e.2.1 q.val := by
 induction h with
 | nil => simp at hf
 | @cons k v m l x y es a b hl ih =>
  simp only [List.find?_cons] at hf ⊢
  cases hb : Nat.beq m n with
  | true =>
   have hm := Nat.eq_of_beq_eq_true hb
   rw [hb] at hf
   cases hf
   have : (m == n) = true := by simp [hm]
   rw [this]
   exact ⟨_, rfl, a, b⟩
  | false =>
   rw [hb] at hf
   have : (m == n) = false := by
    have : m ≠ n := fun e => by subst e; rw [Nat.beq_refl] at hb; cases hb
    simpa using this
   rw [this]
   exact ih hf
theorem entry_ok (h : RW φ B s w) {x : AV} {X : Value} (hx : RV φ x X) : (entryA x s).wp fun v s' => s' = s ∧ ∃ y, (Instr.entry X).run P w = .ok y w ∧ RV φ v y := by
 unfold entryA
 split
 ·rename_i id
  cases hx with | ptr he =>
  rename_i a
  refine zAe (zBo fun tt y hy => ?_)
  obtain ⟨a1, ha1, hrb, hBy⟩ := h.blk id tt y hy
  rw [he] at ha1; cases ha1
  cases y <;> first | exact zAa | skip
  rename_i m since seen st
  obtain ⟨h0, m', hrb, hm'⟩ := hrb
  cases m with
  | none => exact zAa
  | some m =>
   obtain ⟨am, ham, rfl⟩ := hm'
   have hobj := zBl (P := P) hrb (by intros; simp)
   dsimp only
   cases hs : seen.getLast? with
   | none => exact zAa
   | some stamp =>
    dsimp only
    refine zAe (zBo fun t2 y2 hy2 => ?_)
    obtain ⟨a2, ha2, hrb2, hBy2⟩ := h.blk m t2 y2 hy2
    rw [ham] at ha2; cases ha2
    cases y2 <;> first | exact zAa | skip
    rename_i es clock
    obtain ⟨res, r1, r2⟩ := hrb2
    have hobj2 := zBl (P := P) r1 (by intros; simp)
    refine zAo (fun hc => ?_) (fun _ => zAa)
    have hc := Nat.eq_of_beq_eq_true hc
    cases hf : es.find? (fun e => Nat.beq e.2.2 stamp) with
    | none => exact zAa
    | some e =>
     obtain ⟨q, q1, q2, q3⟩ := r2.find stamp hf
     refine zAh ⟨rfl, .tuple #[q.key, q.val], ?_, .tup (.cons q2 (.cons q3 .nil))⟩
     have hb : seen.toArray.back? = some stamp := by rw [← hs]; simp [Array.back?, List.getLast?_eq_getElem?]
     have hq : res.find? (fun q => q.born == stamp) = some q := by rw [← Array.find?_toList]; exact q1
     subst hc
     simp only [Instr.entry, h0, Nat.add_zero, Sem.run_bind, hobj, hobj2, Result.andThen_ok, hb, hq, Sem.run_pure, bne_self_eq_false, Bool.false_eq_true, if_false]
 ·exact zAa
theorem next_ok (h : RW φ B s w) {x : AV} {X : Value} (hx : RV φ x X) (b : Bool) (ty : TypeId) : (nextA x b s).wp fun v s' => ∃ w' y, (Instr.next X b ty).run P w = .ok y w' ∧ RV φ v y ∧ Stp φ B s w φ s' w' := by
 unfold nextA
 split
 ·rename_i id
  cases hx with | ptr he =>
  rename_i a
  refine zAe (zBo fun tt y hy => ?_)
  obtain ⟨a1, ha1, hrb, hBy⟩ := h.blk id tt y hy
  rw [he] at ha1; cases ha1
  split
  ·-- a string's
   rename_i t pos
   obtain ⟨h0, hrb⟩ := hrb
   have hobj := zBl (P := P) hrb (by intros; simp)
   have hlt := (Array.getElem?_eq_some_iff.1 hrb).1
   refine zAo (fun hb => zAo (fun hp => ?_) (fun hp => ?_)) (fun _ => zAa)
   ·subst hb
    have hp : pos < t.size := Nat.le_of_ble_eq_true hp
    refine zAe (zEe fun t1 y1 hy1 f1 f2 hl1 => ?_)
    rw [hy] at hy1; cases hy1
    refine zAh ⟨{ w with heap := w.heap.setIfInBounds a.blk (.stringIter t (pos + (Utf8.decode t pos).2)) }, .tuple #[.bool true, goInt pos, .int .i32 (Utf8.decode t pos).1], ?_, .tup (.cons (.val _) (.cons (.val _) (.cons (.val _) .nil))), zHa h hy f1 f2 hl1 he ⟨h0, set_self hlt _⟩⟩
    simp only [Instr.next, h0, Nat.add_zero, Sem.run_bind, hobj, Result.andThen_ok, if_pos hp, zCm hrb (by intros; simp), Sem.run_pure]
   ·subst hb
    have hp : ¬ pos < t.size := fun hlt => by have : Nat.blt pos t.size = true := Nat.ble_eq_true_of_le hlt
                                              rw [this] at hp; cases hp
    refine zAe (zKb fun t1 y1 hy1 f1 hl1 => ?_)
    rw [hy] at hy1; cases hy1
    refine zAh ⟨w, .tuple #[.bool false], ?_, .tup (.cons (.val _) .nil), zJb h hy f1 hl1⟩
    simp only [Instr.next, h0, Nat.add_zero, Sem.run_bind, hobj, Result.andThen_ok, if_neg hp, Sem.run_pure]
  ·obtain ⟨h0, m', hrb, hm'⟩ := hrb
   subst hm'
   have hobj := zBl (P := P) hrb (by intros; simp)
   refine zAo (fun _ => zAa) (fun hb => ?_)
   subst hb
   refine zAe (zKb fun t1 y1 hy1 f1 hl1 => ?_)
   rw [hy] at hy1; cases hy1
   refine zAh ⟨w, .tuple #[.bool false], ?_, .tup (.cons (.val _) .nil), zJb h hy f1 hl1⟩
   simp only [Instr.next, h0, Nat.add_zero, Sem.run_bind, hobj, Result.andThen_ok, Sem.run_pure]
  ·rename_i m since seen last
   obtain ⟨h0, m', hrb, am, ham, hm'⟩ := hrb
   subst hm'
   have hltI := (Array.getElem?_eq_some_iff.1 hrb).1
   refine zAo (fun _ => zAa) (fun hb => ?_)
   subst hb
   refine zAe (zBo fun tt2 y2 hy2 => ?_)
   obtain ⟨a2, ha2, hrb2, hBy2⟩ := h.blk m tt2 y2 hy2
   rw [ham] at ha2; cases ha2
   cases y2 <;> first | exact zAa | skip
   rename_i es clock
   obtain ⟨res, r1, r2⟩ := hrb2
   refine zAo (fun hc => ?_) (fun _ => zAa)
   simp only [Bool.and_eq_true] at hc
   have c1 := Nat.eq_of_beq_eq_true hc.1.1
   have c2 := Nat.eq_of_beq_eq_true hc.1.2
   subst c1
   subst c2
   have hborn : res.toList.all (fun e => decide (e.born < clock)) = true := by
    have := all_born r2 (p := fun n => Nat.blt n clock) hc.2
    rw [List.all_eq_true] at this ⊢
    exact fun e he => by have := this e he; exact decide_eq_true (Nat.le_of_ble_eq_true this)
   have hfil : RM φ (es.filter fun e => !(seen.contains e.2.2)) (res.toList.filter fun e => !(seen.toArray.contains e.born)) := by
    have := r2.filter (fun n => !(seen.contains n))
    simpa using this
   obtain ⟨q1, q2⟩ := run_next_map (P := P) (ty := ty) hrb r1 hborn (left := res.toList.filter fun e => !(seen.toArray.contains e.born)) rfl
   generalize (res.toList.filter fun e => !(seen.toArray.contains e.born)) = left at *
   generalize (es.filter fun e => !(seen.contains e.2.2)) = al at *
   have hlen := hfil.length
   have hptr : (⟨a.blk, a.off + 0, none⟩ : Addr) = ⟨a.blk, 0, none⟩ := by rw [h0]
   rw [hptr]
   have fin : ∀ (i : Nat) (e : AV × AV × Nat) (w1 : World) (t1 : Nat) (y1 : Blk) (hy1 : s.h.get id = some (t1, y1)) (f1 : y1.fixed = false) (f2 : (Blk.miter (some m) clock (seen ++ [e.2.2]) clock).fixed = false) (hl1 : s.lim ≤ id), al[i]? = some e → w1.os = w.os → w1.tape = w.tape → w1.output = w.output → w1.heap = w.heap →
     (∀ q, left[i]? = some q → (Instr.next (.pointer (some ⟨a.blk, 0, none⟩)) false ty).run P w = .ok (.tuple #[.bool true, q.key, q.val]) { w1 with heap := w1.heap.setIfInBounds a.blk (.mapIter (some am.blk) clock (seen.toArray.push q.born) clock) }) →
     ∃ w' y, (Instr.next (.pointer (some ⟨a.blk, 0, none⟩)) false ty).run P w = .ok y w' ∧ RV φ (.tup [.val (.bool true), e.1, e.2.1]) y ∧ Stp φ B s w φ { s with h := s.h.set id (s.clk + 1, Blk.miter (some m) clock (seen ++ [e.2.2]) clock), clk := s.clk + 1 } w' := by
    intro i e w1 t1 y1 hy1 f1 f2 hl1 hi e1 e2 e3 e4 hq
    obtain ⟨q, g1, g2, g3, g4⟩ := hfil.get hi
    refine ⟨_, _, hq q g1, .tup (.cons (.val _) (.cons g2 (.cons g3 .nil))), ?_⟩
    refine zNn h hy1 f1 f2 hl1 he ⟨h0, some am.blk, ?_, am, ham, rfl⟩ e1 e2 e3 (by simp [e4]) (fun r hr => ?_)
    ·rw [set_self (w := w1) (by rw [e4]; exact hltI)]
     rw [g4]; simp
    ·rw [zPa w1 a.blk r _ hr, e4]
   split
   ·-- none is left
    have hl0 : left = [] := by cases left with | nil => rfl | cons _ _ => cases hlen
    refine zAe (zKb fun t1 y1 hy1 f1 hl1 => ?_)
    refine zAh ⟨w, .tuple #[.bool false], q1 hl0, .tup (.cons (.val _) .nil), zJb h hy1 f1 hl1⟩
   ·rename_i e
    have hne : left ≠ [] := fun e => by rw [e] at hlen; cases hlen
    obtain ⟨i, w1, hi, e1, e2, e3, e4, hq⟩ := q2 hne
    have hi0 : i = 0 := by simp at hlen; omega
    subst hi0
    refine zAe (zEe fun t1 y1 hy1 f1 f2 hl1 => ?_)
    exact zAh (fin 0 e w1 t1 y1 hy1 f1 f2 hl1 (by simp) e1 e2 e3 e4 hq)
   ·rename_i p0 p1 r
    have hne : left ≠ [] := fun e => by rw [e] at hlen; cases hlen
    obtain ⟨i, w1, hi, e1, e2, e3, e4, hq⟩ := q2 hne
    refine zAe (wp_choice i (by simp at hlen; omega) ?_)
    cases hei : (p0 :: p1 :: r)[i]? with
    | none => exact zAa
    | some e =>
     refine zAe (zEe fun t1 y1 hy1 f1 f2 hl1 => ?_)
     exact zAh (fin i e w1 t1 y1 hy1 f1 f2 hl1 hei e1 e2 e3 e4 hq)
  ·exact zAa
 ·exact zAa
theorem HP.of_skip {run : Result Next} {v : AV} (hv : v = .val undef) (h : ∃ w', run = .ok .skip w' ∧ Stp φ B s w φ s' w') : HP P φ B N s w run v s' := fun _ => by
 obtain ⟨w', e, hs⟩ := h
 subst hv
 exact ⟨φ, w', undef, .inr ⟨e, rfl⟩, .val _, hs⟩
theorem box_ok (h : RW φ B s w) (hB : B ≤ w.heap.size) (hf : zEj φ s.n N) {l : List AV} {xs : Array Value} (hl : RL φ l xs.toList) (el : TypeId) {run : Result Next} (hr : run = .ok (.value (.pointer (some ⟨w.heap.size, 0, none⟩))) { w with heap := w.heap.push (.cells xs el) }) :
  ((newCells l none >>= fun b => M.pure (.ptr b 0)) s).wp fun v s' => HP P φ B N s w run v s' := by
 refine zAe (R.wp_mono ?_ (zIw h hB l none))
 rintro b s'' ⟨rfl, hn', hstp⟩
 refine zAh fun hN => ?_
 have := hstp (hf _ (Nat.le_refl _) (by omega)) xs.toList el #[] 0 w hl (fun z hz => by cases hz) rfl rfl rfl rfl
 exact ⟨φ.put s.n ⟨w.heap.size, 0, 0⟩, _, _, .inl hr, RV.ptr (a := ⟨w.heap.size, 0, 0⟩) (Phi.put_self _ _ _), by simpa using this⟩
theorem row_ok (h : RW φ B s w) (hB : B ≤ w.heap.size) (hf : zEj φ s.n N) {l : List AV} {xs : Array Value} (hl : RL φ l xs.toList) (el : TypeId) {z n c : Nat} (hnc : n ≤ c) {run : Result Next} (hr : run = .ok (.value (.slice (some ⟨w.heap.size, 0, none⟩) n c)) { w with heap := w.heap.push (.cells xs el) }) :
  ((newCells l none >>= fun b => M.pure (.sl b 0 z n (some c))) s).wp fun v s' => HP P φ B N s w run v s' := by
 refine zAe (R.wp_mono ?_ (zIw h hB l none))
 rintro b s'' ⟨rfl, hn', hstp⟩
 refine zAh fun hN => ?_
 have := hstp (hf _ (Nat.le_refl _) (by omega)) xs.toList el #[] 0 w hl (fun z hz => by cases hz) rfl rfl rfl rfl
 exact ⟨φ.put s.n ⟨w.heap.size, 0, 0⟩, _, _, .inl hr, RV.sl (a := ⟨w.heap.size, 0, 0⟩) (Phi.put_self _ _ _) rfl hnc (fun _ => rfl), by simpa using this⟩
theorem zIg {cap : Nat} (h : RW φ B s w) (hB : B ≤ w.heap.size) (hf : zEj φ s.n N) {x : Blk} {o : Obj} (hx : ∀ ψ : Phi, φ.le ψ → RB ψ { w with heap := w.heap.push o } ⟨w.heap.size, 0, cap⟩ x) {run : Result Next} {V : Value} {k : Nat → AV} (hk : ∀ ψ : Phi, ψ s.n = some ⟨w.heap.size, 0, cap⟩ → RV ψ (k s.n) V) (hr : run = .ok (.value V) { w with heap := w.heap.push o }) :
  ((newB x >>= fun b => M.pure (k b)) s).wp fun v s' => HP P φ B N s w run v s' := by
 refine zAe (zHy fun hfx => zAh fun hN => ?_)
 have hfn := hf s.n (Nat.le_refl _) (by simp only at hN; omega)
 exact ⟨_, _, _, .inl hr, hk _ (Phi.put_self _ _ _), zIv (cap := cap) (w' := { w with heap := w.heap.push o }) h hB hfn hfx rfl rfl rfl (by simp) (fun r hr => zGz w o r hr) (hx _ (Phi.le_put hfn _))⟩
end
end
end Go.Abs
namespace Go.Abs
noncomputable section
variable [Facts] [zAc]
section
variable {P : Program} {φ ψ : Phi} {B N : Nat} {s s' : HS} {w w' : World} {ev : Operand → Option AV} {ρ : Operand → Value}
theorem HP.of_value {run : Result Next} {v : AV} {y : Value} (h : RW φ B s w) (hr : run = .ok (.value y) w) (hv : RV φ v y) : HP P φ B N s w run v s := fun _ => ⟨φ, w, y, .inl hr, hv, Stp.refl h⟩
omit [Facts] [zAc] in
theorem wrap_small {n : Nat} (h : n ≤ 65536) : IntKind.i64.wrap (n : Int) = n := IntWalk.i64_in _ ⟨by omega, by omega⟩
theorem opt_two {c : Array Operand} {x y : AV} (hev : EV φ ev ρ) (h : zCi ev c.toList = some [x, y]) : ∃ X Y, (c.map ρ)[0]? = some X ∧ (c.map ρ)[1]? = some Y ∧ RV φ x X ∧ RV φ y Y := by
 have := zEl hev h
 have e : (c.map ρ).toList = c.toList.map ρ := by simp
 rw [← e] at this
 obtain ⟨X, h1, h2⟩ := this.get (i := 0) (v := x) rfl
 obtain ⟨Y, h3, h4⟩ := this.get (i := 1) (v := y) rfl
 exact ⟨X, Y, by simpa using h1, by simpa using h3, h2, h4⟩
theorem cells_there (h : RW φ B s w) (b : Nat) : (cellsThere b s).wp fun _ s' => s' = s ∧ ∃ t c n g, s.h.get b = some (t, .cells c n g) := by
 unfold cellsThere
 refine zAe (zBo fun t y hy => ?_)
 cases y <;> first | exact zAa | skip
 exact zAh ⟨rfl, t, _, _, _, hy⟩
omit [Facts] [zAc] in
theorem ptr_same (d : Nat) {t e : TypeId} {m b a o o' : Nat} (hu : P.underlying t = some (.pointer e)) (hs : szO P e = some (m + 1)) :
  (Op.equalIn (d + 1) t (.pointer (some ⟨b, a + o, none⟩)) (.pointer (some ⟨b, a + o', none⟩))).run P w = .ok (Nat.beq o o') w := by
 simp only [Op.equalIn, Sem.run_bind, zAf hu, Result.andThen_ok, zAt hs]
 have : (o == o') = Nat.beq o o' := by rw [nbeq]; rfl
 simp [sameAddr, addr_beq, this]
omit [Facts] [zAc] in
theorem ptr_diff (d : Nat) {t e : TypeId} {m b b' o o' : Nat} (hu : P.underlying t = some (.pointer e)) (hs : szO P e = some (m + 1)) (hne : b ≠ b') {arr1 arr2 : Array Value} {el1 el2 : TypeId}
  (k1 : w.heap[b]? = some (.cells arr1 el1 (0, 0))) (k2 : w.heap[b']? = some (.cells arr2 el2 (0, 0))) :
  (Op.equalIn (d + 1) t (.pointer (some ⟨b, o, none⟩)) (.pointer (some ⟨b', o', none⟩))).run P w = .ok false w := by
 simp only [Op.equalIn, Sem.run_bind, zAf hu, Result.andThen_ok, zAt hs]
 have hb1 : (b == b') = false := by simpa using hne
 have f1 : ∀ o, w.frozen? ⟨b, o, none⟩ = false := fun o => by simp [World.frozen?, k1]
 have f2 : ∀ o, w.frozen? ⟨b', o, none⟩ = false := fun o => by simp [World.frozen?, k2]
 have s1 : w.shape? b = some (el1, arr1.size) := by simp [World.shape?, k1]
 have s2 : w.shape? b' = some (el2, arr2.size) := by simp [World.shape?, k2]
 simp [sameAddr, hb1, f1, f2, s1, s2, noView, viewAt, mayBeOne, stringish]
theorem same_ok (h : RW φ B s w) {t : TypeId} {b o b' o' : Nat} {X Y : Value} (hx : RV φ (.ptr b o) X) (hy : RV φ (.ptr b' o') Y) : (ptrSame P t b o b' o' s).wp fun r s' => s' = s ∧ (Op.equalIn 10000 t X Y).run P w = .ok r w := by
 unfold ptrSame
 cases hu : P.underlying t with
 | none => exact zAa
 | some d =>
  cases d <;> first | exact zAa | skip
  rename_i e
  simp only
  cases hs : szO P e with
  | none => exact zAa
  | some k =>
   cases k with
   | zero => exact zAa
   | succ m =>
    cases hx with | ptr qx =>
    cases hy with | ptr qy =>
    rename_i ax ay
    refine zAo (fun hb => ?_) (fun hb => ?_)
    ·have hb := Nat.eq_of_beq_eq_true hb
     subst hb
     rw [qx] at qy; cases qy
     exact zAh ⟨rfl, ptr_same 9999 hu hs⟩
    ·have hne : b ≠ b' := fun e => by rw [e, Nat.beq_refl] at hb; cases hb
     refine zAe (R.wp_mono ?_ (cells_there h b))
     rintro _ s' ⟨rfl, t1, c1, n1, g1, h1⟩
     refine zAe (R.wp_mono ?_ (cells_there h b'))
     rintro _ s'' ⟨rfl, t2, c2, n2, g2, h2⟩
     refine zAh ⟨rfl, ?_⟩
     obtain ⟨a1, p1, r1, _⟩ := h.blk _ _ _ h1
     obtain ⟨a2, p2, r2, _⟩ := h.blk _ _ _ h2
     rw [qx] at p1; cases p1
     rw [qy] at p2; cases p2
     have hne := h.inj _ _ _ _ _ _ _ _ h1 h2 rfl hne qx qy
     obtain ⟨arr1, el1, k1, _⟩ := r1
     obtain ⟨arr2, el2, k2, _⟩ := r2
     exact ptr_diff 9999 hu hs hne k1 k2
theorem binH_ok (h : RW φ B s w) {op : BinOp} {t : TypeId} {a b : AV} {x y : Operand} (hx : RV φ a (ρ x)) (hy : RV φ b (ρ y)) {dst : Option Tmp} {yt ty : TypeId} {pos : String} {after : Array Edge} {guard : Option (Nat × Bool)} :
  (binH P op t a b s).wp fun v s' => HP P φ B N s w ((execOp ρ ⟨dst, .binOp op t x y yt, ty, pos, after, guard⟩).run P w) v s' := by
 have plain : ∀ v, binA P op t a b = some v → HP P φ B N s w ((execOp ρ ⟨dst, .binOp op t x y yt, ty, pos, after, guard⟩).run P w) v s := by
  intro v hv
  obtain ⟨g, z, h1, h2⟩ := bin_ok (P := P) (w := w) hx hy hv x y
  exact HP.of_value h (by simp only [execOp, Sem.run_bind, g, Result.andThen_ok, h1, Sem.run_pure]) h2
 unfold binH
 split
 ·split
  ·rename_i b1 o1 _ b2 o2
   have guard' : (eqGuard op t x y (ρ x) (ρ y)).run P w = .ok () w := by
    generalize ρ x = X at *
    generalize ρ y = Y at *
    cases hx; cases hy
    exact zCy (fun _ _ e => by cases e) (fun e => by cases e)
   have eqlRun : ∀ {r : Bool}, (Op.equalIn 10000 t (ρ x) (ρ y)).run P w = .ok r w → (binOp .eql t (ρ x) (ρ y)).run P w = .ok (.bool r) w ∧ (binOp .neq t (ρ x) (ρ y)).run P w = .ok (.bool (!r)) w := by
    intro r he
    generalize ρ x = X at *
    generalize ρ y = Y at *
    cases hx; cases hy
    exact binOp_eql he (fun _ _ _ _ e => by cases e) (fun _ _ e => by cases e) (fun _ _ _ _ e => by cases e) (fun _ _ _ _ _ _ e => by cases e)
   unfold ptrEq
   split
   ·refine wp_bind (R.wp_mono ?_ (same_ok (P := P) (t := t) h hx hy))
    rintro r s' ⟨rfl, he⟩
    exact zAh (HP.of_value h (by simp only [execOp, Sem.run_bind, guard', Result.andThen_ok, (eqlRun he).1, Sem.run_pure]) (.val _))
   ·refine wp_bind (R.wp_mono ?_ (same_ok (P := P) (t := t) h hx hy))
    rintro r s' ⟨rfl, he⟩
    exact zAh (HP.of_value h (by simp only [execOp, Sem.run_bind, guard', Result.andThen_ok, (eqlRun he).2, Sem.run_pure]) (.val _))
   ·exact zAa
  ·exact zFm plain
 ·exact zFm plain
theorem makeTab_ok (h : RW φ B s w) (hB : B ≤ w.heap.size) (hf : zEj φ s.n N) {t e : TypeId} {n m : SE} {l c : Operand} {kk k2 : IntKind} (hu : P.underlying t = some (.slice e)) (hl : RV φ (.sx kk n) (ρ l)) (hcv : RV φ (.sx k2 m) (ρ c)) {dst : Option Tmp} {ty : TypeId} {pos : String} {after : Array Edge} {guard : Option (Nat × Bool)} :
  (hv_makeTab P e n m s).wp fun v s' => HP P φ B N s w ((execOp ρ ⟨dst, .makeSlice t l c, ty, pos, after, guard⟩).run P w) v s' := by
 unfold hv_makeTab
 cases hi : P.info? e with
 | none => exact zAa
 | some ie => cases he : P.underlying e with
  | none => exact zAa
  | some d =>
   cases d <;> first | exact zAa | skip
   rename_i k
   cases hzi : zeroInt ie with
   | none => simp only [hzi]; exact zAa
   | some k' =>
   have hz : ie.zero = some (.int k' 0) := by
    unfold zeroInt at hzi
    split at hzi
    ·rename_i e0; cases hzi; exact e0
    ·cases hzi
   simp only [hzi]
   refine zAo (fun hcn => ?_) (fun _ => zAa)
   simp only [Bool.and_eq_true, decide_eq_true_eq] at hcn
   obtain ⟨⟨⟨⟨⟨c1, c2⟩, c3⟩, c4⟩, c5⟩, c6⟩ := hcn
   have hnm := SE.beq_eq c1
   subst hnm c6
   have d1 := zJn c2
   have d2 := zJn c3
   simp only [SE.eval] at d1 d2
   have c4 := Nat.eq_of_beq_eq_true c4
   have c5 := Nat.le_of_ble_eq_true c5
   obtain ⟨M, hM⟩ : ∃ M : Nat, n.eval zAc.env = M := ⟨_, (Int.toNat_of_nonneg d1).symm⟩
   rw [hM] at d1 d2
   have el : ρ l = .int kk (M : Int) := by rw [zCn hl rfl, hM]
   have ec : ρ c = .int k2 (M : Int) := by rw [zCn hcv rfl, hM]
   have c2 : M ≤ 65536 := by omega
   have hs : szO P e = some ie.size := by simp [szO, hi]
   have hzz : zJm P e = some (.int k' 0) := by simp [zJm, hi, hz]
   have w1 : IntKind.i64.wrap (M : Int) = M := wrap_small c2
   have b1 : ((ie.bytes : Int) * (M : Int) > 2 ^ 48) = False := by
    have : ie.bytes * M ≤ 65536 * 65536 := Nat.mul_le_mul c5 c2
    have h2 : ((ie.bytes : Int) * (M : Int)) = ((ie.bytes * M : Nat) : Int) := by simp
    rw [h2]
    simp only [eq_iff_iff, iff_false]; omega
   have b2 : ((M : Int) < 0) = False := by simp only [eq_iff_iff, iff_false]; omega
   have b4 : ((M : Int) > (M : Int)) = False := by simp only [eq_iff_iff, iff_false]; omega
   refine zIg (cap := M) (x := .arr [.i k'] (.const (.lit 0)) n false) (o := .cells ((Array.range (M * ie.size)).map (fun i => (Value.cells (.int k' 0))[i % (Value.cells (.int k' 0)).size]!)) e) (V := .slice (some ⟨w.heap.size, 0, none⟩) M M) (k := fun b => .ss b 1 (.lit 0) n) h hB hf
    (fun ψ _ => ⟨(Array.range (M * ie.size)).map (fun i => (Value.cells (.int k' 0))[i % (Value.cells (.int k' 0)).size]!), e, (0, 0), by simp, fun _ => ⟨rfl, by simp [c4]⟩, M, hM, by simp [c4], fun r c k hr hk => ?_⟩) (fun ψ hψ => .ss hψ (m := 0) rfl hM ⟨Nat.le_refl _, by simp⟩ (fun _ => by simp)) ?_
   ·cases c with
    | zero =>
     simp only [List.getElem?_cons_zero, Option.some.injEq] at hk
     subst hk
     refine ⟨.int k' 0, ?_, rfl⟩
     simp [c4, hr, Value.cells, Nat.mod_one]
    | succ c => simp at hk
   ·by_cases h0 : M * ie.size = 0
    ·have e0 : ∀ zz : Array Value, (Array.range (M * ie.size)).map (fun i => zz[i % zz.size]!) = #[] := fun zz => by rw [h0]; simp
     simp only [execOp, Instr.makeSlice, el, ec, asInt, asIntOf, Sem.run_bind, zAf hu, zDy hi, Result.andThen_ok, Sem.run_pure, w1, b1, b2, b4, decide_false, Bool.or_self, Bool.false_eq_true, if_false, run_askRoom, zAt hs, Int.toNat_natCast, if_pos h0, e0, newRow, run_newObj]
    ·simp only [execOp, Instr.makeSlice, el, ec, asInt, asIntOf, Sem.run_bind, zAf hu, zDy hi, Result.andThen_ok, Sem.run_pure, w1, b1, b2, b4, decide_false, Bool.or_self, Bool.false_eq_true, if_false, run_askRoom, zAt hs, Int.toNat_natCast, if_neg h0, zFv hzz, newRow, run_newObj]
theorem run_b2s {l : List AV} {xs : List Value} (hl : RL φ l xs) {bs : List UInt8} (hb : bytesOf l = some bs) {a : Addr} {n c : Nat} (hload : (loadCells a n).run P w = .ok xs.toArray w) : (Conv.bytesToString (.slice (some a) n c)).run P w = .ok (.string ⟨⟨bs⟩⟩) w := by
 simp only [Conv.bytesToString, Sem.run_bind, hload, Result.andThen_ok]
 rw [← Array.forIn_toList]
 simp only [Sem.run_pure]
 have gen : ∀ {l : List AV} {xs : List Value}, RL φ l xs → ∀ {bs : List UInt8}, bytesOf l = some bs → ∀ s0 : ByteArray, (forIn xs s0 (fun (c : Value) (s : ByteArray) => (match c with
   | .int .u8 n => (pure (ForInStep.yield (s.push (UInt8.ofNat n.toNat))) : Sem (ForInStep ByteArray))
   | _ => (do
    (stuck "bytesToString: byte expected" : Sem PUnit)
    pure (ForInStep.yield s))))).run P w = .ok ⟨⟨s0.data.toList ++ bs⟩⟩ w := by
  intro l
  induction l with
  | nil =>
   intro xs hl bs hb s0
   cases hl
   cases hb
   obtain ⟨⟨d⟩⟩ := s0
   simp
  | cons v l' ih =>
   intro xs hl bs hb s0
   cases hl with | cons h1 h2 =>
   unfold bytesOf at hb
   split at hb
   ·rename_i e; cases e
   ·rename_i n l2 e
    cases e
    split at hb
    ·rename_i r hr
     cases hb
     cases h1
     simp only [List.forIn_cons, Sem.run_bind, Sem.run_pure, Result.andThen_ok]
     rw [ih h2 hr]
     obtain ⟨⟨d⟩⟩ := s0
     simp [ByteArray.push]
    ·cases hb
   ·cases hb
 refine Eq.trans (congrArg (fun r : Result ByteArray => r.andThen fun s w' => Result.ok (Value.string s) w') (gen hl hb ByteArray.empty)) ?_
 rfl
theorem convert_ok (h : RW φ B s w) (hev : EV φ ev ρ) (src dst : TypeId) (x : Operand) (dst_ : Option Tmp) (ty : TypeId) (pos : String) (after : Array Edge) (guard : Option (Nat × Bool)) : (zGv P ev src dst x s).wp fun v s' => HP P φ B N s w ((execOp ρ ⟨dst_, .convert src dst x, ty, pos, after, guard⟩).run P w) v s' := by
 unfold zGv
 cases hu1 : P.underlying src with
 | none => exact zAa
 | some d1 =>
  cases d1 <;> first | exact zAa | skip
  rename_i e
  cases hu2 : P.underlying dst with
  | none => exact zAa
  | some d2 =>
   cases d2 <;> first | exact zAa | skip
   dsimp only
   cases hu3 : P.underlying e with
   | none => exact zAa
   | some d3 =>
    cases d3 <;> first | exact zAa | skip
    rename_i k
    cases k <;> first | exact zAa | skip
    dsimp only
    cases hx : ev x with
    | none => exact zAa
    | some v =>
     have hr := hev _ _ hx
     have conv : ∀ p n c, ρ x = .slice p n c → (execOp ρ ⟨dst_, .convert src dst x, ty, pos, after, guard⟩).run P w = ((Conv.bytesToString (.slice p n c)).run P w).andThen fun v w' => .ok (.value v) w' := by
      intro p n c hX
      have hc : (convert src dst (.slice p n c)).run P w = (Conv.bytesToString (.slice p n c)).run P w := by
       cases p <;> simp only [convert, Sem.run_bind, zAf hu1, zAf hu2, zAf hu3, Result.andThen_ok]
      simp only [execOp, hX, Sem.run_bind, hc]
      rfl
     generalize hX : ρ x = X at hr
     cases v <;> first | exact zAa | skip
     case val v =>
      cases v <;> first | exact zAa | skip
      rename_i p n c
      cases p <;> first | exact zAa | skip
      cases hr
      refine zAh (HP.of_value h (y := .string ByteArray.empty) ?_ (.val _))
      rw [conv _ _ _ hX]
      rfl
     case sl b off z n cp =>
      cases hr with | sl he hc hl ho =>
      rename_i a o c
      refine zAo (fun h0 => ?_) (fun h0 => zAo (fun hz => ?_) (fun _ => zAa))
      ·have h0 := Nat.eq_of_beq_eq_true h0
       subst h0
       refine zAh (HP.of_value h (y := .string ByteArray.empty) ?_ (.val _))
       rw [conv _ _ _ hX]
       have hld : (loadCells ⟨a.blk, o, none⟩ 0).run P w = .ok (([] : List Value)).toArray w := by simp [loadCells, loadCellsFrom]
       rw [run_b2s (φ := φ) (l := []) .nil rfl hld]
       rfl
      ·have hz := Nat.eq_of_beq_eq_true hz
       subst hz
       have hn : 0 < n := by
        cases n with
        | zero => cases h0
        | succ n => omega
       have ho := ho (by omega)
       subst ho
       refine zAe (R.wp_mono ?_ (read_ok h b off n))
       rintro l s' ⟨rfl, a', xs, he', hxs, hlen, hcell⟩
       rw [he] at he'; cases he'
       cases hbs : bytesOf l with
       | none => exact zAa
       | some bs =>
        refine zAh (HP.of_value h (y := .string ⟨⟨bs⟩⟩) ?_ (.val _))
        rw [conv _ _ _ hX, run_b2s hxs hbs (run_loadCells hcell hlen)]
        rfl
set_option maxHeartbeats 2000000 in
theorem heap_ok (h : RW φ B s w) (hB : B ≤ w.heap.size) (hf : zEj φ s.n N) (hev : EV φ ev ρ) (o : Oper) : (heapV P ev o.op s).wp fun v s' => HP P φ B N s w ((execOp ρ o).run P w) v s' := by
 obtain ⟨dst, op, ty, pos, after, guard⟩ := o
 cases op <;> unfold heapV <;> (try delta zMr hv_box zFg hv_load zMn zGb zMq zJx zGa zIy zGp zGv zGo zJy zMo hv_next zMp hv_call) <;> dsimp only <;> first | exact zAa | skip
 case alloc t =>
  cases hz : zJm P t with
  | none => exact zAa
  | some z =>
   refine box_ok h hB hf (xs := z.cells) (RV.ofV z).cells t ?_
   simp only [execOp, Instr.alloc, Sem.run_bind, zFv hz, Result.andThen_ok, newVar, newRow, run_newObj, Sem.run_pure]
 case box t x =>
  cases hx : ev x with
  | none => exact zAa
  | some v =>
   refine box_ok h hB hf (xs := (ρ x).cells) (hev _ _ hx).cells t ?_
   simp only [execOp, Instr.box, Sem.run_bind, Result.andThen_ok, newVar, newRow, run_newObj, Sem.run_pure]
 case buildSlice t len parts =>
  cases hu : P.underlying t with
  | none => exact zAa
  | some d =>
   cases d <;> first | exact zAa | skip
   rename_i e
   cases hl : zLc ev parts.toList with
   | none => exact zAa
   | some l =>
    cases hi : P.info? e with
    | none => simp only [hi]; exact zAa
    | some ie =>
     cases hz : ie.zero with
     | none => simp only [hi, hz]; exact zAa
     | some z =>
      simp only [hi, hz]
      refine zAo (fun hc => ?_) (fun _ => zAa)
      simp only [Bool.and_eq_true] at hc
      have c1 := Nat.le_of_ble_eq_true hc.1
      have c2 := Nat.eq_of_beq_eq_true hc.2
      have hs : szO P e = some ie.size := by simp [szO, hi]
      have hzz : zJm P e = some z := by simp [zJm, hi, hz]
      refine zAe (zFm fun cs hcs => ?_)
      have hzc := (RV.ofV (φ := φ) z).cells
      have hzs : z.cells.size = ie.size := by have := hzc.length; simp at this; omega
      have hrep := rep_ok hzc len
      rw [c2] at hrep
      obtain ⟨ys, e1, e2⟩ := fill_ok (place' := fun i => some (i * ie.size, ie.size)) (fun i p h => h) (parts' := (parts.map fun p => (p.1, ρ p.2)).toList) (by simpa using parts_ok hev hl) hrep hcs
      refine row_ok h hB hf e2 e (Nat.le_refl _) ?_
      have hbig : ¬ (len * ie.size > 2 ^ 24) := by omega
      have hpm : (parts.map fun x => match x with | (i, x) => (i, ρ x)) = parts.map fun p => (p.1, ρ p.2) := rfl
      by_cases h0 : len * ie.size = 0
      ·have e0 : (Array.range (len * ie.size)).map (fun i => z.cells[i % z.cells.size]!) = #[] := by rw [h0]; simp
       have e0' : ∀ zz : Array Value, (Array.range (len * ie.size)).map (fun i => zz[i % zz.size]!) = #[] := fun zz => by rw [h0]; simp
       rw [e0] at e1
       simp only [execOp, Instr.buildSlice, Sem.run_bind, zAf hu, Result.andThen_ok, zAt hs, if_neg hbig, if_pos h0, Sem.run_pure, e0', hpm, e1, newRow, run_newObj]
      ·simp only [execOp, Instr.buildSlice, Sem.run_bind, zAf hu, Result.andThen_ok, zAt hs, if_neg hbig, if_neg h0, zFv hzz, Sem.run_pure, hpm, e1, newRow, run_newObj]
 case load t x =>
  cases hx : ev x with
  | none => exact zAa
  | some v =>
   refine R.wp_mono ?_ (load_ok (P := P) h (hev _ _ hx))
   rintro v' s' ⟨rfl, y, h1, h2⟩
   exact HP.of_value h (by simp only [execOp, Sem.run_bind, h1, Result.andThen_ok, Sem.run_pure]) h2
 case store t x v =>
  cases ha : ev x with
  | none => exact zAa
  | some a => cases hb : ev v with
   | none => exact zAa
   | some b =>
    refine R.wp_mono ?_ (store_ok (P := P) h (hev _ _ ha) (hev _ _ hb))
    rintro v' s' ⟨h0, w', h1, h2⟩
    exact HP.of_skip h0 ⟨w', by simp only [execOp, Sem.run_bind, h1, Result.andThen_ok, Sem.run_pure], h2⟩
 case binOp op t x y yt =>
  cases hx : ev x with
  | none => exact zAa
  | some a => cases hy : ev y with
   | none => exact zAa
   | some b => exact binH_ok h (hev _ _ hx) (hev _ _ hy)
 case call c =>
  cases hc : c.callee with
  | value f => exact zAa
  | invoke r m => exact zAa
  | builtin b =>
   cases b <;> first | exact zAa | skip
   case append =>
    cases h1 : c.argTypes[0]? with
    | none => exact zAa
    | some t => cases h2 : c.argTypes[1]? with
     | none => exact zAa
     | some t2 => cases h3 : zCi ev c.args.toList with
      | none => exact zAa
      | some l =>
       rcases l with _ | ⟨x, _ | ⟨y, _ | ⟨z, l⟩⟩⟩ <;> first | exact zAa | skip
       obtain ⟨X, Y, e1, e2, e3, e4⟩ := opt_two hev h3
       cases hu2 : P.underlying t2 with
       | none => simp only [hu2]; exact zAa
       | some d2 =>
        have main : ∀ hd2 : ∀ k, d2 ≠ .int k, (appendA P t x y s).wp fun v s' => HP P φ B N s w ((execOp ρ ⟨dst, .call c, ty, pos, after, guard⟩).run P w) v s' := by
         intro hd2
         refine R.wp_mono ?_ (append_ok (P := P) (t2 := t2) (ty := ty) h hB hf hu2 hd2 e3 e4)
         rintro v s' hq hN
         obtain ⟨ψ, w', yv, g1, g2, g3⟩ := hq hN
         refine ⟨ψ, w', yv, .inl ?_, g2, g3⟩
         simp only [execOp, resolve, hc, Sem.run_bind, Sem.run_pure, Result.andThen_ok, invoke, builtin, append_args h1 h2 e1 e2, g1]
        cases d2 <;> simp only [hu2] <;> first | exact zAa | exact main (fun k => by simp)
   case copy =>
    cases h1 : c.argTypes[0]? with
    | none => exact zAa
    | some t => cases h3 : zCi ev c.args.toList with
     | none => exact zAa
     | some l =>
      rcases l with _ | ⟨x, _ | ⟨y, _ | ⟨z, l⟩⟩⟩ <;> first | exact zAa | skip
      obtain ⟨X, Y, e1, e2, e3, e4⟩ := opt_two hev h3
      refine R.wp_mono ?_ (copy_ok (P := P) (ty := ty) h h1 e1 e2 e3 e4)
      rintro v s' ⟨w', yv, g1, g2, g3⟩
      refine fun _ => ⟨φ, w', yv, .inl ?_, g2, g3⟩
      simp only [execOp, resolve, hc, Sem.run_bind, Sem.run_pure, Result.andThen_ok, invoke, builtin, g1]
   case delete =>
    cases h1 : c.argTypes[0]? with
    | none => exact zAa
    | some t => cases h3 : zCi ev c.args.toList with
     | none => exact zAa
     | some l =>
      rcases l with _ | ⟨x, _ | ⟨y, _ | ⟨z, l⟩⟩⟩ <;> first | exact zAa | skip
      obtain ⟨X, Y, e1, e2, e3, e4⟩ := opt_two hev h3
      refine R.wp_mono ?_ (delete_ok (P := P) (ty := ty) h h1 e1 e2 e3 e4)
      rintro v s' ⟨w', yv, g1, g2, g3⟩
      refine fun _ => ⟨φ, w', yv, .inl ?_, g2, g3⟩
      simp only [execOp, resolve, hc, Sem.run_bind, Sem.run_pure, Result.andThen_ok, invoke, builtin, g1]
   case len =>
    cases h1 : c.argTypes[0]? with
    | none => exact zAa
    | some t => cases hu : P.underlying t with
     | none => simp only [Option.bind_some, hu]; exact zAa
     | some d =>
      simp only [Option.bind_some, hu]
      cases d <;> first | exact zAa | skip
      cases h3 : zCi ev c.args.toList with
      | none => exact zAa
      | some l =>
       rcases l with _ | ⟨x, _ | ⟨y, l⟩⟩ <;> first | exact zAa | skip
       ·have hx := zEl hev h3
        have e : (c.args.map ρ).toList = c.args.toList.map ρ := by simp
        rw [← e] at hx
        obtain ⟨X, g1, g2⟩ := hx.get (i := 0) (v := x) rfl
        have g1 : (c.args.map ρ)[0]? = some X := by simpa using g1
        cases x <;> first | exact zAa | skip
        ·rename_i v
         cases v <;> first | exact zAa | skip
         rename_i r
         cases r <;> first | exact zAa | skip
         cases g2
         refine zAh (HP.of_value h (y := goInt 0) ?_ (.val _))
         simp only [execOp, resolve, hc, Sem.run_bind, Sem.run_pure, Result.andThen_ok, invoke, builtin, Builtin.len_, h1, g1, zAf hu]
        ·rename_i b
         cases g2 with | mp he =>
         rename_i a
         refine zAe (zBo fun tt y hy => ?_)
         obtain ⟨a1, ha1, hrb, hBy⟩ := h.blk b tt y hy
         rw [he] at ha1; cases ha1
         cases y <;> first | exact zAa | skip
         rename_i es clock
         obtain ⟨res, r1, r2⟩ := hrb
         have hobj := zBl (P := P) r1 (by intros; simp)
         refine zAh (HP.of_value h (y := goInt res.size) ?_ ?_)
         ·simp only [execOp, resolve, hc, Sem.run_bind, Sem.run_pure, Result.andThen_ok, invoke, builtin, Builtin.len_, h1, g1, zAf hu, hobj]
         ·have := r2.length
          simp only [Array.length_toList] at this
          rw [this]; exact .val _
       ·cases x <;> first | exact zAa | skip
        rename_i v
        cases v <;> first | exact zAa | skip
        rename_i r
        cases r <;> exact zAa
 case convert src dst x =>
  exact convert_ok h hev src dst x _ _ _ _ _
 case typeAssert x xt ta ok =>
  have done : ∀ d, P.underlying ta = some d → (∀ m, d ≠ .interface m) → ((match ev x with
   | some (.ifc t v) => bif Nat.beq t ta then M.pure (bif ok then AV.tup [v, AV.val (.bool true)] else v) else fail "typeAssert: another type"
   | _ => fail "typeAssert: of what") s).wp fun v s' => HP P φ B N s w ((execOp ρ ⟨dst, .typeAssert x xt ta ok, ty, pos, after, guard⟩).run P w) v s' := by
   intro d hu hd
   cases hx : ev x with
   | none => exact zAa
   | some xv =>
    have hr := hev _ _ hx
    cases xv <;> first | exact zAa | skip
    rename_i t v
    refine zAo (fun ht => ?_) (fun _ => zAa)
    have ht := Nat.eq_of_beq_eq_true ht
    subst ht
    obtain ⟨V, hV, hvv⟩ : ∃ V, ρ x = .iface t V ∧ RV φ v V := by
     generalize ρ x = X at hr
     cases hr with | ifc h => exact ⟨_, rfl, h⟩
    have hrun : (Instr.typeAssert (.iface t V) xt t ok).run P w = .ok (if ok then .tuple #[V, .bool true] else V) w := by
     unfold Instr.typeAssert
     simp only [Sem.run_bind, zAf hu, Result.andThen_ok]
     cases d <;> first | exact (hd _ rfl).elim | (simp only [if_true]; cases ok <;> rfl)
    cases ok
    ·refine zAh (HP.of_value h (y := V) ?_ hvv)
     simp only [execOp, hV, Sem.run_bind, hrun, Result.andThen_ok, Sem.run_pure]
     rfl
    ·refine zAh (HP.of_value h (y := .tuple #[V, .bool true]) ?_ (.tup (.cons hvv (.cons (.val _) .nil))))
     simp only [execOp, hV, Sem.run_bind, hrun, Result.andThen_ok, Sem.run_pure]
     rfl
  cases hu : P.underlying ta with
  | none => exact zAa
  | some d =>
   cases d <;> first | exact zAa | exact done _ hu (by intro m hm; cases hm)
 case makeMap t r =>
  cases r with
  | some r => exact zAa
  | none =>
   refine zIg (cap := 0) (x := .map [] 0) (o := .map #[] 0) (V := .map (some w.heap.size)) (k := fun b => .mp b) h hB hf (fun ψ _ => ⟨#[], by simp, .nil⟩) (fun ψ hψ => .mp hψ) ?_
   simp only [execOp, Instr.makeMap, Option.map_none, Sem.run_bind, run_newObj, Result.andThen_ok, Sem.run_pure]
 case makeSlice t l c =>
  cases hu : P.underlying t with
  | none => exact zAa
  | some d =>
   cases d <;> first | exact zAa | skip
   rename_i e
   cases hl : ev l with
   | none => exact zAa
   | some lv =>
    by_cases hsx : ∃ kk n, lv = .sx kk n
    ·obtain ⟨kk, n, rfl⟩ := hsx
     cases hcp : ev c with
     | none => exact zAa
     | some cv =>
      by_cases hsc : ∃ k2 m, cv = .sx k2 m
      ·obtain ⟨k2, m, rfl⟩ := hsc
       exact makeTab_ok h hB hf hu (hev _ _ hl) (hev _ _ hcp)
      ·cases cv <;> first | exact zAa | exact (hsc ⟨_, _, rfl⟩).elim
    cases lv <;> first | exact zAa | exact (hsx ⟨_, _, rfl⟩).elim | skip
    rename_i lv
    cases lv <;> first | exact zAa | skip
    rename_i k1 n1
    cases n1 <;> first | exact zAa | skip
    rename_i n
    cases hcp : ev c with
    | none => exact zAa
    | some cv =>
     cases cv <;> first | exact zAa | skip
     rename_i cv
     cases cv <;> first | exact zAa | skip
     rename_i k2 n2
     cases n2 <;> first | exact zAa | skip
     rename_i m
     refine zAo (fun _ => makeTab_ok h hB hf hu (kk := k1) (k2 := k2) (by rw [(hev _ _ hl).int_inv]; exact .sx rfl) (by rw [(hev _ _ hcp).int_inv]; exact .sx rfl)) (fun _ => ?_)
     cases hi : P.info? e with
     | none => simp only [hi]; exact zAa
     | some ie =>
      cases hz : ie.zero with
      | none => simp only [hi, hz]; exact zAa
      | some z =>
       simp only [hi, hz]
       refine zAo (fun hcn => ?_) (fun _ => zAa)
       simp only [Bool.and_eq_true] at hcn
       have c1 := Nat.le_of_ble_eq_true hcn.1.1.1
       have c2 := Nat.le_of_ble_eq_true hcn.1.1.2
       have c3 := Nat.le_of_ble_eq_true hcn.1.2
       have c4 := Nat.eq_of_beq_eq_true hcn.2
       have hs : szO P e = some ie.size := by simp [szO, hi]
       have hzz : zJm P e = some z := by simp [zJm, hi, hz]
       have hzc := (RV.ofV (φ := φ) z).cells
       have hrep := rep_ok hzc m
       rw [c4] at hrep
       refine row_ok h hB hf hrep e c1 ?_
       have el : ρ l = .int k1 (n : Int) := (hev _ _ hl).int_inv
       have ec : ρ c = .int k2 (m : Int) := (hev _ _ hcp).int_inv
       have w1 : IntKind.i64.wrap (n : Int) = n := wrap_small (by omega)
       have w2 : IntKind.i64.wrap (m : Int) = m := wrap_small c2
       have b1 : ((ie.bytes : Int) * (m : Int) > 2 ^ 48) = False := by
        have : ie.bytes * m ≤ 65536 * 65536 := Nat.mul_le_mul c3 c2
        have h2 : ((ie.bytes : Int) * (m : Int)) = ((ie.bytes * m : Nat) : Int) := by simp
        rw [h2]
        simp only [eq_iff_iff, iff_false]; omega
       have b2 : ((m : Int) < 0) = False := by simp only [eq_iff_iff, iff_false]; omega
       have b3 : ((n : Int) < 0) = False := by simp only [eq_iff_iff, iff_false]; omega
       have b4 : ((n : Int) > (m : Int)) = False := by simp only [eq_iff_iff, iff_false]; omega
       by_cases h0 : m * ie.size = 0
       ·have e0 : (Array.range (m * ie.size)).map (fun i => z.cells[i % z.cells.size]!) = #[] := by rw [h0]; simp
        have e0' : ∀ zz : Array Value, (Array.range (m * ie.size)).map (fun i => zz[i % zz.size]!) = #[] := fun zz => by rw [h0]; simp
        simp only [execOp, Instr.makeSlice, el, ec, asInt, asIntOf, Sem.run_bind, zAf hu, zDy hi, Result.andThen_ok, Sem.run_pure, w1, w2, b1, b2, b3, b4, decide_false, Bool.or_self, Bool.false_eq_true, if_false, run_askRoom, zAt hs, Int.toNat_natCast, if_pos h0, e0, e0', newRow, run_newObj]
       ·simp only [execOp, Instr.makeSlice, el, ec, asInt, asIntOf, Sem.run_bind, zAf hu, zDy hi, Result.andThen_ok, Sem.run_pure, w1, w2, b1, b2, b3, b4, decide_false, Bool.or_self, Bool.false_eq_true, if_false, run_askRoom, zAt hs, Int.toNat_natCast, if_neg h0, zFv hzz, newRow, run_newObj]
 case lookup t m k ok =>
  cases ha : ev m with
  | none => exact zAa
  | some a => cases hb : ev k with
   | none => exact zAa
   | some b =>
    refine R.wp_mono ?_ (lookup_ok (P := P) h (hev _ _ ha) (hev _ _ hb) ok)
    rintro v s' ⟨rfl, y, h1, h2⟩
    exact HP.of_value h (by simp only [execOp, Sem.run_bind, h1, Result.andThen_ok, Sem.run_pure]) h2
 case mapUpdate t m k v =>
  cases ha : ev m with
  | none => exact zAa
  | some a => cases hb : ev k with
   | none => exact zAa
   | some b => cases hc : ev v with
    | none => exact zAa
    | some c =>
     refine R.wp_mono ?_ (update_ok (P := P) h (hev _ _ ha) (hev _ _ hb) (hev _ _ hc))
     rintro v' s' ⟨h0, w', h1, h2⟩
     exact HP.of_skip h0 ⟨w', by simp only [execOp, Sem.run_bind, h1, Result.andThen_ok, Sem.run_pure], h2⟩
 case mapEntry t m k =>
  cases ha : ev m with
  | none => exact zAa
  | some a => cases hb : ev k with
   | none => exact zAa
   | some b =>
    refine R.wp_mono ?_ (mapEntry_ok (P := P) h (hev _ _ ha) (hev _ _ hb))
    rintro v' s' ⟨w', y, h1, h2, h3⟩
    exact fun _ => ⟨φ, w', y, .inl (by simp only [execOp, Sem.run_bind, h1, Result.andThen_ok, Sem.run_pure]), h2, h3⟩
 case entryStore t m k v =>
  cases ha : ev m with
  | none => exact zAa
  | some a => cases hb : ev k with
   | none => exact zAa
   | some b => cases hc : ev v with
    | none => exact zAa
    | some c =>
     refine R.wp_mono ?_ (entryStore_ok (P := P) (t := t) h (hev _ _ ha) (hev _ _ hb) (hev _ _ hc))
     rintro v' s' ⟨h0, w', h1, h2⟩
     exact HP.of_skip h0 ⟨w', by simp only [execOp, Sem.run_bind, h1, Result.andThen_ok, Sem.run_pure], h2⟩
 case insert t m k v =>
  cases ha : ev m with
  | none => exact zAa
  | some a => cases hb : ev k with
   | none => exact zAa
   | some b => cases hc : ev v with
    | none => exact zAa
    | some c =>
     refine R.wp_mono ?_ (update_ok (P := P) h (hev _ _ ha) (hev _ _ hb) (hev _ _ hc))
     rintro v' s' ⟨h0, w', h1, h2⟩
     exact HP.of_skip h0 ⟨w', by simp only [execOp, Sem.run_bind, h1, Result.andThen_ok, Sem.run_pure], h2⟩
 case range t x =>
  cases hu : P.underlying t with
  | none => exact zAa
  | some d =>
   cases hx : ev x with
   | none => cases d <;> exact zAa
   | some v =>
    have hrx := hev _ _ hx
    cases d <;> first | exact zAa | skip
    ·-- a string
     cases v <;> first | exact zAa | skip
     rename_i v
     cases v <;> first | exact zAa | skip
     rename_i t'
     have ex := hrx.str_inv
     refine zIg (cap := 0) (x := .siter t' 0) (o := .stringIter t' 0) (V := .pointer (some ⟨w.heap.size, 0, none⟩)) (k := fun b => .ptr b 0) h hB hf (fun ψ _ => ⟨rfl, by simp⟩) (fun ψ hψ => RV.ptr (a := ⟨w.heap.size, 0, 0⟩) hψ) ?_
     simp only [execOp, Instr.range, ex, Sem.run_bind, zAf hu, run_newObj, Result.andThen_ok, Sem.run_pure]
    ·-- a map
     cases v <;> first | exact zAa | skip
     ·rename_i v
      cases v <;> first | exact zAa | skip
      rename_i r
      cases r <;> first | exact zAa | skip
      have ex : ρ x = .map none := by
       generalize ρ x = X at *
       cases hrx; rfl
      refine zIg (cap := 0) (x := .miter none 0 [] 0) (o := .mapIter none 0 #[] 0) (V := .pointer (some ⟨w.heap.size, 0, none⟩)) (k := fun b => .ptr b 0) h hB hf (fun ψ _ => ⟨rfl, none, by simp, rfl⟩) (fun ψ hψ => RV.ptr (a := ⟨w.heap.size, 0, 0⟩) hψ) ?_
      simp only [execOp, Instr.range, ex, Sem.run_bind, zAf hu, run_newObj, Result.andThen_ok, Sem.run_pure]
     ·rename_i m
      generalize hX : ρ x = X at *
      cases hrx with | mp he =>
      rename_i a
      refine zAe (zBo fun tt y hy => ?_)
      obtain ⟨a1, ha1, hrb, hBy⟩ := h.blk m tt y hy
      rw [he] at ha1; cases ha1
      cases y <;> first | exact zAa | skip
      rename_i es clock
      obtain ⟨res, r1, r2⟩ := hrb
      have hobj := zBl (P := P) r1 (by intros; simp)
      refine zIg (cap := 0) (x := .miter (some m) clock [] clock) (o := .mapIter (some a.blk) clock #[] clock) (V := .pointer (some ⟨w.heap.size, 0, none⟩)) (k := fun b => .ptr b 0) h hB hf (fun ψ hle => ⟨rfl, some a.blk, by simp, a, hle _ _ he, rfl⟩) (fun ψ hψ => RV.ptr (a := ⟨w.heap.size, 0, 0⟩) hψ) ?_
      simp only [execOp, Instr.range, hX, Sem.run_bind, zAf hu, hobj, run_newObj, Result.andThen_ok, Sem.run_pure]
 case entry x =>
  cases hx : ev x with
  | none => exact zAa
  | some v =>
   refine R.wp_mono ?_ (entry_ok (P := P) h (hev _ _ hx))
   rintro v' s' ⟨rfl, y, h1, h2⟩
   exact HP.of_value h (by simp only [execOp, Sem.run_bind, h1, Result.andThen_ok, Sem.run_pure]) h2
 case next x b =>
  cases hx : ev x with
  | none => exact zAa
  | some v =>
   refine R.wp_mono ?_ (next_ok (P := P) h (hev _ _ hx) b ty)
   rintro v' s' ⟨w', y, h1, h2, h3⟩
   exact fun _ => ⟨φ, w', y, .inl (by simp only [execOp, Sem.run_bind, h1, Result.andThen_ok, Sem.run_pure]), h2, h3⟩
end
end
end Go.Abs
