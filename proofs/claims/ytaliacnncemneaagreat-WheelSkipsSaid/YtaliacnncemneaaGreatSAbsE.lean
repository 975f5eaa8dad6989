/- zDa by shapes: what stands at their heads, of numbers that go from round to round. No conditions. -/
import Derived.Test.YtaliacnncemneaaGreatSAbsD
namespace Go.Abs
noncomputable section
def zBc : Operand → Operand → Bool
 | .tmp a, .tmp b => Nat.beq a b
 | .const a, .const b => valSame a b
 | .global a, .global b => Nat.beq a b
 | .func a, .func b => Nat.beq a b
 | _, _ => false
theorem zAn {a b : Operand} (h : zBc a b = true) : a = b := by
 unfold zBc at h
 split at h
 ·rw [zAr h]
 ·rw [valSame_eq h]
 ·rw [zAr h]
 ·rw [zAr h]
 ·cases h
def zKe {α : Type} (eq : α → α → Bool) (a b : Array α) : Bool := zGk eq a.toList b.toList
theorem zFs {α : Type} {eq : α → α → Bool} (he : ∀ a b, eq a b = true → a = b) {a b : Array α} (h : zKe eq a b = true) : a = b := by
 have := zLo he h
 cases a; cases b
 simp only at this
 rw [this]
def partSame (a b : Nat × Operand) : Bool := Nat.beq a.1 b.1 && zBc a.2 b.2
theorem partSame_eq (a b : Nat × Operand) (h : partSame a b = true) : a = b := by
 obtain ⟨a1, a2⟩ := a
 obtain ⟨b1, b2⟩ := b
 simp only [partSame, Bool.and_eq_true] at h
 rw [zAr h.1, zAn h.2]
def zNz : Callee → Callee → Bool
 | .value f, .value g => zBc f g
 | .builtin a, .builtin b => decide (a = b)
 | _, _ => false
theorem calleeSame_eq {a b : Callee} (h : zNz a b = true) : a = b := by
 unfold zNz at h
 split at h
 ·rw [zAn h]
 ·rw [of_decide_eq_true h]
 ·cases h
def callSame (a b : Call) : Bool := zNz a.callee b.callee && (zKe zBc a.args b.args && zKe Nat.beq a.argTypes b.argTypes)
theorem callSame_eq {a b : Call} (h : callSame a b = true) : a = b := by
 obtain ⟨a1, a2, a3⟩ := a
 obtain ⟨b1, b2, b3⟩ := b
 simp only [callSame, Bool.and_eq_true] at h
 rw [calleeSame_eq h.1, zFs (fun _ _ => zAn) h.2.1, zFs (fun _ _ => zAr) h.2.2]
def opSame : Op → Op → Bool
 | .move x, .move y => zBc x y
 | .assign x, .assign y => zBc x y
 | .pick c a b, .pick c' a' b' => zBc c c' && (zBc a a' && zBc b b')
 | .alloc t, .alloc t' => Nat.beq t t'
 | .buildSlice t n p, .buildSlice t' n' p' => Nat.beq t t' && (Nat.beq n n' && zKe partSame p p')
 | .load t a, .load t' a' => Nat.beq t t' && zBc a a'
 | .store t a v, .store t' a' v' => Nat.beq t t' && (zBc a a' && zBc v v')
 | .nilCheck x, .nilCheck y => zBc x y
 | .binOp o t a b u, .binOp o' t' a' b' u' => decide (o = o') && (Nat.beq t t' && (zBc a a' && (zBc b b' && Nat.beq u u')))
 | .unOp o t a, .unOp o' t' a' => decide (o = o') && (Nat.beq t t' && zBc a a')
 | .convert s t a, .convert s' t' a' => Nat.beq s s' && (Nat.beq t t' && zBc a a')
 | .slice t x l h m, .slice t' x' l' h' m' => Nat.beq t t' && (zBc x x' && (zHx zBc l l' && (zHx zBc h h' && zHx zBc m m')))
 | .fieldAddr t a f, .fieldAddr t' a' f' => Nat.beq t t' && (zBc a a' && Nat.beq f f')
 | .field t a f, .field t' a' f' => Nat.beq t t' && (zBc a a' && Nat.beq f f')
 | .indexAddr t a i, .indexAddr t' a' i' => Nat.beq t t' && (zBc a a' && zBc i i')
 | .index t a i, .index t' a' i' => Nat.beq t t' && (zBc a a' && zBc i i')
 | .extract a i, .extract a' i' => zBc a a' && Nat.beq i i'
 | .call a, .call b => callSame a b
 | _, _ => false
theorem opSame_eq {a b : Op} (h : opSame a b = true) : a = b := by
 unfold opSame at h
 split at h <;> (try simp only [Bool.and_eq_true] at h)
 ·rw [zAn h]
 ·rw [zAn h]
 ·rw [zAn h.1, zAn h.2.1, zAn h.2.2]
 ·rw [zAr h]
 ·rw [zAr h.1, zAr h.2.1, zFs partSame_eq h.2.2]
 ·rw [zAr h.1, zAn h.2]
 ·rw [zAr h.1, zAn h.2.1, zAn h.2.2]
 ·rw [zAn h]
 ·rw [of_decide_eq_true h.1, zAr h.2.1, zAn h.2.2.1, zAn h.2.2.2.1, zAr h.2.2.2.2]
 ·rw [of_decide_eq_true h.1, zAr h.2.1, zAn h.2.2]
 ·rw [zAr h.1, zAr h.2.1, zAn h.2.2]
 ·rw [zAr h.1, zAn h.2.1, zEv (fun _ _ => zAn) h.2.2.1, zEv (fun _ _ => zAn) h.2.2.2.1, zEv (fun _ _ => zAn) h.2.2.2.2]
 ·rw [zAr h.1, zAn h.2.1, zAr h.2.2]
 ·rw [zAr h.1, zAn h.2.1, zAr h.2.2]
 ·rw [zAr h.1, zAn h.2.1, zAn h.2.2]
 ·rw [zAr h.1, zAn h.2.1, zAn h.2.2]
 ·rw [zAn h.1, zAr h.2]
 ·rw [callSame_eq h]
 ·cases h
def edgeSame (a b : Edge) : Bool := Nat.beq a.on b.on && decide (a.ground = b.ground)
theorem edgeSame_eq (a b : Edge) (h : edgeSame a b = true) : a = b := by
 obtain ⟨a1, a2⟩ := a
 obtain ⟨b1, b2⟩ := b
 simp only [edgeSame, Bool.and_eq_true] at h
 rw [zAr h.1, of_decide_eq_true h.2]
def guardSame (a b : Nat × Bool) : Bool := Nat.beq a.1 b.1 && (a.2 == b.2)
theorem guardSame_eq (a b : Nat × Bool) (h : guardSame a b = true) : a = b := by
 obtain ⟨a1, a2⟩ := a
 obtain ⟨b1, b2⟩ := b
 simp only [guardSame, Bool.and_eq_true, beq_iff_eq] at h
 rw [zAr h.1, h.2]
def operSame (a b : Oper) : Bool := zHx Nat.beq a.dst b.dst && (opSame a.op b.op && (Nat.beq a.type b.type && (decide (a.pos = b.pos) && (zKe edgeSame a.after b.after && zHx guardSame a.guard b.guard))))
theorem operSame_eq (a b : Oper) (h : operSame a b = true) : a = b := by
 obtain ⟨a1, a2, a3, a4, a5, a6⟩ := a
 obtain ⟨b1, b2, b3, b4, b5, b6⟩ := b
 simp only [operSame, Bool.and_eq_true] at h
 obtain ⟨h1, h2, h3, h4, h5, h6⟩ := h
 rw [zEv (fun _ _ => zAr) h1, opSame_eq h2, zAr h3, of_decide_eq_true h4, zFs edgeSame_eq h5, zEv guardSame_eq h6]
def zBs : Code → Code → Bool
 | .skip, .skip => true
 | .region i o d, .region i' o' d' => Nat.beq i i' && (zKe operSame o o' && (d == d'))
 | .seq a b, .seq a' b' => zBs a a' && zBs b b'
 | .cond c a b, .cond c' a' b' => zBc c c' && (zBs a a' && zBs b b')
 | .block i a, .block i' a' => Nat.beq i i' && zBs a a'
 | .loop a, .loop a' => zBs a a'
 | .rangeFunc f p a b, .rangeFunc f' p' a' b' => zBc f f' && (zKe Nat.beq p p' && (zBs a a' && zBs b b'))
 | .exit i, .exit i' => Nat.beq i i'
 | .scope a, .scope a' => zBs a a'
 | .label i, .label i' => Nat.beq i i'
 | .ret, .ret => true
 | _, _ => false
theorem zLs : ∀ {a b : Code}, zBs a b = true → a = b := by
 intro a
 induction a with
 | skip => intro b h; cases b <;> first | rfl | (cases h; done)
 | region i o d =>
  intro b h
  cases b <;> first | (cases h; done) | skip
  simp only [zBs, Bool.and_eq_true, beq_iff_eq] at h
  rw [zAr h.1, zFs operSame_eq h.2.1, h.2.2]
 | seq a b iha ihb =>
  intro b h
  cases b <;> first | (cases h; done) | skip
  simp only [zBs, Bool.and_eq_true] at h
  rw [iha h.1, ihb h.2]
 | cond c a b iha ihb =>
  intro b h
  cases b <;> first | (cases h; done) | skip
  simp only [zBs, Bool.and_eq_true] at h
  rw [zAn h.1, iha h.2.1, ihb h.2.2]
 | block i a ih =>
  intro b h
  cases b <;> first | (cases h; done) | skip
  simp only [zBs, Bool.and_eq_true] at h
  rw [zAr h.1, ih h.2]
 | loop a ih =>
  intro b h
  cases b <;> first | (cases h; done) | skip
  simp only [zBs] at h
  rw [ih h]
 | rangeFunc f p a b iha ihb =>
  intro b h
  cases b <;> first | (cases h; done) | skip
  simp only [zBs, Bool.and_eq_true] at h
  rw [zAn h.1, zFs (fun _ _ => zAr) h.2.1, iha h.2.2.1, ihb h.2.2.2]
 | exit i =>
  intro b h
  cases b <;> first | (cases h; done) | skip
  simp only [zBs] at h
  rw [zAr h]
 | scope a ih =>
  intro b h
  cases b <;> first | (cases h; done) | skip
  simp only [zBs] at h
  rw [ih h]
 | label i =>
  intro b h
  cases b <;> first | (cases h; done) | skip
  simp only [zBs] at h
  rw [zAr h]
 | goto i =>
  intro b h
  cases b <;> (cases h; done)
 | ret => intro b h; cases b <;> first | rfl | (cases h; done)
 | refuse w =>
  intro b h
  cases b <;> (cases h; done)
def Tr.allI {α : Type} (p : Nat → α → Bool) : Tr α → Nat → Nat → Bool
 | .lf, _, _ => true
 | .nd l v r, b, m => (match v with
  | some x => p b x
  | none => true) && (Tr.allI p l (b + m) (2 * m) && Tr.allI p r (b + 2 * m) (2 * m))
theorem Tr.allI_ok {α : Type} {p : Nat → α → Bool} : ∀ {t : Tr α} {b m : Nat}, t.allI p b m = true → ∀ {i : Nat} {x : α}, t.get i = some x → p (b + i * m) x = true := by
 intro t
 induction t with
 | lf => intro b m _ i x h; cases h
 | nd l v r ihl ihr =>
  intro b m h i x hx
  simp only [Tr.allI, Bool.and_eq_true] at h
  rw [Tr.get_nd] at hx
  split at hx
  ·rename_i h0
   subst hx h0
   have := h.1
   simpa using this
  ·split at hx
   ·have := ihl h.2.1 hx
    have e : b + m + i / 2 * (2 * m) = b + i * m := by
     have : i = 2 * (i / 2) + 1 := by omega
     have e2 : i * m = (2 * (i / 2) + 1) * m := by rw [← this]
     rw [e2, Nat.add_mul, Nat.mul_comm 2 (i / 2), Nat.mul_assoc]
     omega
    rw [e] at this; exact this
   ·have := ihr h.2.2 hx
    have e : b + 2 * m + (i / 2 - 1) * (2 * m) = b + i * m := by
     have h1 : i = 2 * (i / 2 - 1) + 2 := by omega
     have e2 : i * m = (2 * (i / 2 - 1) + 2) * m := by rw [← h1]
     rw [e2, Nat.add_mul, Nat.mul_comm 2 (i / 2 - 1), Nat.mul_assoc]
     omega
    rw [e] at this; exact this
def Tr.allV {α : Type} (p : α → Bool) : Tr α → Bool
 | .lf => true
 | .nd l v r => (match v with | some x => p x | none => true) && (Tr.allV p l && Tr.allV p r)
theorem Tr.allV_ok {α : Type} {p : α → Bool} : ∀ {t : Tr α}, t.allV p = true → ∀ {i : Nat} {x : α}, t.get i = some x → p x = true := by
 intro t
 induction t with
 | lf => intro _ i x h; cases h
 | nd l v r ihl ihr =>
  intro h i x hx
  simp only [Tr.allV, Bool.and_eq_true] at h
  rw [Tr.get_nd] at hx
  split at hx
  ·subst hx; exact h.1
  ·split at hx
   ·exact ihl h.2.1 hx
   ·exact ihr h.2.2 hx
def Tr.mapT {α β : Type} (f : α → β) : Tr α → Tr β
 | .lf => .lf
 | .nd l v r => .nd (Tr.mapT f l) (v.map f) (Tr.mapT f r)
theorem Tr.get_mapT {α β : Type} {f : α → β} : ∀ {t : Tr α} {i : Nat}, (t.mapT f).get i = (t.get i).map f := by
 intro t
 induction t with
 | lf => intro i; rfl
 | nd l v r ihl ihr =>
  intro i
  simp only [Tr.mapT, Tr.get_nd]
  split
  ·rfl
  ·split
   ·exact ihl
   ·exact ihr
end
end Go.Abs
namespace Go.Abs
noncomputable section
def SE.flat : SE → Bool
 | .lit _ => true
 | .var i => Nat.blt i 128
 | .add a b | .sub a b | .mul a b | .quo a b | .rem a b => a.flat && b.flat
 | .wr _ a => a.flat
 | _ => false
def SE.into (f : Nat → SE) : SE → SE
 | .lit n => .lit n
 | .var i => f i
 | .add a b => .add (a.into f) (b.into f)
 | .sub a b => .sub (a.into f) (b.into f)
 | .mul a b => .mul (a.into f) (b.into f)
 | .quo a b => .quo (a.into f) (b.into f)
 | .rem a b => .rem (a.into f) (b.into f)
 | .wr k a => .wr k (a.into f)
 | e => e
theorem SE.into_ok {f : Nat → SE} {env env' : Nat → Int} (h : ∀ i, i < 128 → env' i = (f i).eval env) : ∀ {e : SE}, e.flat = true → (e.into f).eval env = e.eval env' := by
 intro e
 induction e with
 | lit n => intro _; rfl
 | var i => intro he; exact (h i (Nat.le_of_ble_eq_true he)).symm
 | add a b iha ihb | sub a b iha ihb | mul a b iha ihb | quo a b iha ihb | rem a b iha ihb =>
  intro he
  simp only [SE.flat, Bool.and_eq_true] at he
  simp only [SE.into, SE.eval, iha he.1, ihb he.2]
 | wr k a ih =>
  intro he
  simp only [SE.into, SE.eval, ih he]
 | _ => intro he; cases he
def zBb (f g : Nat → SE) (env : Nat → Int) (j : Nat) : Int :=
 if j % 256 < 128 then (f j).eval env else (g (j % 256)).row env (j / 16384 : Nat) (j / 256 % 64)
theorem zBt {f g : Nat → SE} {env : Nat → Int} {i : Nat} (h : i < 128) : zBb f g env i = (f i).eval env := by
 unfold zBb
 rw [if_pos (by omega)]
theorem zCj {f g : Nat → SE} {env : Nat → Int} {a r c : Nat} (h1 : 128 ≤ a) (h2 : a < 256) (hc : c < 64) : zBb f g env (zDj a (r : Int) c) = (g a).row env r c := by
 unfold zBb zDj
 have e : ((r : Int).toNat * 64 + c) * 256 + a = r * 16384 + c * 256 + a := by simp; omega
 rw [e, if_neg (by omega), show (r * 16384 + c * 256 + a) % 256 = a by omega, show (r * 16384 + c * 256 + a) / 16384 = r by omega, show (r * 16384 + c * 256 + a) / 256 % 64 = c by omega]
mutual
def AV.fit (n : Nat) : AV → Bool
 | .val _ => true
 | .sx _ e => e.flat
 | .ptr b _ => Nat.blt b n
 | .ps b _ r _ => Nat.blt b n && r.flat
 | .ss b _ o l => Nat.blt b n && (o.flat && l.flat)
 | .so l => l.flat
 | .sl b _ _ _ _ => Nat.blt b n
 | .mp b => Nat.blt b n
 | .yl b => Nat.blt b n
 | .ifc _ v => AV.fit n v
 | .agg l => AV.fitL n l
 | .tup l => AV.fitL n l
 | .fn _ a b => AV.fitL n a && AV.fitL n b
def AV.fitL (n : Nat) : List AV → Bool
 | [] => true
 | v :: l => AV.fit n v && AV.fitL n l
end
mutual
def AV.into (f : Nat → SE) (m : Nat → Nat) : AV → AV
 | .val v => .val v
 | .sx k e => .sx k (e.into f)
 | .ptr b o => .ptr (m b) o
 | .ps b z r c => .ps (m b) z (r.into f) c
 | .ss b z o l => .ss (m b) z (o.into f) (l.into f)
 | .so l => .so (l.into f)
 | .sl b i z l c => .sl (m b) i z l c
 | .mp b => .mp (m b)
 | .yl b => .yl (m b)
 | .ifc t v => .ifc t (AV.into f m v)
 | .agg l => .agg (AV.intoL f m l)
 | .tup l => .tup (AV.intoL f m l)
 | .fn g a b => .fn g (AV.intoL f m a) (AV.intoL f m b)
def AV.intoL (f : Nat → SE) (m : Nat → Nat) : List AV → List AV
 | [] => []
 | v :: l => AV.into f m v :: AV.intoL f m l
end
section
variable {F : Facts} {V : @zAc F} (q : zHi) {φ φ' : Phi} {n : Nat} {f : Nat → SE} {m : Nat → Nat}
mutual
theorem RV.taken (he : ∀ i, i < 128 → q.V.env i = (f i).eval V.env) (hn : ∀ b, b < n → φ' b = φ (m b)) : ∀ {v : AV} {x : Value}, v.fit n = true → @RV F V φ (v.into f m) x → @RV q.F q.V φ' v x
 | .val v, x, _, h => by
  simp only [AV.into] at h
  cases h
  exact @RV.val q.F q.V φ' v
 | .sx k e, x, hf, h => by
  simp only [AV.into] at h
  cases h with | sx h =>
  exact @RV.sx q.F q.V φ' _ _ _ (by rw [← h, SE.into_ok he hf])
 | .ptr b o, x, hf, h => by
  simp only [AV.into] at h
  cases h with | ptr h =>
  exact @RV.ptr q.F q.V φ' _ _ _ (by rw [hn b (Nat.le_of_ble_eq_true hf)]; exact h)
 | .ps b z r c, x, hf, h => by
  simp only [AV.into] at h
  simp only [AV.fit, Bool.and_eq_true] at hf
  cases h with | ps h hr =>
  exact @RV.ps q.F q.V φ' _ _ _ _ _ _ (by rw [hn b (Nat.le_of_ble_eq_true hf.1)]; exact h) (by rw [← SE.into_ok he hf.2]; exact hr)
 | .ss b z o l, x, hf, h => by
  simp only [AV.into] at h
  simp only [AV.fit, Bool.and_eq_true] at hf
  cases h with | ss h hm hl hc ho =>
  exact @RV.ss q.F q.V φ' _ _ _ _ _ _ _ _ _ (by rw [hn b (Nat.le_of_ble_eq_true hf.1)]; exact h) (by rw [← SE.into_ok he hf.2.1]; exact hm) (by rw [← SE.into_ok he hf.2.2]; exact hl) hc ho
 | .so l, x, hf, h => by
  simp only [AV.into] at h
  cases h with | so hl =>
  exact @RV.so q.F q.V φ' _ _ _ _ (by rw [← SE.into_ok he hf]; exact hl)
 | .sl b i z l c, x, hf, h => by
  simp only [AV.into] at h
  cases h with | sl h hc hl ho =>
  exact @RV.sl q.F q.V φ' _ _ _ _ _ _ _ _ (by rw [hn b (Nat.le_of_ble_eq_true hf)]; exact h) hc hl ho
 | .mp b, x, hf, h => by
  simp only [AV.into] at h
  cases h with | mp h =>
  exact @RV.mp q.F q.V φ' _ _ (by rw [hn b (Nat.le_of_ble_eq_true hf)]; exact h)
 | .yl b, x, hf, h => by
  simp only [AV.into] at h
  cases h with | yl h =>
  exact @RV.yl q.F q.V φ' _ _ (by rw [hn b (Nat.le_of_ble_eq_true hf)]; exact h)
 | .ifc t v, x, hf, h => by
  simp only [AV.into] at h
  cases h with | ifc h =>
  exact @RV.ifc q.F q.V φ' _ _ _ (RV.taken he hn hf h)
 | .agg l, x, hf, h => by
  simp only [AV.into] at h
  cases h with | agg h =>
  exact @RV.agg q.F q.V φ' _ _ (RL.taken he hn hf h)
 | .tup l, x, hf, h => by
  simp only [AV.into] at h
  cases h with | tup h =>
  exact @RV.tup q.F q.V φ' _ _ (RL.taken he hn hf h)
 | .fn g a b, x, hf, h => by
  simp only [AV.into] at h
  simp only [AV.fit, Bool.and_eq_true] at hf
  cases h with | fn h1 h2 =>
  exact @RV.fn q.F q.V φ' _ _ _ _ _ (RL.taken he hn hf.1 h1) (RL.taken he hn hf.2 h2)
theorem RL.taken (he : ∀ i, i < 128 → q.V.env i = (f i).eval V.env) (hn : ∀ b, b < n → φ' b = φ (m b)) : ∀ {l : List AV} {xs : List Value}, AV.fitL n l = true → @RL F V φ (AV.intoL f m l) xs → @RL q.F q.V φ' l xs
 | [], xs, _, h => by
  simp only [AV.intoL] at h
  cases h
  exact @RL.nil q.F q.V φ'
 | v :: l, xs, hf, h => by
  simp only [AV.intoL] at h
  simp only [AV.fitL, Bool.and_eq_true] at hf
  cases h with | cons h1 h2 =>
  exact @RL.cons q.F q.V φ' _ _ _ _ (RV.taken he hn hf.1 h1) (RL.taken he hn hf.2 h2)
end
end
def ckSame : CK → CK → Bool
 | .i k, .i k' => decide (k = k')
 | .b, .b => true
 | .s, .s => true
 | _, _ => false
theorem ckSame_eq {c d : CK} (h : ckSame c d = true) : c = d := by
 cases c <;> cases d <;> simp only [ckSame] at h <;> first | rfl | (cases h; done) | skip
 rw [of_decide_eq_true h]
def below (p : Nat → Bool) : Nat → Bool
 | 0 => true
 | n + 1 => p n && below p n
theorem below_ok {p : Nat → Bool} : ∀ {n : Nat}, below p n = true → ∀ i, i < n → p i = true := by
 intro n
 induction n with
 | zero => intro _ i h; omega
 | succ n ih =>
  intro h i hi
  simp only [below, Bool.and_eq_true] at h
  by_cases e : i = n
  ·subst e; exact h.1
  ·exact ih h.2 i (by omega)
section
variable [Facts]
def sameV0 : AV → AV → Bool
 | .ss b z o l, .ss b' z' o' l' => Nat.beq b b' && (Nat.beq z z' && (zLu (mkEq o o') && zLu (mkEq l l')))
 | .ps b z r c, .ps b' z' r' c' => Nat.beq b b' && (Nat.beq z z' && (Nat.beq c c' && zLu (mkEq r r')))
 | .so l, .so l' => zLu (mkEq l l')
 | a, b => match zOq a, zOq b with
  | some (k, x), some (k', y) => decide (k = k') && zLu (mkEq x y)
  | _, _ => AV.same 4 a b
theorem sameV0_ok [zAc] {φ : Phi} {a b : AV} {x : Value} (h : sameV0 a b = true) (hr : RV φ a x) : RV φ b x := by
 unfold sameV0 at h
 split at h
 ·simp only [Bool.and_eq_true] at h
  obtain ⟨h1, h2, h3, h4⟩ := h
  have h1 := zAr h1
  have h2 := zAr h2
  subst h1 h2
  cases hr with | ss e hm hl hc ho =>
  exact .ss e (by rw [← yesEq h3]; exact hm) (by rw [← yesEq h4]; exact hl) hc ho
 ·simp only [Bool.and_eq_true] at h
  obtain ⟨h1, h2, h3, h4⟩ := h
  have h1 := zAr h1
  have h2 := zAr h2
  have h3 := zAr h3
  subst h1 h2 h3
  cases hr with | ps e hm =>
  exact .ps e (by rw [← yesEq h4]; exact hm)
 ·cases hr with | so hl =>
  exact .so (by rw [← yesEq h]; exact hl)
 ·split at h
  ·rename_i k u k' v e1 e2
   simp only [Bool.and_eq_true, decide_eq_true_eq] at h
   obtain ⟨rfl, h⟩ := h
   obtain rfl := zCn hr e1
   rw [yesEq h]
   exact RV.of_se e2
  ·rw [← AV.same_eq h]; exact hr
def sameV : AV → AV → Bool
 | .ifc t a, .ifc t' b => Nat.beq t t' && sameV0 a b
 | a, b => sameV0 a b
theorem sameV_ok [zAc] {φ : Phi} {a b : AV} {x : Value} (h : sameV a b = true) (hr : RV φ a x) : RV φ b x := by
 unfold sameV at h
 split at h
 ·simp only [Bool.and_eq_true] at h
  obtain ⟨h1, h2⟩ := h
  have h1 := zAr h1
  subst h1
  cases hr with | ifc hv =>
  exact .ifc (sameV0_ok h2 hv)
 ·exact sameV0_ok h hr
def corrA (n : Nat) (f : Nat → SE) (m : Nat → Nat) (u v : AV) : Bool := AV.fit n v && sameV u (AV.into f m v)
def zNc (n : Nat) (f : Nat → SE) (m : Nat → Nat) (c c' : Tr AV) (k : Nat) : Bool :=
 below (fun i => match c'.get i with
  | none => true
  | some v => (match c.get i with
   | some u => corrA n f m u v
   | none => false)) k
def corrB (n : Nat) (f g : Nat → SE) (m : Nat → Nat) : Blk → Blk → Bool
 | .cells c k z, .cells c' k' z' => Nat.beq k k' && (zHx Nat.beq z z' && zNc n f m c c' k)
 | .ro c k, .ro c' k' => Nat.ble k' k && zNc n f m c c' k'
 | .cells c k _, .ro c' k' => Nat.ble k' k && zNc n f m c c' k'
 | .arr ks A l ro, .arr ks' (.tab a) l' ro' => zGk ckSame ks ks' && (Nat.ble ks.length 64 && ((ro' || !ro) && (Nat.ble 128 a && (Nat.blt a 256 && (SE.beq A (g a) && (l'.flat && zLu (mkEq l (l'.into f))))))))
 | .loop st pend fn env nt ps a b d, .loop st' pend' fn' env' nt' ps' a' b' d' => decide (st = st') && (zHx zBs pend pend' && (Nat.beq fn fn' && (Nat.beq nt nt' && (zKe Nat.beq ps ps' && (zBs a a' && (zBs b b' && (Nat.blt d' n && (Nat.beq d (m d') &&
   Tr.allI (fun i v => Nat.blt i nt && (match env.get i with
    | some u => corrA n f m u v
    | none => false)) env' 0 1))))))))
 | .dfr, .dfr => true
 | _, _ => false
theorem zCz {n : Nat} {f g : Nat → SE} {m : Nat → Nat} {x x' : Blk} (h : corrB n f g m x x' = true) (hf : x'.fixed = false) : x.fixed = false := by
 unfold corrB at h
 split at h
 ·rfl
 ·cases hf
 ·cases hf
 ·simp only [Bool.and_eq_true] at h
  have e := h.2.2.1
  have hf : _ = false := hf
  simp only [Blk.fixed] at hf ⊢
  rw [hf] at e
  simpa using e
 ·rfl
 ·rfl
 ·cases h
end
section
variable {F : Facts} {V : @zAc F} (q : zHi) {φ φ' : Phi} {n : Nat} {f g : Nat → SE} {m : Nat → Nat} {w : World} {a : Lc}
theorem corrA_ok (he : ∀ i, i < 128 → q.V.env i = (f i).eval V.env) (hn : ∀ b, b < n → φ' b = φ (m b)) {u v : AV} {x : Value} (h : @corrA F n f m u v = true) (hr : @RV F V φ u x) : @RV q.F q.V φ' v x := by
 simp only [corrA, Bool.and_eq_true] at h
 exact RV.taken q he hn h.1 (sameV_ok h.2 hr)
theorem zKc (he : ∀ i, i < 128 → q.V.env i = (f i).eval V.env) (hn : ∀ b, b < n → φ' b = φ (m b)) {c c' : Tr AV} {k off : Nat} {arr : Array Value} (h : @zNc F n f m c c' k = true) (hr : @Cells F V φ c k off arr) : @Cells q.F q.V φ' c' k off arr := by
 refine ⟨hr.1, fun i v hi hv => ?_⟩
 have := below_ok h i hi
 simp only [hv] at this
 split at this
 ·rename_i u hu
  obtain ⟨x, h1, h2⟩ := hr.2 i u hi hu
  exact ⟨x, h1, corrA_ok q he hn this h2⟩
 ·cases this
theorem corrB_ok (he : ∀ i, i < 128 → q.V.env i = (f i).eval V.env) (ht : ∀ a r c : Nat, 128 ≤ a → a < 256 → c < 64 → q.V.env (zDj a (r : Int) c) = (g a).row V.env r c) (hn : ∀ b, b < n → φ' b = φ (m b)) {x x' : Blk} (h : @corrB F n f g m x x' = true) (hr : @RB F V φ w a x) : @RB q.F q.V φ' w a x' := by
 unfold corrB at h
 split at h
 ·rename_i c k z c' k' z'
  simp only [Bool.and_eq_true] at h
  obtain ⟨h1, h2, h3⟩ := h
  have h1 := zAr h1
  have h2 := zEv (fun _ _ => zAr) h2
  subst h1 h2
  obtain ⟨arr, el, e1, e2, e3⟩ := hr
  exact ⟨arr, el, e1, zKc q he hn h3 e2, e3⟩
 ·rename_i c k c' k'
  simp only [Bool.and_eq_true] at h
  obtain ⟨h1, h3⟩ := h
  have h1 := Nat.le_of_ble_eq_true h1
  obtain ⟨arr, el, fz, e1, e2⟩ := hr
  exact ⟨arr, el, fz, e1, zKc q he hn h3 ⟨by have := e2.1; omega, fun i v hi hv => e2.2 i v (by omega) hv⟩⟩
 ·rename_i c k z c' k'
  simp only [Bool.and_eq_true] at h
  obtain ⟨h1, h3⟩ := h
  have h1 := Nat.le_of_ble_eq_true h1
  obtain ⟨arr, el, e1, e2, _⟩ := hr
  exact ⟨arr, el, _, e1, zKc q he hn h3 ⟨by have := e2.1; omega, fun i v hi hv => e2.2 i v (by omega) hv⟩⟩
 ·rename_i ks A l ro ks' ta l' ro'
  simp only [Bool.and_eq_true] at h
  obtain ⟨h1, h2, h3, h4, h5, h6, h7, h8⟩ := h
  have h1 := zLo (fun _ _ => ckSame_eq) h1
  have h6 := SE.beq_eq h6
  subst h1 h6
  have hro : ro' = false → ro = false := fun e => by rw [e] at h3; simpa using h3
  obtain ⟨arr, el, fz, e1, e2, mm, e3, e4, e5⟩ := hr
  have hlen := yesEq h8
  rw [SE.into_ok he h7] at hlen
  refine ⟨arr, el, fz, e1, fun h => e2 (hro h), mm, by rw [← hlen]; exact e3, e4, fun r c k hlt hk => ?_⟩
  obtain ⟨x, p1, p2⟩ := e5 r c k hlt hk
  refine ⟨x, p1, ?_⟩
  have hc : c < 64 := by
   have := (List.getElem?_eq_some_iff.1 hk).1
   have := Nat.le_of_ble_eq_true h2
   omega
  have : (SE.tab ta).row q.V.env r c = (g ta).row V.env r c := ht ta r c (Nat.le_of_ble_eq_true h4) (Nat.le_of_ble_eq_true h5) hc
  rw [this]; exact p2
 ·rename_i st pend fn env nt ps a b d st' pend' fn' env' nt' ps' a' b' d'
  simp only [Bool.and_eq_true, decide_eq_true_eq] at h
  obtain ⟨h1, h2, h3, h4, h5, h6, h7, h8, h9, h10⟩ := h
  have h2 := zEv (fun _ _ => zLs) h2
  have h3 := zAr h3
  have h4 := zAr h4
  have h5 := zFs (fun _ _ => zAr) h5
  have h6 := zLs h6
  have h7 := zLs h7
  have h9 := zAr h9
  subst h1 h2 h3 h4 h5 h6 h7 h9
  obtain ⟨tm, da, e1, e2, e3⟩ := hr
  refine ⟨tm, da, by rw [hn d' (Nat.le_of_ble_eq_true h8)]; exact e1, @RE.mk q.F q.V _ _ _ _ (@RE.size F V _ _ _ _ e2) (fun i v hv => ?_), e3⟩
  have := Tr.allI_ok h10 hv
  simp only [Nat.mul_one, Nat.zero_add, Bool.and_eq_true] at this
  refine ⟨Nat.le_of_ble_eq_true this.1, ?_⟩
  have h2 := this.2
  split at h2
  ·rename_i u hu
   exact corrA_ok q he hn h2 (@RE.some F V _ _ _ _ e2 i u hu).2
  ·cases h2
 ·exact hr
 ·cases h
end
end
end Go.Abs
namespace Go.Abs
noncomputable section
def addB (s : HS) (x : Blk) : HS := { s with h := s.h.set s.n (s.clk, x), n := s.n + 1 }
def zOp (s : HS) : List Blk → HS
 | [] => s
 | x :: l => zOp (addB s x) l
theorem addAll_n : ∀ {l : List Blk} {s : HS}, (zOp s l).n = s.n + l.length ∧ (zOp s l).clk = s.clk ∧ (zOp s l).lim = s.lim := by
 intro l
 induction l with
 | nil => intro s; exact ⟨rfl, rfl, rfl⟩
 | cons x l ih =>
  intro s
  obtain ⟨h1, h2, h3⟩ := ih (s := addB s x)
  refine ⟨?_, h2, h3⟩
  unfold zOp
  rw [h1]
  simp only [addB, List.length_cons]
  omega
theorem zOc : ∀ {l : List Blk} {s : HS} {b : Nat}, (zOp s l).h.get b = if s.n ≤ b ∧ b < s.n + l.length then (l[b - s.n]?).map (fun x => (s.clk, x)) else s.h.get b := by
 intro l
 induction l with
 | nil => intro s b; rw [if_neg (by simp only [List.length_nil]; omega)]; rfl
 | cons x l ih =>
  intro s b
  unfold zOp
  rw [ih]
  simp only [addB, Tr.get_set, List.length_cons]
  by_cases h1 : s.n + 1 ≤ b ∧ b < s.n + 1 + l.length
  ·rw [if_pos h1, if_pos (by omega)]
   have : b - s.n = (b - (s.n + 1)) + 1 := by omega
   rw [this, List.getElem?_cons_succ]
  ·rw [if_neg h1]
   by_cases h2 : b = s.n
   ·subst h2
    rw [if_pos rfl, if_pos (by omega)]
    simp
   ·rw [if_neg h2, if_neg (by omega)]
theorem tmpsOn_get : ∀ {l : List (Nat × AV)} {t : Env} {i : Nat} {v : AV}, (zLx t l).get i = some v → (i, v) ∈ l ∨ t.get i = some v := by
 intro l
 induction l with
 | nil => intro t i v h; exact .inr h
 | cons p l ih =>
  intro t i v h
  obtain ⟨j, u⟩ := p
  rcases ih h with h2 | h2
  ·exact .inl (.tail _ h2)
  ·rw [Tr.get_set] at h2
   split at h2
   ·rename_i e; subst e; cases h2; exact .inl (.head _)
   ·exact .inr h2
theorem zIp {l : List (Nat × AV)} {i : Nat} {v : AV} (h : (tmps l).get i = some v) : (i, v) ∈ l := by
 rcases tmpsOn_get h with h | h
 ·exact h
 ·simp [Tr.get] at h
structure Shape where
 t : List (Nat × AV)
 bl : List Blk
def Shape.heap (G : Nat) (tabs : List (Nat × List Value)) (sh : Shape) : HS := zOp (zGh G tabs) sh.bl
def zHr (G n : Nat) (L : Nat → Lc) : Phi := fun b => if b < G then some ⟨b, 0, 0⟩ else if b < G + n then some (L (b - G)) else none
theorem zFd {G n : Nat} {L : Nat → Lc} {b : Nat} (h : b < G) : zHr G n L b = some ⟨b, 0, 0⟩ := by unfold zHr; rw [if_pos h]
theorem zCu {G n : Nat} {L : Nat → Lc} {k : Nat} (h : k < n) : zHr G n L (G + k) = some (L k) := by
 unfold zHr
 rw [if_neg (by omega), if_pos (by omega)]
 congr 2; omega
theorem zMg {G n : Nat} {L : Nat → Lc} {b : Nat} (h : G + n ≤ b) : zHr G n L b = none := by
 unfold zHr
 rw [if_neg (by omega), if_neg (by omega)]
theorem zKi {G : Nat} {tabs : List (Nat × List Value)} : (zGh G tabs).n = G ∧ (zGh G tabs).clk = 0 := ⟨rfl, rfl⟩
def nameOf (G : Nat) (ns : List Nat) (b : Nat) : Nat := bif Nat.blt b G then b else (ns[b - G]?).getD 0
theorem zIh {G i c : Nat} {ns : List Nat} (h : ns[i]? = some c) : nameOf G ns (G + i) = c := by
 unfold nameOf
 rw [show Nat.blt (G + i) G = false by
  cases hx : Nat.blt (G + i) G with
  | false => rfl
  | true => have := Nat.le_of_ble_eq_true hx; omega, cond_false, show G + i - G = i by omega, h]
 rfl
theorem nameOf_glob {G c : Nat} {ns : List Nat} (h : c < G) : nameOf G ns c = c := by
 unfold nameOf
 rw [show Nat.blt c G = true from Nat.ble_eq_true_of_le h]
 rfl
def zJh : List Nat → Bool
 | [] => true
 | x :: l => l.all (fun y => !(Nat.beq x y)) && zJh l
theorem apartB_ok : ∀ {l : List Nat}, zJh l = true → ∀ (i j : Nat) x, l[i]? = some x → l[j]? = some x → i = j := by
 intro l
 induction l with
 | nil => intro _ i j x h; simp at h
 | cons y l ih =>
  intro h i j x hi hj
  simp only [zJh, Bool.and_eq_true, List.all_eq_true] at h
  have no : ∀ k, l[k]? = some y → False := fun k hk => by
   have := h.1 y (List.mem_of_getElem? hk)
   rw [Nat.beq_refl] at this
   cases this
  cases i with
  | zero =>
   simp only [List.getElem?_cons_zero, Option.some.injEq] at hi
   subst hi
   cases j with
   | zero => rfl
   | succ j => exact (no j (by simpa using hj)).elim
  | succ i =>
   cases j with
   | zero =>
    simp only [List.getElem?_cons_zero, Option.some.injEq] at hj
    subst hj
    exact (no i (by simpa using hi)).elim
   | succ j => rw [ih h.2 i j x (by simpa using hi) (by simpa using hj)]
def upFrom : Nat → Nat → List Nat
 | _, 0 => []
 | n, k + 1 => n :: upFrom (n + 1) k
theorem upFrom_get : ∀ {k n i : Nat}, (upFrom n k)[i]? = if i < k then some (n + i) else none := by
 intro k
 induction k with
 | zero => intro n i; simp [upFrom]
 | succ k ih =>
  intro n i
  cases i with
  | zero => simp [upFrom]
  | succ i =>
   simp only [upFrom, List.getElem?_cons_succ, ih]
   by_cases h : i < k
   ·rw [if_pos h, if_pos (by omega)]; congr 1; omega
   ·rw [if_neg h, if_neg (by omega)]
def Own (sh : Shape) (L : Nat → Lc) (r : Nat) : Prop := ∃ (k : Nat) (x : Blk), sh.bl[k]? = some x ∧ x.fixed = false ∧ (L k).blk = r
structure zLt (stay : Nat) (sh : Shape) (L : Nat → Lc) (w : World) (sh' : Shape) (L' : Nat → Lc) (w' : World) : Prop where
 os : w'.os = w.os
 tape : w'.tape = w.tape
 output : w'.output = w.output
 size : w.heap.size ≤ w'.heap.size
 heap : ∀ r, r < w.heap.size → ¬ Own sh L r → w'.heap[r]? = w.heap[r]?
 same : ∀ k, k < stay → L' k = L k
 own : ∀ r, Own sh' L' r → w.heap.size ≤ r ∨ Own sh L r
theorem zLt.trans {stay : Nat} {sh sh1 sh2 : Shape} {L L1 L2 : Nat → Lc} {w w1 w2 : World} (h : zLt stay sh L w sh1 L1 w1) (k : zLt stay sh1 L1 w1 sh2 L2 w2) : zLt stay sh L w sh2 L2 w2 :=
 ⟨k.os.trans h.os, k.tape.trans h.tape, k.output.trans h.output, Nat.le_trans h.size k.size,
  fun r hr hn => (k.heap r (Nat.lt_of_lt_of_le hr h.size) (fun ho => (h.own r ho).elim (fun h1 => absurd hr (by omega)) hn)).trans (h.heap r hr hn),
  fun i hi => (k.same i hi).trans (h.same i hi),
  fun r hr => (k.own r hr).elim (fun h1 => .inl (Nat.le_trans h.size h1)) (h.own r)⟩
section
variable [Facts]
def noDefs : List ADef → Bool
 | [.rest] => true
 | _ => false
omit [Facts] in
theorem noDefs_eq {l : List ADef} (h : noDefs l = true) : l = [.rest] := by
 unfold noDefs at h
 split at h
 ·rfl
 ·cases h
def metT (n : Nat) (f : Nat → SE) (m : Nat → Nat) (t : Env) : List (Nat × AV) → Bool
 | [] => true
 | (i, v) :: l => (match t.get i with
  | some u => corrA n f m u v
  | none => false) && metT n f m t l
def metB (n : Nat) (f g : Nat → SE) (m : Nat → Nat) (h : Tr (Nat × Blk)) : Nat → List Blk → Bool
 | _, [] => true
 | b, x :: l => (match h.get (m b) with
  | some (_, y) => corrB n f g m y x
  | none => false) && metB n f g m h (b + 1) l
def Shape.met (G : Nat) (f g : Nat → SE) (m : Nat → Nat) (sh : Shape) (t : Env) (h : Tr (Nat × Blk)) : Bool :=
 metT (G + sh.bl.length) f m t sh.t && metB (G + sh.bl.length) f g m h G sh.bl
theorem metT_ok {n : Nat} {f : Nat → SE} {m : Nat → Nat} {t : Env} : ∀ {l : List (Nat × AV)}, metT n f m t l = true → ∀ p ∈ l, ∃ u, t.get p.1 = some u ∧ corrA n f m u p.2 = true := by
 intro l
 induction l with
 | nil => intro _ p hp; cases hp
 | cons q l ih =>
  intro h p hp
  obtain ⟨i, v⟩ := q
  simp only [metT, Bool.and_eq_true] at h
  rcases List.mem_cons.1 hp with rfl | hp
  ·have h1 := h.1
   split at h1
   ·rename_i u hu; exact ⟨u, hu, h1⟩
   ·cases h1
  ·exact ih h.2 p hp
theorem metB_ok {n : Nat} {f g : Nat → SE} {m : Nat → Nat} {h : Tr (Nat × Blk)} : ∀ {l : List Blk} {b : Nat}, metB n f g m h b l = true → ∀ (k : Nat) x, l[k]? = some x → ∃ t y, h.get (m (b + k)) = some (t, y) ∧ corrB n f g m y x = true := by
 intro l
 induction l with
 | nil => intro b _ k x hk; simp at hk
 | cons z l ih =>
  intro b hh k x hk
  simp only [metB, Bool.and_eq_true] at hh
  cases k with
  | zero =>
   simp only [List.getElem?_cons_zero, Option.some.injEq] at hk
   subst hk
   have h1 := hh.1
   split at h1
   ·rename_i t y e; exact ⟨t, y, e, h1⟩
   ·cases h1
  | succ k =>
   obtain ⟨t, y, e1, e2⟩ := ih hh.2 k x (by simpa using hk)
   exact ⟨t, y, by rw [show b + (k + 1) = b + 1 + k by omega]; exact e1, e2⟩
end
structure Case where
 pc : List (SB × Bool)
 e : Ex
 to : Nat
 f : List SE
 g : List SE
 m : List Nat := []
def nmL (G b : Nat) : List Nat → Nat
 | [] => b
 | l => nameOf G l b
def idFirst : Nat → Nat → List Nat → Bool
 | _, 0, _ => true
 | b, n + 1, x :: l => Nat.beq x b && idFirst (b + 1) n l
 | _, _ + 1, [] => false
def namedL (G stay n : Nat) : List Nat → Bool
 | [] => true
 | l => Nat.ble n l.length && (zJh l && (l.all (Nat.ble G) && idFirst G stay l))
def Case.nm (c : Case) (G b : Nat) : Nat := nmL G b c.m
def Case.named (c : Case) (G stay n : Nat) : Bool := namedL G stay n c.m
theorem idFirst_ok : ∀ {n b : Nat} {l : List Nat}, idFirst b n l = true → ∀ i, i < n → l[i]? = some (b + i) := by
 intro n
 induction n with
 | zero => intro b l _ i h; omega
 | succ n ih =>
  intro b l h i hi
  cases l with
  | nil => cases h
  | cons x l =>
   simp only [idFirst, Bool.and_eq_true] at h
   cases i with
   | zero => simp only [List.getElem?_cons_zero, Nat.add_zero]; rw [zAr h.1]
   | succ i => rw [List.getElem?_cons_succ, ih h.2 i (by omega)]; congr 1; omega
theorem Case.nm_glob {c : Case} {G b : Nat} (h : b < G) : c.nm G b = b := by
 unfold Case.nm
 cases c.m with
 | nil => rfl
 | cons x l => exact nameOf_glob h
theorem Case.nm_stay {c : Case} {G stay n k : Nat} (h : c.named G stay n = true) (hk : k < stay) : c.nm G (G + k) = G + k := by
 unfold Case.named at h
 unfold Case.nm
 cases hm : c.m with
 | nil => rfl
 | cons x l =>
  rw [hm] at h
  simp only [namedL, Bool.and_eq_true] at h
  exact zIh (idFirst_ok h.2.2.2 k hk)
theorem Case.nm_own {c : Case} {G stay n k : Nat} (h : c.named G stay n = true) (hk : k < n) : G ≤ c.nm G (G + k) ∧ ∀ k', k' < n → c.nm G (G + k) = c.nm G (G + k') → k = k' := by
 unfold Case.named at h
 unfold Case.nm
 cases hm : c.m with
 | nil => exact ⟨Nat.le_add_right _ _, fun k' _ e => by have e : G + k = G + k' := e; omega⟩
 | cons x0 l0 =>
  rw [hm] at h
  show G ≤ nameOf G (x0 :: l0) (G + k) ∧ ∀ k', k' < n → nameOf G (x0 :: l0) (G + k) = nameOf G (x0 :: l0) (G + k') → k = k'
  have h : (Nat.ble n (x0 :: l0).length && (zJh (x0 :: l0) && ((x0 :: l0).all (Nat.ble G) && idFirst G stay (x0 :: l0)))) = true := h
  generalize x0 :: l0 = l at h ⊢
  simp only [Bool.and_eq_true, List.all_eq_true] at h
  obtain ⟨h1, h2, h3, _⟩ := h
  have h1 := Nat.le_of_ble_eq_true h1
  have hn : ∀ k, k < n → l[k]? = some (nameOf G l (G + k)) := fun k hk => by
   have : l[k]? = some l[k] := List.getElem?_eq_getElem (by omega)
   rw [zIh this]; exact this
  refine ⟨Nat.le_of_ble_eq_true (h3 _ (List.mem_of_getElem? (hn k hk))), fun k' hk' e => ?_⟩
  refine apartB_ok h2 k k' _ (hn k hk) ?_
  rw [e]; exact hn k' hk'
def Case.fv (c : Case) (i : Nat) : SE := (c.f[i]?).getD (.var i)
def Case.gv (c : Case) (a : Nat) : SE := (c.g[a - 128]?).getD (.tab a)
def Case.next (c : Case) (env : Nat → Int) : Nat → Int := zBb c.fv c.gv env
def Case.chk [Facts] (G nt stay : Nat) (sh : Shape) (c : Case) (p : Ex × St) (s : HS) : Bool :=
 exSame p.1 c.e && (noDefs p.2.ds && (Nat.beq p.2.nt nt && (c.named G stay sh.bl.length && sh.met G c.fv c.gv (c.nm G) p.2.t s.h)))
def zCk (P : Program) (tabs : List (Nat × List Value)) (L : Nat → Lc) (B nt : Nat) (sh : Shape) (env : Nat → Int) (w : World) (tmp : Array Value) : Prop :=
 ∀ q : zHi, q.V.env = env → @RW q.F q.V (zHr P.globals.size sh.bl.length L) B (sh.heap P.globals.size tabs) w ∧ @RE q.F q.V (zHr P.globals.size sh.bl.length L) (tmps sh.t) nt tmp
section
variable {P : Program} {tabs : List (Nat × List Value)} {L : Nat → Lc} {B nt N fuel : Nat} {fn : FuncId} {b : Code}
theorem zDz {G : Nat} {sh : Shape} {c t : Nat} {x : Blk} (hlt : ∀ p ∈ tabs, p.1 < G) (e : (sh.heap G tabs).h.get c = some (t, x)) :
  (∃ p ∈ tabs, c = p.1 ∧ t = 0 ∧ x = .ro (Tr.fill (p.2.map .val) 0 .lf) p.2.length) ∨ ∃ k, k < sh.bl.length ∧ c = G + k ∧ t = 0 ∧ sh.bl[k]? = some x := by
 unfold Shape.heap at e
 rw [zOc] at e
 rw [zKi.1, zKi.2] at e
 split at e
 ·rename_i h
  rw [Option.map_eq_some_iff] at e
  obtain ⟨y, h1, h2⟩ := e
  cases h2
  exact .inr ⟨c - G, by omega, by omega, rfl, h1⟩
 ·exact .inl (zGt e)
theorem zFh {G : Nat} {sh : Shape} {k : Nat} {x : Blk} (h : sh.bl[k]? = some x) : (sh.heap G tabs).h.get (G + k) = some (0, x) := by
 have hk := (List.getElem?_eq_some_iff.1 h).1
 unfold Shape.heap
 rw [zOc, zKi.1, zKi.2, if_pos (by omega), show G + k - G = k by omega, h]
 rfl
theorem zMs {G : Nat} {sh : Shape} : (sh.heap G tabs).n = G + sh.bl.length := by
 unfold Shape.heap
 rw [addAll_n.1, zKi.1]
theorem heap_tab {G : Nat} {sh : Shape} {c : Nat} (h : c < G) : (sh.heap G tabs).h.get c = (zGh G tabs).h.get c := by
 unfold Shape.heap
 rw [zOc, zKi.1, if_neg (by omega)]
theorem tabs_rb {q q' : zHi} {φ φ' : Phi} {w : World} {a : Lc} {p : Nat × List Value} (h : @RB q.F q.V φ w a (.ro (Tr.fill (p.2.map .val) 0 .lf) p.2.length)) : @RB q'.F q'.V φ' w a (.ro (Tr.fill (p.2.map .val) 0 .lf) p.2.length) := by
 obtain ⟨arr, el, fz, h1, h2, h3⟩ := h
 refine ⟨arr, el, fz, h1, h2, fun i v hi hv => ?_⟩
 obtain ⟨x, g1, g2⟩ := h3 i v hi hv
 refine ⟨x, g1, ?_⟩
 rw [Tr.get_fill, if_pos (by simp; exact hi)] at hv
 simp only [Nat.sub_zero, List.getElem?_map, Option.map_eq_some_iff] at hv
 obtain ⟨y, _, rfl⟩ := hv
 cases g2
 exact @RV.val q'.F q'.V φ' _
theorem zLm {stay nt1 : Nat} (hlt : ∀ p ∈ tabs, p.1 < P.globals.size) (q : zHi) {sh sh' : Shape} {c : Case} (hlen : stay ≤ sh.bl.length) {w w1 : World} {ψ : Phi} {s1 : HS} {te : Env} {tmps1 : Array Value}
  (g6 : c.named P.globals.size stay sh'.bl.length = true) (g4 : @metT q.F (P.globals.size + sh'.bl.length) c.fv (c.nm P.globals.size) te sh'.t = true) (g5 : @metB q.F (P.globals.size + sh'.bl.length) c.fv c.gv (c.nm P.globals.size) s1.h P.globals.size sh'.bl = true)
  (h2 : @Stp q.F q.V (zHr P.globals.size sh.bl.length L) B (sh.heap P.globals.size tabs) w ψ s1 w1) (h3 : @RE q.F q.V ψ te nt1 tmps1) :
  ∃ L', zLt stay sh L w sh' L' w1 ∧ zCk P tabs L' B nt1 sh' (c.next q.V.env) w1 tmps1 ∧ ∀ (i : Nat) y, sh'.bl[i]? = some y → ∃ t0 x, s1.h.get (c.nm P.globals.size (P.globals.size + i)) = some (t0, x) ∧ (y.fixed = false → x.fixed = false) ∧ ψ (c.nm P.globals.size (P.globals.size + i)) = some (L' i) := by
 have hle : (zHr P.globals.size sh.bl.length L).le ψ := @Stp.le q.F q.V _ _ _ _ _ _ _ h2
 have hst : @RW q.F q.V ψ B s1 w1 := @Stp.rw q.F q.V _ _ _ _ _ _ _ h2
 have hfr : Fr (zHr P.globals.size sh.bl.length L) (sh.heap P.globals.size tabs) w w1 := @Stp.fr q.F q.V _ _ _ _ _ _ _ h2
 have hup : Up (sh.heap P.globals.size tabs) s1 := @Stp.up q.F q.V _ _ _ _ _ _ _ h2
 have hnew := @Stp.new q.F q.V _ _ _ _ _ _ _ h2
 let L' : Nat → Lc := fun i => (ψ (c.nm P.globals.size (P.globals.size + i))).getD ⟨0, 0, 0⟩
 have hL' : ∀ (i : Nat) y, sh'.bl[i]? = some y → ∃ t0 x, s1.h.get (c.nm P.globals.size (P.globals.size + i)) = some (t0, x) ∧ @corrB q.F (P.globals.size + sh'.bl.length) c.fv c.gv (c.nm P.globals.size) x y = true ∧ ψ (c.nm P.globals.size (P.globals.size + i)) = some (L' i) := fun i y hy => by
  obtain ⟨t0, x, e1, e2⟩ := @metB_ok q.F _ _ _ _ _ _ _ g5 i y hy
  obtain ⟨a, ha, _⟩ := @RW.blk q.F q.V _ _ _ _ hst _ _ _ e1
  exact ⟨t0, x, e1, e2, by rw [ha]; simp [L', ha]⟩
 have hnm : ∀ x, x < P.globals.size + sh'.bl.length → zHr P.globals.size sh'.bl.length L' x = ψ (c.nm P.globals.size x) := fun x hx => by
  by_cases hg : x < P.globals.size
  ·rw [zFd hg, Case.nm_glob hg]
   exact (hle _ _ (zFd hg)).symm
  ·obtain ⟨i, rfl⟩ : ∃ i, x = P.globals.size + i := ⟨x - P.globals.size, by omega⟩
   obtain ⟨y, hy⟩ : ∃ y, sh'.bl[i]? = some y := ⟨_, List.getElem?_eq_getElem (by omega)⟩
   obtain ⟨_, _, _, _, e⟩ := hL' i y hy
   rw [zCu (by omega), e]
 have hfix : ∀ (i : Nat) (x : Blk), sh.bl[i]? = some x → (sh.heap P.globals.size tabs).h.get (P.globals.size + i) = some (0, x) := fun i x hx => zFh hx
 refine ⟨L', ⟨hfr.os, hfr.tape, hfr.output, hfr.size, fun r hr' hno => hfr.heap r hr' fun x t y a ex hy ha => ?_, fun i hi => ?_, fun r hr => ?_⟩, fun q' hq' => ?_, fun i y hy => (hL' i y hy).elim fun t0 h => h.elim fun x h => ⟨t0, x, h.1, @zCz q.F _ _ _ _ _ _ h.2.1, h.2.2⟩⟩
 ·rcases zDz hlt ex with ⟨p, _, _, _, rfl⟩ | ⟨i, hi, rfl, _, hx⟩
  ·cases hy
  ·rw [zCu hi] at ha
   cases ha
   exact fun e => hno ⟨i, y, hx, hy, e⟩
 ·show (ψ (c.nm P.globals.size (P.globals.size + i))).getD ⟨0, 0, 0⟩ = L i
  rw [Case.nm_stay g6 hi, hle _ _ (zCu (by omega))]
  rfl
 ·obtain ⟨i, y, hy, hf, rfl⟩ := hr
  obtain ⟨t0, x, e1, e2, e3⟩ := hL' i y hy
  have hxf : x.fixed = false := @zCz q.F _ _ _ _ _ _ e2 hf
  have hi := (List.getElem?_eq_some_iff.1 hy).1
  have hge := (Case.nm_own g6 hi).1
  cases hφ : zHr P.globals.size sh.bl.length L (c.nm P.globals.size (P.globals.size + i)) with
  | some a =>
   have := hle _ _ hφ
   rw [e3] at this
   cases this
   generalize hb : c.nm P.globals.size (P.globals.size + i) = b1 at *
   obtain ⟨j, rfl⟩ : ∃ j, b1 = P.globals.size + j := ⟨b1 - P.globals.size, by omega⟩
   by_cases hj : j < sh.bl.length
   ·rw [zCu hj] at hφ
    have hφ := Option.some.inj hφ
    obtain ⟨z, hz⟩ : ∃ z, sh.bl[j]? = some z := ⟨_, List.getElem?_eq_getElem hj⟩
    refine .inr ⟨j, z, hz, ?_, by rw [hφ]⟩
    cases hzf : z.fixed with
    | false => rfl
    | true =>
     have := hup.kept _ _ _ (hfix j z hz) (.inr hzf)
     rw [e1] at this
     cases this
     rw [hxf] at hzf; cases hzf
   ·rw [zMg (by omega)] at hφ; cases hφ
  | none =>
   rcases hnew _ _ e3 hφ with h | ⟨d, t, z, a', p1, p2, p3, p4⟩
   ·exact .inl h
   ·rcases zDz hlt p1 with ⟨p, _, _, _, rfl⟩ | ⟨j, hj, rfl, _, hx⟩
    ·cases p2
    ·rw [zCu hj] at p3
     cases p3
     exact .inr ⟨j, z, hx, p2, p4⟩
 ·have hone : ∀ i, i < 128 → q'.V.env i = (c.fv i).eval q.V.env := fun i hi => by rw [hq']; exact zBt hi
  have htab : ∀ a r k : Nat, 128 ≤ a → a < 256 → k < 64 → q'.V.env (zDj a (r : Int) k) = (c.gv a).row q.V.env r k := fun a r k e1 e2 e3 => by rw [hq']; exact zCj e1 e2 e3
  refine ⟨?_, ?_⟩
  ·refine RW.retake (F := q.F) (V := q.V) (F' := q'.F) (V' := q'.V) (φ := ψ) (c.nm P.globals.size) hst (fun x t y ex => ?_) (fun x x' t t' y y' ex ex' hf hne => ?_)
   ·rcases zDz hlt ex with ⟨p, hp, rfl, rfl, rfl⟩ | ⟨i, hi, rfl, rfl, hx⟩
    ·have hold : (sh.heap P.globals.size tabs).h.get p.1 = some (0, .ro (Tr.fill (p.2.map .val) 0 .lf) p.2.length) := by
      rw [heap_tab (hlt p hp)]
      rw [heap_tab (hlt p hp)] at ex
      exact ex
     refine ⟨by rw [zMs]; have := hlt p hp; omega, Nat.zero_le _, 0, _, by rw [Case.nm_glob (hlt p hp)]; exact hup.kept _ _ _ hold (.inr rfl), hnm _ (by have := hlt p hp; omega), fun h => h, fun a _ h => tabs_rb (q := q) (q' := q') h⟩
    ·obtain ⟨t0, x, e1, e2, _⟩ := hL' i y hx
     refine ⟨by rw [zMs]; omega, Nat.zero_le _, t0, x, e1, hnm _ (by omega), fun h => @zCz q.F _ _ _ _ _ _ e2 h, fun a _ h => corrB_ok (V := q.V) q' hone htab hnm e2 h⟩
   ·rcases zDz hlt ex with ⟨p, hp, rfl, rfl, rfl⟩ | ⟨i, hi, rfl, rfl, hx⟩
    ·cases hf
    ·obtain ⟨n1, n2⟩ := Case.nm_own g6 hi
     rcases zDz hlt ex' with ⟨p, hp, rfl, rfl, rfl⟩ | ⟨i', hi', rfl, rfl, hx'⟩
     ·rw [Case.nm_glob (hlt p hp)]
      have := hlt p hp
      omega
     ·intro e
      exact hne (by rw [n2 i' hi' e])
  ·refine @RE.mk q'.F q'.V _ _ _ _ (@RE.size q.F q.V _ _ _ _ h3) (fun i v hv => ?_)
   obtain ⟨u, e1, e2⟩ := @metT_ok q.F _ _ _ _ _ g4 _ (zIp hv)
   obtain ⟨p1, p2⟩ := @RE.some q.F q.V _ _ _ _ h3 i u e1
   exact ⟨p1, corrA_ok (V := q.V) q' hone hnm e2 p2⟩
theorem shape_round {stay : Nat} (hlt : ∀ p ∈ tabs, p.1 < P.globals.size) (q : zHi) [Lo : zDa] [TL : zGs] (hlo : @zFu q.F q.V Lo P B) {call : Tgt → List AV → M AV} (hc : @zCe q.F q.V P B call) {sh sh' : Shape} {c : Case} (hlen : stay ≤ sh.bl.length)
  (hrun : ((@code q.F P Lo call none fn fuel b ⟨tmps sh.t, nt, [.rest]⟩ (sh.heap P.globals.size tabs)).every N (@Case.chk q.F P.globals.size nt stay sh' c)) = true)
  {w : World} {fr : Frame} {cs : List Frame} {k : List Item} (hrw : @RW q.F q.V (zHr P.globals.size sh.bl.length L) B (sh.heap P.globals.size tabs) w) (hre : @RE q.F q.V (zHr P.globals.size sh.bl.length L) (tmps sh.t) nt fr.tmps) (hB : B ≤ w.heap.size)
  (hmode : fr.mode = .run) (hr : fr.roundOf = none) (hfn : fr.fn = fn) (hdf : fr.defers = q.V.rest) (hin : InFn P none fn b) (htodo : fr.todo = .code b :: .inLoop b :: k) :
  ∃ w1 tmps1 L', Left P (lone fr cs w) (zAz fr tmps1 fr.defers (.inLoop b :: k)) (.inLoop b :: k) cs w1 c.e ∧ zLt stay sh L w sh' L' w1 ∧ zCk P tabs L' B nt sh' (c.next q.V.env) w1 tmps1 := by
 have hfree : zEj (zHr P.globals.size sh.bl.length L) (sh.heap P.globals.size tabs).n N := fun x hx _ => by rw [zMs] at hx; exact zMg hx
 have hgo : GOk P (zHr P.globals.size sh.bl.length L) := fun g hg => zFd hg
 obtain ⟨e, st1, s1, ψ, w1, tmps1, h1, h2, h3, h4, h5⟩ := @round_run q.F q.V Lo TL P _ B N w hlo call hc (@zEu q.F q.V _ _ _ hc) fn b fuel nt (tmps sh.t) (sh.heap P.globals.size tabs) (@Case.chk q.F P.globals.size nt stay sh' c) hrun
  (fun p s h => by
   simp only [Case.chk, Bool.and_eq_true] at h
   exact noDefs_eq (by simpa only [noDefs] using h.2.1)) hrw hB hfree hgo fr cs k hre hmode hr hfn hdf hin htodo
 simp only [Case.chk, Bool.and_eq_true] at h1
 obtain ⟨g1, _, g3, g6, g4⟩ := h1
 have he := exSame_eq g1
 subst he
 have hnt := zAr g3
 simp only [Shape.met, Bool.and_eq_true] at g4
 obtain ⟨g4, g5⟩ := g4
 rw [hnt] at h3
 obtain ⟨L', k1, k2, _⟩ := zLm hlt q hlen g6 g4 g5 h2 h3
 exact ⟨w1, tmps1, L', h5, k1, k2⟩
end
end
end Go.Abs
namespace Go.Abs
noncomputable section
section
variable {F : Facts} {V : @zAc F} (q : zHi) {φ φ' : Phi} {n : Nat} {f : Nat → SE} {m : Nat → Nat}
mutual
theorem RV.give (he : ∀ i, i < 128 → q.V.env i = (f i).eval V.env) (hn : ∀ b, b < n → φ' b = φ (m b)) : ∀ {v : AV} {x : Value}, v.fit n = true → @RV q.F q.V φ' v x → @RV F V φ (v.into f m) x
 | .val v, x, _, h => by
  simp only [AV.into]
  cases h
  exact @RV.val F V φ v
 | .sx k e, x, hf, h => by
  simp only [AV.into]
  cases h with | sx h =>
  exact @RV.sx F V φ _ _ _ (by rw [← h, ← SE.into_ok he hf])
 | .ptr b o, x, hf, h => by
  simp only [AV.into]
  cases h with | ptr h =>
  exact @RV.ptr F V φ _ _ _ (by rw [← hn b (Nat.le_of_ble_eq_true hf)]; exact h)
 | .ps b z r c, x, hf, h => by
  simp only [AV.into]
  simp only [AV.fit, Bool.and_eq_true] at hf
  cases h with | ps h hr =>
  exact @RV.ps F V φ _ _ _ _ _ _ (by rw [← hn b (Nat.le_of_ble_eq_true hf.1)]; exact h) (by rw [SE.into_ok he hf.2]; exact hr)
 | .ss b z o l, x, hf, h => by
  simp only [AV.into]
  simp only [AV.fit, Bool.and_eq_true] at hf
  cases h with | ss h hm hl hc ho =>
  exact @RV.ss F V φ _ _ _ _ _ _ _ _ _ (by rw [← hn b (Nat.le_of_ble_eq_true hf.1)]; exact h) (by rw [SE.into_ok he hf.2.1]; exact hm) (by rw [SE.into_ok he hf.2.2]; exact hl) hc ho
 | .so l, x, hf, h => by
  simp only [AV.into]
  cases h with | so hl =>
  exact @RV.so F V φ _ _ _ _ (by rw [SE.into_ok he hf]; exact hl)
 | .sl b i z l c, x, hf, h => by
  simp only [AV.into]
  cases h with | sl h hc hl ho =>
  exact @RV.sl F V φ _ _ _ _ _ _ _ _ (by rw [← hn b (Nat.le_of_ble_eq_true hf)]; exact h) hc hl ho
 | .mp b, x, hf, h => by
  simp only [AV.into]
  cases h with | mp h =>
  exact @RV.mp F V φ _ _ (by rw [← hn b (Nat.le_of_ble_eq_true hf)]; exact h)
 | .yl b, x, hf, h => by
  simp only [AV.into]
  cases h with | yl h =>
  exact @RV.yl F V φ _ _ (by rw [← hn b (Nat.le_of_ble_eq_true hf)]; exact h)
 | .ifc t v, x, hf, h => by
  simp only [AV.into]
  cases h with | ifc h =>
  exact @RV.ifc F V φ _ _ _ (RV.give he hn hf h)
 | .agg l, x, hf, h => by
  simp only [AV.into]
  cases h with | agg h =>
  exact @RV.agg F V φ _ _ (RL.give he hn hf h)
 | .tup l, x, hf, h => by
  simp only [AV.into]
  cases h with | tup h =>
  exact @RV.tup F V φ _ _ (RL.give he hn hf h)
 | .fn g a b, x, hf, h => by
  simp only [AV.into]
  simp only [AV.fit, Bool.and_eq_true] at hf
  cases h with | fn h1 h2 =>
  exact @RV.fn F V φ _ _ _ _ _ (RL.give he hn hf.1 h1) (RL.give he hn hf.2 h2)
theorem RL.give (he : ∀ i, i < 128 → q.V.env i = (f i).eval V.env) (hn : ∀ b, b < n → φ' b = φ (m b)) : ∀ {l : List AV} {xs : List Value}, AV.fitL n l = true → @RL q.F q.V φ' l xs → @RL F V φ (AV.intoL f m l) xs
 | [], xs, _, h => by
  simp only [AV.intoL]
  cases h
  exact @RL.nil F V φ
 | v :: l, xs, hf, h => by
  simp only [AV.intoL]
  simp only [AV.fitL, Bool.and_eq_true] at hf
  cases h with | cons h1 h2 =>
  exact @RL.cons F V φ _ _ _ _ (RV.give he hn hf.1 h1) (RL.give he hn hf.2 h2)
end
end
theorem intoL_length {f : Nat → SE} {m : Nat → Nat} : ∀ {l : List AV}, (AV.intoL f m l).length = l.length := by
 intro l
 induction l with
 | nil => rfl
 | cons v l ih => simp only [AV.intoL, List.length_cons, ih]
def Blk.fit (n : Nat) : Blk → Bool
 | .cells c k _ => (match takeA c 0 k with
  | some l => AV.fitL n l
  | none => true)
 | .arr ks (.tab a) l _ => Nat.ble ks.length 64 && (Nat.ble 128 a && (Nat.blt a 256 && l.flat))
 | .loop _ _ _ env _ _ _ _ d => Nat.blt d n && env.allV (AV.fit n)
 | .dfr => true
 | _ => false
def Blk.into (f g : Nat → SE) (m : Nat → Nat) : Blk → Blk
 | .cells c k z => (match takeA c 0 k with
  | some l => .cells (Tr.fill (AV.intoL f m l) 0 .lf) k z
  | none => .cells .lf k z)
 | .arr ks (.tab a) l k => .arr ks (g a) (l.into f) k
 | .loop st pend fn env nt ps a b d => .loop st pend fn (env.mapT (AV.into f m)) nt ps a b (m d)
 | x => x
theorem Blk.into_fixed {f g : Nat → SE} {m : Nat → Nat} {x : Blk} {n : Nat} (h : x.fit n = true) : (x.into f g m).fixed = x.fixed := by
 unfold Blk.fit at h
 split at h
 ·rename_i c k z
  unfold Blk.into
  dsimp only
  cases takeA c 0 k <;> rfl
 ·rfl
 ·rfl
 ·rfl
 ·cases h
section
variable {F : Facts} {V : @zAc F} (q : zHi) {φ φ' : Phi} {n : Nat} {f g : Nat → SE} {m : Nat → Nat} {w : World} {a : Lc}
theorem RB.give (he : ∀ i, i < 128 → q.V.env i = (f i).eval V.env) (ht : ∀ a r c : Nat, 128 ≤ a → a < 256 → c < 64 → q.V.env (zDj a (r : Int) c) = (g a).row V.env r c) (hn : ∀ b, b < n → φ' b = φ (m b)) {x : Blk} (hf : x.fit n = true) (hr : @RB q.F q.V φ' w a x) : @RB F V φ w a (x.into f g m) := by
 unfold Blk.fit at hf
 split at hf
 ·rename_i c k z
  obtain ⟨arr, el, e1, e2, e3⟩ := hr
  unfold Blk.into
  dsimp only
  cases hk : takeA c 0 k with
  | none => exact ⟨arr, el, e1, ⟨e2.1, fun i v _ hv => by simp [Tr.get] at hv⟩, e3⟩
  | some l =>
   simp only [hk] at hf
   obtain ⟨ys, k1, k2, k3⟩ := @take_ok q.F q.V _ _ _ _ _ e2 k 0 l (by omega) hk
   have hl := RL.give (F := F) (V := V) q he hn hf k1
   refine ⟨arr, el, e1, ⟨e2.1, fun i v hi hv => ?_⟩, e3⟩
   have hlen : l.length = ys.length := by have := @RL.length q.F q.V _ _ _ k1; omega
   rw [Tr.get_fill, if_pos (by rw [intoL_length, hlen, k2]; omega)] at hv
   obtain ⟨x, g1, g2⟩ := hl.get hv
   refine ⟨x, ?_, g2⟩
   have e : arr[a.off + i]? = ys[i]? := by simpa using k3 i hi
   rw [e]; simpa using g1
 ·rename_i ks ta l ro
  simp only [Bool.and_eq_true] at hf
  obtain ⟨h1, h2, h3, h4⟩ := hf
  obtain ⟨arr, el, fz, e1, e2, mm, e3, e4, e5⟩ := hr
  refine ⟨arr, el, fz, e1, e2, mm, by rw [SE.into_ok he h4]; exact e3, e4, fun r c k hlt hk => ?_⟩
  obtain ⟨x, p1, p2⟩ := e5 r c k hlt hk
  refine ⟨x, p1, ?_⟩
  have hc : c < 64 := by
   have := (List.getElem?_eq_some_iff.1 hk).1
   have := Nat.le_of_ble_eq_true h1
   omega
  have : (SE.tab ta).row q.V.env r c = (g ta).row V.env r c := ht ta r c (Nat.le_of_ble_eq_true h2) (Nat.le_of_ble_eq_true h3) hc
  rw [← this]; exact p2
 ·rename_i st pend fn env nt ps a b d
  simp only [Bool.and_eq_true] at hf
  obtain ⟨tm, da, e1, e2, e3⟩ := hr
  refine ⟨tm, da, by rw [← hn d (Nat.le_of_ble_eq_true hf.1)]; exact e1, @RE.mk F V _ _ _ _ (@RE.size q.F q.V _ _ _ _ e2) (fun i v hv => ?_), e3⟩
  rw [Tr.get_mapT, Option.map_eq_some_iff] at hv
  obtain ⟨u, hu, rfl⟩ := hv
  obtain ⟨p1, p2⟩ := @RE.some q.F q.V _ _ _ _ e2 i u hu
  exact ⟨p1, RV.give (F := F) (V := V) q he hn (Tr.allV_ok hf.2 hu) p2⟩
 ·exact hr
 ·cases hf
end
theorem tmpsOn_map {h : AV → AV} : ∀ {l : List (Nat × AV)} {t t' : Env}, (∀ i, t'.get i = (t.get i).map h) → ∀ i, (zLx t' (l.map fun p => (p.1, h p.2))).get i = ((zLx t l).get i).map h := by
 intro l
 induction l with
 | nil => intro t t' ht i; exact ht i
 | cons p l ih =>
  intro t t' ht i
  obtain ⟨j, u⟩ := p
  simp only [List.map_cons, zLx]
  refine ih (fun i => ?_) i
  rw [Tr.get_set, Tr.get_set]
  split
  ·rfl
  ·exact ht i
theorem tmps_map {h : AV → AV} {l : List (Nat × AV)} (i : Nat) : (tmps (l.map fun p => (p.1, h p.2))).get i = ((tmps l).get i).map h :=
 tmpsOn_map (fun i => by simp [Tr.get]) i
structure zBp where
 e : Ex
 j : Nat
 f : List SE
 g : List SE
def zBp.fv (o : zBp) (i : Nat) : SE := (o.f[i]?).getD (.var i)
def zBp.gv (o : zBp) (a : Nat) : SE := (o.g[a - 128]?).getD (.tab a)
structure zAd where
 fn : FuncId
 key : Nat
 nt : Nat
 shapes : Nat → Shape
 f0 : List SE
 g0 : List SE
 names : St → HS → List Nat
 outs : List zBp
 stay : Nat
def zAd.f0v (S : zAd) (i : Nat) : SE := (S.f0[i]?).getD (.var i)
def zAd.g0v (S : zAd) (a : Nat) : SE := (S.g0[a - 128]?).getD (.tab a)
def limOk (lim : Nat) : List Nat → List Blk → Bool
 | b :: ns, x :: l => (x.fixed || Nat.ble lim b) && limOk lim ns l
 | _, _ => true
theorem limOk_ok {lim : Nat} : ∀ {ns : List Nat} {l : List Blk}, limOk lim ns l = true → ∀ (k : Nat) b x, ns[k]? = some b → l[k]? = some x → x.fixed = false → lim ≤ b := by
 intro ns
 induction ns with
 | nil => intro l _ k b x h; simp at h
 | cons c ns ih =>
  intro l h k b x hb hx hf
  cases l with
  | nil => simp at hx
  | cons y l =>
   simp only [limOk, Bool.and_eq_true] at h
   cases k with
   | zero =>
    simp only [List.getElem?_cons_zero, Option.some.injEq] at hb hx
    subst hb hx
    have := h.1
    rw [hf, Bool.false_or] at this
    exact Nat.le_of_ble_eq_true this
   | succ k => exact ih h.2 k b x (by simpa using hb) (by simpa using hx) hf
section
variable [Facts]
def zAd.entry (S : zAd) (G : Nat) (tabs : List (Nat × List Value)) (st : St) (s : HS) (ns : List Nat) : Bool :=
 (Nat.beq st.nt S.nt && (Nat.beq ns.length (S.shapes 0).bl.length && (tabs.all (tabIn s) && (zJh ns && (limOk s.lim ns (S.shapes 0).bl && (S.shapes 0).met G S.f0v S.g0v (nameOf G ns) st.t s.h)))))
end
def zJe (f g : Nat → SE) (m : Nat → Nat) : List Nat → List Blk → HS → HS
 | b :: ns, x :: l, s => zJe f g m ns l (bif x.fixed then s else { s with h := s.h.set b (s.clk + 1, x.into f g m), clk := s.clk + 1 })
 | _, _, s => s
def delAll : List Nat → HS → HS
 | [], s => s
 | b :: l, s => delAll l { s with h := s.h.del b, clk := s.clk + 1 }
def newAll : List Blk → HS → HS
 | [], s => s
 | x :: l, s => newAll l { s with h := s.h.set s.n (s.clk + 1, x), n := s.n + 1, clk := s.clk + 1 }
def zAd.newNames (S : zAd) (ns : List Nat) (s : HS) (o : zBp) : List Nat := ns.take S.stay ++ upFrom s.n ((S.shapes o.j).bl.length - S.stay)
def zAd.endH (S : zAd) (G : Nat) (ns ns' : List Nat) (s : HS) (o : zBp) : HS :=
 newAll (((S.shapes o.j).bl.drop S.stay).map (Blk.into o.fv o.gv (nameOf G ns'))) (delAll (ns.drop S.stay) (zJe o.fv o.gv (nameOf G ns') (ns.take S.stay) ((S.shapes o.j).bl.take S.stay) s))
def zAd.one (S : zAd) (G : Nat) (ds : List ADef) (ns : List Nat) (s : HS) (o : zBp) : R (Ex × St) :=
 .ok (o.e, ⟨tmps ((S.shapes o.j).t.map fun p => (p.1, AV.into o.fv (nameOf G (S.newNames ns s o)) p.2)), S.nt, ds⟩) (S.endH G ns (S.newNames ns s o) s o)
def zAd.after (S : zAd) (G : Nat) (ds : List ADef) (ns : List Nat) (s : HS) : R (Ex × St) :=
 match S.outs with
 | [o] => S.one G ds ns s o
 | os => .ask os.length fun k => match os[k]? with
  | some o => S.one G ds ns s o
  | none => .bad "no such end"
def zAd.run [Facts] (S : zAd) (G : Nat) (tabs : List (Nat × List Value)) (st : St) : M (Ex × St) := fun s =>
 bif S.entry G tabs st s (S.names st s) then S.after G st.ds (S.names st s) s else .bad "not the loop's head"
end
end Go.Abs
namespace Go.Abs
noncomputable section
theorem set_up {s : HS} {b t : Nat} {x y : Blk} (h : s.wf) (he : s.h.get b = some (t, y)) (hy : y.fixed = false) (hx : x.fixed = false) (hl : s.lim ≤ b) : Up s { s with h := s.h.set b (s.clk + 1, x), clk := s.clk + 1 } := by
 have hb := (h _ _ _ he).1
 refine ⟨Nat.le_refl _, Nat.le_succ _, rfl, fun c u z e le => ?_, fun c u z e o => ?_, fun c u z e f => ?_, fun c hc e => ?_, fun c u z e => ?_⟩
 ·simp only [Tr.get_set] at e
  split at e
  ·cases e; omega
  ·exact e
 ·simp only [Tr.get_set]
  rw [if_neg]; exact e
  rintro rfl
  rw [he] at e; cases e
  rcases o with o | o
  ·omega
  ·rw [hy] at o; cases o
 ·simp only [Tr.get_set] at e
  split at e
  ·cases e; rw [hx] at f; cases f
  ·exact e
 ·simp only [Tr.get_set]
  rw [if_neg]; exact e
  rintro rfl
  rw [he] at e; cases e
 ·simp only [Tr.get_set] at e
  split at e
  ·rename_i hcb; subst hcb; cases e; exact ⟨hb, Nat.le_refl _⟩
  ·have := h _ _ _ e; simp only; omega
theorem setOwn_get {f g : Nat → SE} {m : Nat → Nat} : ∀ {ns : List Nat} {l : List Blk} {s : HS} {b t : Nat} {x : Blk}, (zJe f g m ns l s).h.get b = some (t, x) →
  (∃ (k : Nat) (y : Blk), ns[k]? = some b ∧ l[k]? = some y ∧ y.fixed = false ∧ x = y.into f g m) ∨ ((∀ (k : Nat) (y : Blk), ns[k]? = some b → l[k]? = some y → y.fixed = true) ∧ s.h.get b = some (t, x)) := by
 intro ns
 induction ns with
 | nil => intro l s b t x h; exact .inr ⟨fun k y e => by simp at e, h⟩
 | cons c ns ih =>
  intro l s b t x h
  cases l with
  | nil => exact .inr ⟨fun k y _ e => by simp at e, h⟩
  | cons z l =>
   unfold zJe at h
   rcases ih h with ⟨k, y, e1, e2, e3, e4⟩ | ⟨e1, e2⟩
   ·exact .inl ⟨k + 1, y, by simpa using e1, by simpa using e2, e3, e4⟩
   ·cases hz : z.fixed with
    | true =>
     rw [hz, cond_true] at e2
     refine .inr ⟨fun k y h1 h2 => ?_, e2⟩
     cases k with
     | zero => simp only [List.getElem?_cons_zero, Option.some.injEq] at h2; subst h2; exact hz
     | succ k => exact e1 k y (by simpa using h1) (by simpa using h2)
    | false =>
     rw [hz, cond_false] at e2
     simp only [Tr.get_set] at e2
     split at e2
     ·rename_i hbc; subst hbc; cases e2
      exact .inl ⟨0, z, by simp, by simp, hz, rfl⟩
     ·rename_i hbc
      refine .inr ⟨fun k y h1 h2 => ?_, e2⟩
      cases k with
      | zero => simp only [List.getElem?_cons_zero, Option.some.injEq] at h1; exact (hbc h1.symm).elim
      | succ k => exact e1 k y (by simpa using h1) (by simpa using h2)
theorem setOwn_none {f g : Nat → SE} {m : Nat → Nat} : ∀ {ns : List Nat} {l : List Blk} {s : HS} {b : Nat}, (zJe f g m ns l s).h.get b = none → s.h.get b = none := by
 intro ns
 induction ns with
 | nil => intro l s b h; exact h
 | cons c ns ih =>
  intro l s b h
  cases l with
  | nil => exact h
  | cons z l =>
   unfold zJe at h
   have := ih h
   cases hz : z.fixed with
   | true => rw [hz, cond_true] at this; exact this
   | false =>
    rw [hz, cond_false] at this
    simp only [Tr.get_set] at this
    split at this
    ·cases this
    ·exact this
theorem setOwn_up {f g : Nat → SE} {m : Nat → Nat} : ∀ {ns : List Nat} {l : List Blk} {s : HS}, s.wf → (∀ (k : Nat) b x, ns[k]? = some b → l[k]? = some x → x.fixed = false → (x.into f g m).fixed = false ∧ s.lim ≤ b ∧ ∃ t y, s.h.get b = some (t, y) ∧ y.fixed = false) →
  Up s (zJe f g m ns l s) ∧ (zJe f g m ns l s).n = s.n := by
 intro ns
 induction ns with
 | nil => intro l s hw _; exact ⟨Up.refl hw, rfl⟩
 | cons c ns ih =>
  intro l s hw h
  cases l with
  | nil => exact ⟨Up.refl hw, rfl⟩
  | cons z l =>
   unfold zJe
   cases hz : z.fixed with
   | true =>
    rw [cond_true]
    exact ih hw fun k b x h1 h2 => h (k + 1) b x (by simpa using h1) (by simpa using h2)
   | false =>
    rw [cond_false]
    obtain ⟨h1, h2, t, y, h3, h4⟩ := h 0 c z (by simp) (by simp) hz
    have up := set_up hw h3 h4 h1 h2
    obtain ⟨u1, u2⟩ := ih (s := { s with h := s.h.set c (s.clk + 1, z.into f g m), clk := s.clk + 1 }) up.wf (l := l) fun k b x e1 e2 e3 => by
     obtain ⟨p1, p2, t', y', p3, p4⟩ := h (k + 1) b x (by simpa using e1) (by simpa using e2) e3
     refine ⟨p1, p2, ?_⟩
     simp only [Tr.get_set]
     split
     ·exact ⟨_, _, rfl, h1⟩
     ·exact ⟨t', y', p3, p4⟩
    exact ⟨up.trans u1, u2⟩
theorem delAll_get : ∀ {l : List Nat} {s : HS} {c : Nat} {p : Nat × Blk}, (delAll l s).h.get c = some p → c ∉ l ∧ s.h.get c = some p := by
 intro l
 induction l with
 | nil => intro s c p h; exact ⟨by simp, h⟩
 | cons b l ih =>
  intro s c p h
  obtain ⟨h1, h2⟩ := ih h
  simp only [Tr.get_del] at h2
  split at h2
  ·cases h2
  ·rename_i hne
   exact ⟨by simp only [List.mem_cons, not_or]; exact ⟨hne, h1⟩, h2⟩
theorem delAll_up : ∀ {l : List Nat} {s : HS}, s.wf → zJh l = true → (∀ b ∈ l, s.lim ≤ b ∧ ∃ t y, s.h.get b = some (t, y) ∧ y.fixed = false) → Up s (delAll l s) ∧ (delAll l s).n = s.n := by
 intro l
 induction l with
 | nil => intro s hw _ _; exact ⟨Up.refl hw, rfl⟩
 | cons b l ih =>
  intro s hw ha h
  obtain ⟨h1, t, y, h2, h3⟩ := h b (.head _)
  have up : Up s { s with h := s.h.del b, clk := s.clk + 1 } := by
   have := zAb.delB b s hw
   rw [delB_eq] at this
   simp only [h2] at this
   have hc : (Nat.ble s.lim b && !y.fixed) = true := by simp [h3, h1]
   rw [hc] at this
   exact this
  simp only [zJh, Bool.and_eq_true, List.all_eq_true] at ha
  obtain ⟨u1, u2⟩ := ih up.wf ha.2 fun c hc => by
   obtain ⟨p1, t', y', p2, p3⟩ := h c (.tail _ hc)
   refine ⟨p1, t', y', ?_, p3⟩
   simp only [Tr.get_del]
   rw [if_neg]
   ·exact p2
   ·rintro rfl
    have := ha.1 c hc
    rw [Nat.beq_refl] at this
    cases this
  exact ⟨up.trans u1, u2⟩
theorem newAll_n : ∀ {l : List Blk} {s : HS}, (newAll l s).n = s.n + l.length := by
 intro l
 induction l with
 | nil => intro s; rfl
 | cons x l ih =>
  intro s
  unfold newAll
  rw [ih]
  simp only [List.length_cons]; omega
theorem newAll_get : ∀ {l : List Blk} {s : HS} {c t : Nat} {x : Blk}, (newAll l s).h.get c = some (t, x) → (∃ i, l[i]? = some x ∧ c = s.n + i) ∨ (s.h.get c = some (t, x)) := by
 intro l
 induction l with
 | nil => intro s c t x h; exact .inr h
 | cons y l ih =>
  intro s c t x h
  rcases ih h with ⟨i, h1, h2⟩ | h2
  ·exact .inl ⟨i + 1, by simpa using h1, by simp only at h2; omega⟩
  ·simp only [Tr.get_set] at h2
   split at h2
   ·rename_i e; subst e; cases h2
    exact .inl ⟨0, by simp, rfl⟩
   ·exact .inr h2
theorem newAll_up : ∀ {l : List Blk} {s : HS}, s.wf → (∀ x ∈ l, x.fixed = false) → Up s (newAll l s) := by
 intro l
 induction l with
 | nil => intro s hw _; exact Up.refl hw
 | cons x l ih =>
  intro s hw h
  have up : Up s { s with h := s.h.set s.n (s.clk + 1, x), n := s.n + 1, clk := s.clk + 1 } := by
   have := zAb.newB x s hw
   rw [newB_eq] at this
   rw [h x (.head _)] at this
   exact this
  exact up.trans (ih up.wf fun y hy => h y (.tail _ hy))
theorem apartB_drop : ∀ {n : Nat} {l : List Nat}, zJh l = true → zJh (l.drop n) = true := by
 intro n
 induction n with
 | zero => intro l h; exact h
 | succ n ih =>
  intro l h
  cases l with
  | nil => rfl
  | cons x l =>
   simp only [zJh, Bool.and_eq_true] at h
   exact ih h.2
def zAl (shapes : Nat → Shape) (stay : Nat) (fx : List Bool) : Prop :=
 ∀ i, stay ≤ (shapes i).bl.length ∧ ((shapes i).bl.take stay).map Blk.fixed = fx ∧ ((shapes i).bl.drop stay).all (fun x => !x.fixed) = true
theorem zAl.moves {shapes : Nat → Shape} {stay : Nat} {fx : List Bool} (h : zAl shapes stay fx) {i k : Nat} {x : Blk} (hx : (shapes i).bl[k]? = some x) (hk : stay ≤ k) : x.fixed = false := by
 have := (h i).2.2
 rw [List.all_eq_true] at this
 have := this x (List.mem_of_getElem? (i := k - stay) (by rw [List.getElem?_drop, show stay + (k - stay) = k by omega]; exact hx))
 simpa using this
theorem zAl.alike {shapes : Nat → Shape} {stay : Nat} {fx : List Bool} (h : zAl shapes stay fx) {i j k : Nat} {x y : Blk} (hx : (shapes i).bl[k]? = some x) (hy : (shapes j).bl[k]? = some y) : x.fixed = y.fixed := by
 by_cases hk : k < stay
 ·have e1 : (((shapes i).bl.take stay).map Blk.fixed)[k]? = some x.fixed := by rw [List.getElem?_map, List.getElem?_take, if_pos hk, hx]; rfl
  have e2 : (((shapes j).bl.take stay).map Blk.fixed)[k]? = some y.fixed := by rw [List.getElem?_map, List.getElem?_take, if_pos hk, hy]; rfl
  rw [(h i).2.1] at e1
  rw [(h j).2.1] at e2
  rw [e1] at e2
  exact Option.some.inj e2
 ·rw [h.moves hx (by omega), h.moves hy (by omega)]
section
variable {P : Program} {tabs : List (Nat × List Value)} {fuel : Nat} {b0 : Code}
def zAd.good (S : zAd) (G : Nat) : Bool :=
 S.outs.all fun o => (S.shapes o.j).t.all (fun p => AV.fit (G + (S.shapes o.j).bl.length) p.2) && (S.shapes o.j).bl.all (fun x => x.fixed || Blk.fit (G + (S.shapes o.j).bl.length) x)
structure EndsAs [F : Facts] [V : zAc] (S : zAd) (e : Ex) (j : Nat) (env : Nat → Int) (o : zBp) : Prop where
 e : o.e = e
 j : o.j = j
 one : ∀ i, i < 128 → env i = (o.fv i).eval V.env
 tab : ∀ a r c : Nat, 128 ≤ a → a < 256 → c < 64 → env (zDj a (r : Int) c) = (o.gv a).row V.env r c
theorem zAd.end_up (S : zAd) {G : Nat} {ns : List Nat} {s : HS} {o : zBp} {fx : List Bool} (hfx : zAl S.shapes S.stay fx) (hw : s.wf) (ha : zJh ns = true) (hl : ns.length = (S.shapes 0).bl.length)
  (hgood : ∀ x ∈ (S.shapes o.j).bl, x.fixed = true ∨ Blk.fit (G + (S.shapes o.j).bl.length) x = true)
  (hin : ∀ (k b : Nat) (x : Blk), ns[k]? = some b → (S.shapes 0).bl[k]? = some x → x.fixed = false → s.lim ≤ b ∧ ∃ t y, s.h.get b = some (t, y) ∧ y.fixed = false) :
  Up s (S.endH G ns (S.newNames ns s o) s o) ∧ (S.endH G ns (S.newNames ns s o) s o).n = s.n + ((S.shapes o.j).bl.length - S.stay) := by
 unfold zAd.endH
 have fitB : ∀ (i : Nat) x, (S.shapes o.j).bl[i]? = some x → x.fixed = false → (x.into o.fv o.gv (nameOf G (S.newNames ns s o))).fixed = false := fun i x hx hf => by
  rcases hgood x (List.mem_of_getElem? hx) with h | h
  ·rw [hf] at h; cases h
  ·rw [Blk.into_fixed h]; exact hf
 have hlen0 : S.stay ≤ (S.shapes 0).bl.length := (hfx 0).1
 obtain ⟨u1, n1⟩ := setOwn_up (f := o.fv) (g := o.gv) (m := nameOf G (S.newNames ns s o)) (ns := ns.take S.stay) (l := (S.shapes o.j).bl.take S.stay) hw fun i b x e1 e2 e3 => by
  rw [List.getElem?_take] at e1 e2
  split at e1
  ·rename_i hi
   rw [if_pos hi] at e2
   obtain ⟨x0, hx0⟩ : ∃ x, (S.shapes 0).bl[i]? = some x := ⟨_, List.getElem?_eq_getElem (by omega)⟩
   exact ⟨fitB i x e2 e3, hin i b x0 e1 hx0 (by rw [← hfx.alike e2 hx0]; exact e3)⟩
  ·cases e1
 obtain ⟨u2, n2⟩ := delAll_up (l := ns.drop S.stay) u1.wf (apartB_drop ha) fun b hb => by
  obtain ⟨i, hi, hib⟩ := List.getElem_of_mem hb
  have e1 : (ns.drop S.stay)[i]? = some b := by rw [← hib]; exact List.getElem?_eq_getElem hi
  rw [List.getElem?_drop] at e1
  have hi' : S.stay + i < (S.shapes 0).bl.length := by
   have := (List.getElem?_eq_some_iff.1 e1).1
   omega
  obtain ⟨x0, hx0⟩ : ∃ x, (S.shapes 0).bl[S.stay + i]? = some x := ⟨_, List.getElem?_eq_getElem hi'⟩
  obtain ⟨p1, t, y, p2, p3⟩ := hin (S.stay + i) b x0 e1 hx0 (hfx.moves hx0 (by omega))
  refine ⟨by rw [u1.lim]; exact p1, t, y, ?_, p3⟩
  cases hg : (zJe o.fv o.gv (nameOf G (S.newNames ns s o)) (ns.take S.stay) ((S.shapes o.j).bl.take S.stay) s).h.get b with
  | none =>
   exfalso
   have := setOwn_none (f := o.fv) (g := o.gv) (m := nameOf G (S.newNames ns s o)) hg
   rw [p2] at this; cases this
  | some p =>
   obtain ⟨t', z⟩ := p
   rcases setOwn_get hg with ⟨k, _, k1, _, _, _⟩ | ⟨_, k2⟩
   ·rw [List.getElem?_take] at k1
    split at k1
    ·have := apartB_ok ha k (S.stay + i) b k1 e1
     omega
    ·cases k1
   ·rw [p2] at k2; exact k2.symm
 refine ⟨(u1.trans u2).trans (newAll_up u2.wf fun x hx => ?_), ?_⟩
 ·rw [List.mem_map] at hx
  obtain ⟨y, hy, rfl⟩ := hx
  obtain ⟨i, hi, hiy⟩ := List.getElem_of_mem hy
  have e1 : ((S.shapes o.j).bl.drop S.stay)[i]? = some y := by rw [← hiy]; exact List.getElem?_eq_getElem hi
  rw [List.getElem?_drop] at e1
  exact fitB _ y e1 (hfx.moves e1 (by omega))
 ·rw [newAll_n, n2, n1, List.length_map, List.length_drop]
theorem zAd.end_get (S : zAd) {G : Nat} {ns : List Nat} {s : HS} {o : zBp} {c t : Nat} {x : Blk} (hn : (delAll (ns.drop S.stay) (zJe o.fv o.gv (nameOf G (S.newNames ns s o)) (ns.take S.stay) ((S.shapes o.j).bl.take S.stay) s)).n = s.n) (h : (S.endH G ns (S.newNames ns s o) s o).h.get c = some (t, x)) :
  (∃ (k : Nat) (y : Blk), S.stay ≤ k ∧ (S.shapes o.j).bl[k]? = some y ∧ c = s.n + (k - S.stay) ∧ x = y.into o.fv o.gv (nameOf G (S.newNames ns s o))) ∨
  (c ∉ ns.drop S.stay ∧ ((∃ (k : Nat) (y : Blk), k < S.stay ∧ ns[k]? = some c ∧ (S.shapes o.j).bl[k]? = some y ∧ y.fixed = false ∧ x = y.into o.fv o.gv (nameOf G (S.newNames ns s o))) ∨
   ((∀ (k : Nat) (y : Blk), k < S.stay → ns[k]? = some c → (S.shapes o.j).bl[k]? = some y → y.fixed = true) ∧ s.h.get c = some (t, x)))) := by
 unfold zAd.endH at h
 rcases newAll_get h with ⟨i, h1, h2⟩ | h1
 ·rw [hn] at h2
  rw [List.getElem?_map, Option.map_eq_some_iff] at h1
  obtain ⟨y, h3, rfl⟩ := h1
  rw [List.getElem?_drop] at h3
  exact .inl ⟨S.stay + i, y, by omega, h3, by omega, rfl⟩
 ·obtain ⟨h2, h3⟩ := delAll_get h1
  refine .inr ⟨h2, ?_⟩
  rcases setOwn_get h3 with ⟨k, y, e1, e2, e3, e4⟩ | ⟨e1, e2⟩
  ·rw [List.getElem?_take] at e1 e2
   split at e1
   ·rename_i hk
    rw [if_pos hk] at e2
    exact .inl ⟨k, y, hk, e1, e2, e3, e4⟩
   ·cases e1
  ·exact .inr ⟨fun k y hk h1 h2 => e1 k y (by rw [List.getElem?_take, if_pos hk]; exact h1) (by rw [List.getElem?_take, if_pos hk]; exact h2), e2⟩
theorem spec_genL [F : Facts] [V : zAc] (S : zAd) (hlt : ∀ p ∈ tabs, p.1 < P.globals.size) {B nt1 : Nat} {fx : List Bool}
  (hfx : zAl S.shapes S.stay fx) (hgood : S.good P.globals.size = true) {K : Ex → Nat → (Nat → Lc) → World → Array Value → Prop} {Post : Ex → Nat → (Nat → Int) → Prop} (w : World) (tmps0 : Array Value) (st : St)
  (hloop : ∀ (L : Nat → Lc), zCk P tabs L B S.nt (S.shapes 0) (zBb S.f0v S.g0v V.env) w tmps0 →
   ∃ e j env' w1 tmps1 L', K e j L' w1 tmps1 ∧ zLt S.stay (S.shapes 0) L w (S.shapes j) L' w1 ∧ Post e j env' ∧ zCk P tabs L' B nt1 (S.shapes j) env' w1 tmps1)
  (hmid : ∀ e j env, Post e j env → ∀ i, -9223372036854775808 ≤ env i ∧ env i ≤ 18446744073709551615)
  (hend : ∀ e j env, Post e j env → ∃ (k : Nat) (o : zBp), S.outs[k]? = some o ∧ EndsAs S e j env o)
  {N : Nat} (s : HS) (φ : Phi) (ns : List Nat) {why : String} (h : RW φ B s w) (hfree : zEj φ s.n N) (hg : GOk P φ) (hre : RE φ st.t st.nt tmps0) :
  ((bif S.entry P.globals.size tabs st s ns then S.after P.globals.size st.ds ns s else .bad why)).wp fun p s' => s'.n ≤ N → ∃ ψ w1 tmps1, Stp φ B s w ψ s' w1 ∧ RE ψ p.2.t nt1 tmps1 ∧ p.2.ds = st.ds ∧ p.2.nt = S.nt ∧ ∃ j L', K p.1 j L' w1 tmps1 ∧ ∀ b a, ψ b = some a → φ b = none → Own (S.shapes j) L' a.blk := by
 obtain ⟨n, hn0⟩ : ∃ n, (S.shapes 0).bl.length = n := ⟨_, rfl⟩
 have hstay0 : S.stay ≤ n := by rw [← hn0]; exact (hfx 0).1
 cases hh : S.entry P.globals.size tabs st s ns
 ·exact trivial
 rw [cond_true]
 simp only [zAd.entry, Bool.and_eq_true] at hh
 obtain ⟨g2, g3, g4, g5, g6, g7⟩ := hh
 have hnt := zAr g2
 have hlen := zAr g3
 rw [hn0] at hlen
 simp only [Shape.met, Bool.and_eq_true] at g7
 obtain ⟨g7, g8⟩ := g7
 have htabs := tabs_in h hg hlt g4
 have hname : ∀ i, i < n → ∃ c, ns[i]? = some c ∧ nameOf P.globals.size ns (P.globals.size + i) = c := fun i hi => by
  have hi' : i < ns.length := by omega
  refine ⟨ns[i], List.getElem?_eq_getElem hi', ?_⟩
  unfold nameOf
  rw [show Nat.blt (P.globals.size + i) P.globals.size = false by
   cases hx : Nat.blt (P.globals.size + i) P.globals.size with
   | false => rfl
   | true => have := Nat.le_of_ble_eq_true hx; omega, cond_false, show P.globals.size + i - P.globals.size = i by omega, List.getElem?_eq_getElem hi']
  rfl
 have hblk : ∀ i x, (S.shapes 0).bl[i]? = some x → ∃ c t y a, ns[i]? = some c ∧ nameOf P.globals.size ns (P.globals.size + i) = c ∧ s.h.get c = some (t, y) ∧ corrB (P.globals.size + (S.shapes 0).bl.length) S.f0v S.g0v (nameOf P.globals.size ns) y x = true ∧ φ c = some a := fun i x hx => by
  obtain ⟨t, y, e1, e2⟩ := metB_ok g8 i x hx
  have hi := (List.getElem?_eq_some_iff.1 hx).1
  rw [hn0] at hi
  obtain ⟨c, e3, e4⟩ := hname i hi
  rw [e4] at e1
  obtain ⟨a, ha, _⟩ := h.blk c t y e1
  exact ⟨c, t, y, a, e3, e4, e1, e2, ha⟩
 let L : Nat → Lc := fun i => (φ ((ns[i]?).getD 0)).getD ⟨0, 0, 0⟩
 have hL : ∀ i, i < n → φ (nameOf P.globals.size ns (P.globals.size + i)) = some (L i) := fun i hi => by
  obtain ⟨x, hx⟩ : ∃ x, (S.shapes 0).bl[i]? = some x := ⟨_, List.getElem?_eq_getElem (by rw [hn0]; exact hi)⟩
  obtain ⟨c, t, y, a, e1, e2, _, _, ha⟩ := hblk i x hx
  rw [e2, ha]
  simp [L, e1, ha]
 have hnm : ∀ c, c < P.globals.size + n → zHr P.globals.size n L c = φ (nameOf P.globals.size ns c) := fun c hc => by
  by_cases hg' : c < P.globals.size
  ·rw [zFd hg']
   unfold nameOf
   rw [show Nat.blt c P.globals.size = true from Nat.ble_eq_true_of_le hg', cond_true]
   exact (hg c hg').symm
  ·have e : c = P.globals.size + (c - P.globals.size) := by omega
   rw [e, zCu (by omega), hL _ (by omega)]
 have hplaced : zCk P tabs L B S.nt (S.shapes 0) (zBb S.f0v S.g0v V.env) w tmps0 := by
  intro q hq
  have hone : ∀ i, i < 128 → q.V.env i = (S.f0v i).eval V.env := fun i hi => by rw [hq]; exact zBt hi
  have htab : ∀ a r k : Nat, 128 ≤ a → a < 256 → k < 64 → q.V.env (zDj a (r : Int) k) = (S.g0v a).row V.env r k := fun a r k e1 e2 e3 => by rw [hq]; exact zCj e1 e2 e3
  rw [hn0]
  refine ⟨@RW.mk q.F q.V _ _ _ _ (fun c t x e => ?_) (fun c c' t t' x x' a a' e e' hx hne ha ha' => ?_) (fun c t x e => ?_), @RE.mk q.F q.V _ _ _ _ (by rw [hre.size, hnt]) (fun i v hv => ?_)⟩
  ·rcases zDz hlt e with ⟨p, hp, rfl, rfl, rfl⟩ | ⟨i, hi, rfl, rfl, hx⟩
   ·obtain ⟨_, arr, el, fz, h1, h2⟩ := htabs p hp
    have hsz : p.2.length ≤ arr.size := by
     rcases Nat.eq_zero_or_pos p.2.length with h0 | h0
     ·omega
     ·have := h2 (p.2.length - 1) p.2[p.2.length - 1] (List.getElem?_eq_getElem (by omega))
      have := (Array.getElem?_eq_some_iff.1 this).1
      omega
    refine ⟨⟨p.1, 0, 0⟩, zFd (hlt p hp), ⟨arr, el, fz, h1, by simpa using hsz, fun i v hi hv => ?_⟩, fun hf => by cases hf⟩
    rw [Tr.get_fill, if_pos (by simp; exact hi)] at hv
    simp only [Nat.sub_zero, List.getElem?_map, Option.map_eq_some_iff] at hv
    obtain ⟨y, hy, rfl⟩ := hv
    exact ⟨y, by simpa using h2 i y hy, @RV.val q.F q.V _ y⟩
   ·rw [hn0] at hi
    obtain ⟨c, t, y, a, e1, e2, e3, e4, ha⟩ := hblk i x hx
    obtain ⟨a', ha', hrb, hBa⟩ := h.blk c t y e3
    rw [ha] at ha'; cases ha'
    have hLi := hL i hi
    rw [e2, ha] at hLi
    have hLi := Option.some.inj hLi
    rw [hn0] at e4
    refine ⟨L i, zCu hi, ?_, fun hf => ?_⟩
    ·rw [← hLi]; exact corrB_ok (V := V) q hone htab hnm e4 hrb
    ·rw [← hLi]; exact hBa (zCz e4 hf)
  ·rcases zDz hlt e with ⟨p, hp, rfl, rfl, rfl⟩ | ⟨i, hi, rfl, rfl, hxi⟩
   ·cases hx
   ·rw [hn0] at hi
    obtain ⟨c, t, y, b1, e1, e2, e3, e4, hb1⟩ := hblk i x hxi
    have hyf : y.fixed = false := zCz e4 hx
    rw [zCu hi] at ha; cases ha
    have hLi := hL i hi
    rw [e2] at hLi
    rcases zDz hlt e' with ⟨p, hp, rfl, rfl, rfl⟩ | ⟨i', hi', rfl, rfl, hxi'⟩
    ·rw [zFd (hlt p hp)] at ha'; cases ha'
     have hpt := List.all_eq_true.1 g4 p hp
     unfold tabIn at hpt
     split at hpt
     ·rename_i tt cc nn ee
      refine h.inj c p.1 _ _ _ _ _ _ e3 ee hyf ?_ hLi (hg p.1 (hlt p hp))
      rintro rfl
      rw [e3] at ee; cases ee; cases hyf
     ·cases hpt
    ·rw [hn0] at hi'
     obtain ⟨c', t', y', b1', e1', e2', e3', e4', hb1'⟩ := hblk i' x' hxi'
     rw [zCu hi'] at ha'; cases ha'
     have hLi' := hL i' hi'
     rw [e2'] at hLi'
     refine h.inj c c' _ _ _ _ _ _ e3 e3' hyf ?_ hLi hLi'
     rintro rfl
     exact hne (by rw [apartB_ok g5 i i' c e1 e1'])
  ·rw [zMs]
   rcases zDz hlt e with ⟨p, hp, rfl, rfl, rfl⟩ | ⟨i, hi, rfl, rfl, hx⟩
   ·have := hlt p hp; exact ⟨by omega, Nat.zero_le _⟩
   ·exact ⟨by omega, Nat.zero_le _⟩
  ·obtain ⟨u, e1, e2⟩ := metT_ok g7 _ (zIp hv)
   obtain ⟨p1, p2⟩ := hre.some i u e1
   rw [hnt] at p1
   rw [hn0] at e2
   exact ⟨p1, corrA_ok (V := V) q hone hnm e2 p2⟩
 obtain ⟨e, j, env', w1, tmps1, L', hleft, hown, hpost, hpl⟩ := hloop L hplaced
 obtain ⟨ko, o, ho, hends⟩ := hend e j env' hpost
 obtain rfl := hends.j
 let q : zHi := ⟨⟨[]⟩, @zAc.mk ⟨[]⟩ env' (fun _ hp => (List.not_mem_nil hp).elim) (hmid e o.j env' hpost) []⟩
 obtain ⟨prw, pre⟩ := hpl q rfl
 have hone : ∀ i, i < 128 → q.V.env i = (o.fv i).eval V.env := hends.one
 have htab : ∀ a r k : Nat, 128 ≤ a → a < 256 → k < 64 → q.V.env (zDj a (r : Int) k) = (o.gv a).row V.env r k := hends.tab
 have hgo := List.all_eq_true.1 hgood o (List.mem_of_getElem? ho)
 simp only [Bool.and_eq_true, List.all_eq_true] at hgo
 obtain ⟨hgt, hgb⟩ := hgo
 obtain ⟨nj, hnj⟩ : ∃ n, (S.shapes o.j).bl.length = n := ⟨_, rfl⟩
 have hstayj : S.stay ≤ nj := by rw [← hnj]; exact (hfx o.j).1
 have fitB : ∀ (i : Nat) x, (S.shapes o.j).bl[i]? = some x → x.fixed = false → Blk.fit (P.globals.size + nj) x = true := fun i x hx hf => by
  have := hgb x (List.mem_of_getElem? hx)
  rw [hf, Bool.false_or, hnj] at this
  exact this
 have hown0 : ∀ (i b : Nat) (x : Blk), ns[i]? = some b → (S.shapes 0).bl[i]? = some x → x.fixed = false → s.lim ≤ b ∧ ∃ t y, s.h.get b = some (t, y) ∧ y.fixed = false := fun i b x hc hx hf => by
  obtain ⟨c', t, y, a, e1, e2, e3, e4, ha⟩ := hblk i x hx
  rw [hc] at e1; cases e1
  exact ⟨limOk_ok g6 i b x hc hx hf, t, y, e3, zCz e4 hf⟩
 obtain ⟨hup, hnn⟩ := S.end_up (G := P.globals.size) (ns := ns) (o := o) hfx h.wf g5 (by rw [hlen, hn0]) (fun x hx => by
  cases hf : x.fixed with
  | true => exact .inl rfl
  | false =>
   have := hgb x hx
   rw [hf, Bool.false_or] at this
   exact .inr this) hown0
 have hnd : (delAll (ns.drop S.stay) (zJe o.fv o.gv (nameOf P.globals.size (S.newNames ns s o)) (ns.take S.stay) ((S.shapes o.j).bl.take S.stay) s)).n = s.n := by
  have := hnn
  unfold zAd.endH at this
  rw [newAll_n, List.length_map, List.length_drop] at this
  omega
 have fin : (S.endH P.globals.size ns (S.newNames ns s o) s o).n ≤ N → ∃ ψ w1 tmps1, Stp φ B s w ψ (S.endH P.globals.size ns (S.newNames ns s o) s o) w1 ∧ RE ψ (tmps ((S.shapes o.j).t.map fun p => (p.1, AV.into o.fv (nameOf P.globals.size (S.newNames ns s o)) p.2))) nt1 tmps1 ∧ ∃ j L', K o.e j L' w1 tmps1 ∧ ∀ b a, ψ b = some a → φ b = none → Own (S.shapes j) L' a.blk := by
  intro hN
  rw [hnn, hnj] at hN
  let ψ : Phi := fun b => if s.n ≤ b ∧ b < s.n + (nj - S.stay) then some (L' (S.stay + (b - s.n))) else φ b
  have hfr0 : ∀ b, s.n ≤ b → b < s.n + (nj - S.stay) → φ b = none := fun b h1 h2 => hfree b h1 (by omega)
  have hle : φ.le ψ := fun b a e => by
   show (if _ then _ else _) = _
   rw [if_neg]
   ·exact e
   ·rintro ⟨h1, h2⟩
    rw [hfr0 b h1 h2] at e; cases e
  have hψn : ∀ k, S.stay ≤ k → k < nj → ψ (s.n + (k - S.stay)) = some (L' k) := fun k h1 h2 => by
   show (if _ then _ else _) = _
   rw [if_pos (by omega)]
   congr 2; omega
  have hψo : ∀ c, (∃ p, s.h.get c = some p) → ψ c = φ c := fun c ⟨p, hp⟩ => by
   show (if _ then _ else _) = _
   rw [if_neg]
   have := (h.wf c p.1 p.2 hp).1
   omega
  have hns : ∀ i, i < nj → (i < S.stay → ∃ c p, ns[i]? = some c ∧ nameOf P.globals.size (S.newNames ns s o) (P.globals.size + i) = c ∧ ψ c = some (L' i) ∧ φ c = some (L' i) ∧ s.h.get c = some p) ∧ (S.stay ≤ i → nameOf P.globals.size (S.newNames ns s o) (P.globals.size + i) = s.n + (i - S.stay)) := fun i hi => by
   refine ⟨fun hs => ?_, fun hs => ?_⟩
   ·obtain ⟨c, hc, _⟩ := hname i (by omega)
    obtain ⟨x0, hx0⟩ : ∃ x, (S.shapes 0).bl[i]? = some x := ⟨_, List.getElem?_eq_getElem (by rw [hn0]; omega)⟩
    obtain ⟨c', t, y, a, e1, e2, e3, e4, ha⟩ := hblk i x0 hx0
    rw [hc] at e1; cases e1
    have hLi := hL i (by omega)
    rw [e2] at hLi
    have hφc : φ c = some (L' i) := by rw [hLi, hown.same i hs]
    refine ⟨c, (t, y), hc, zIh ?_, by rw [hψo c ⟨_, e3⟩]; exact hφc, hφc, e3⟩
    unfold zAd.newNames
    rw [List.getElem?_append_left (by rw [List.length_take, hlen]; omega), List.getElem?_take, if_pos hs]
    exact hc
   ·refine zIh ?_
    unfold zAd.newNames
    have hlt : (ns.take S.stay).length = S.stay := by rw [List.length_take, hlen]; omega
    rw [List.getElem?_append_right (by rw [hlt]; exact hs), hlt, upFrom_get, hnj, if_pos (by omega)]
  have hnm' : ∀ c, c < P.globals.size + nj → zHr P.globals.size nj L' c = ψ (nameOf P.globals.size (S.newNames ns s o) c) := fun c hc => by
   by_cases hg' : c < P.globals.size
   ·rw [zFd hg', nameOf_glob hg']
    exact (hle _ _ (hg c hg')).symm
   ·obtain ⟨i, rfl⟩ : ∃ i, c = P.globals.size + i := ⟨c - P.globals.size, by omega⟩
    rw [zCu (by omega)]
    by_cases hs : i < S.stay
    ·obtain ⟨c, p, e1, e2, e3, _⟩ := (hns i (by omega)).1 hs
     rw [e2, e3]
    ·rw [(hns i (by omega)).2 (by omega), hψn i (by omega) (by omega)]
  rw [hnj] at prw pre
  have giveB : ∀ (i : Nat) y, (S.shapes o.j).bl[i]? = some y → y.fixed = false → @RB F V ψ w1 (L' i) (y.into o.fv o.gv (nameOf P.globals.size (S.newNames ns s o))) ∧ B ≤ (L' i).blk := fun i y hy hf => by
   obtain ⟨a', ha', hrb, hBa⟩ := @RW.blk q.F q.V _ _ _ _ prw (P.globals.size + i) 0 y (zFh hy)
   have hi := (List.getElem?_eq_some_iff.1 hy).1
   rw [zCu (by omega)] at ha'; cases ha'
   exact ⟨RB.give (F := F) (V := V) q hone htab hnm' (fitB i y hy hf) hrb, hBa hf⟩
  have notOwn : ∀ (c t : Nat) (x : Blk) (a : Lc), c ∉ ns.drop S.stay → (∀ (k : Nat) (y : Blk), k < S.stay → ns[k]? = some c → (S.shapes o.j).bl[k]? = some y → y.fixed = true) → s.h.get c = some (t, x) → φ c = some a → ¬ Own (S.shapes 0) L a.blk := fun c t x a hd hst hx ha hown0' => by
   obtain ⟨i, x0, hx0, hf0, hblk0⟩ := hown0'
   obtain ⟨c', t', y, a', e1, e2, e3, e4, ha'⟩ := hblk i x0 hx0
   have hi := (List.getElem?_eq_some_iff.1 hx0).1
   have hLi := hL i (by omega)
   rw [e2] at hLi
   have hyf : y.fixed = false := zCz e4 hf0
   refine h.inj c' c _ _ _ _ _ _ e3 hx hyf ?_ hLi ha hblk0
   rintro rfl
   by_cases hs : i < S.stay
   ·obtain ⟨yj, hyj⟩ : ∃ x, (S.shapes o.j).bl[i]? = some x := ⟨_, List.getElem?_eq_getElem (by rw [hnj]; omega)⟩
    have := hst i yj hs e1 hyj
    rw [hfx.alike hyj hx0, hf0] at this
    cases this
   ·exact hd (List.mem_of_getElem? (i := i - S.stay) (by rw [List.getElem?_drop, show S.stay + (i - S.stay) = i by omega]; exact e1))
  have apart : ∀ (i : Nat) (y : Blk) (c t : Nat) (x : Blk) (a : Lc), (S.shapes o.j).bl[i]? = some y → y.fixed = false → c ∉ ns.drop S.stay → (∀ (k : Nat) (y : Blk), k < S.stay → ns[k]? = some c → (S.shapes o.j).bl[k]? = some y → y.fixed = true) → s.h.get c = some (t, x) → φ c = some a → (L' i).blk ≠ a.blk := fun i y c t x a hy hf hd hst hx ha he => by
   rcases hown.own (L' i).blk ⟨i, y, hy, hf, rfl⟩ with h1 | h1
   ·obtain ⟨a', ha', hrb, _⟩ := h.blk c t x hx
    rw [ha] at ha'; cases ha'
    have := hrb.lt
    omega
   ·rw [he] at h1
    exact notOwn c t x a hd hst hx ha h1
  have ownNew : ∀ b a, ψ b = some a → φ b = none → s.n ≤ b ∧ b < s.n + (nj - S.stay) ∧ Own (S.shapes o.j) L' a.blk := fun b a e e' => by
   have hin : s.n ≤ b ∧ b < s.n + (nj - S.stay) := by
    apply Classical.byContradiction
    intro hno
    have e : (if s.n ≤ b ∧ b < s.n + (nj - S.stay) then some (L' (S.stay + (b - s.n))) else φ b) = some a := e
    rw [if_neg hno, e'] at e
    cases e
   refine ⟨hin.1, hin.2, ?_⟩
   obtain ⟨i, rfl, his⟩ : ∃ i, b = s.n + (i - S.stay) ∧ S.stay ≤ i := ⟨S.stay + (b - s.n), by omega, by omega⟩
   rw [hψn i his (by omega)] at e
   cases e
   obtain ⟨y, hy⟩ : ∃ x, (S.shapes o.j).bl[i]? = some x := ⟨_, List.getElem?_eq_getElem (by rw [hnj]; omega)⟩
   exact ⟨i, y, hy, hfx.moves hy his, rfl⟩
  refine ⟨ψ, w1, tmps1, ⟨hle, fun b hb => ?_, fun b a e e' => ?_, ⟨fun c t x ex => ?_, fun c c' t t' x x' a a' ex ex' hxf hne ha ha' => ?_, fun c t x ex => hup.wf c t x ex⟩, ⟨hown.os, hown.tape, hown.output, hown.size, fun r hr' hno => hown.heap r hr' fun ⟨i, x0, hx0, hf0, hblk0⟩ => ?_⟩, hup⟩, ?_, o.j, L', by rw [hends.e]; exact hleft, fun b a e e' => (ownNew b a e e').2.2⟩
  ·rw [hnn, hnj]
   apply Classical.byContradiction
   intro hno
   exact hb (if_neg hno)
  ·rcases hown.own a.blk (ownNew b a e e').2.2 with h1 | ⟨i0, x0, hx0, hf0, hb0⟩
   ·exact .inl h1
   ·obtain ⟨c', t', y', a', e1, e2, e3, e4, ha'⟩ := hblk i0 x0 hx0
    have hi := (List.getElem?_eq_some_iff.1 hx0).1
    have hLi := hL i0 (by omega)
    rw [e2] at hLi
    exact .inr ⟨c', t', y', L i0, e3, zCz e4 hf0, hLi, hb0⟩
  ·rcases S.end_get hnd ex with ⟨k, y, h1, h2, rfl, rfl⟩ | ⟨hd, ⟨k, y, h1, h2, h3, h4, rfl⟩ | ⟨h1, h2⟩⟩
   ·have hk := (List.getElem?_eq_some_iff.1 h2).1
    obtain ⟨r1, r2⟩ := giveB k y h2 (hfx.moves h2 h1)
    exact ⟨L' k, hψn k h1 (by omega), r1, fun _ => r2⟩
   ·obtain ⟨r1, r2⟩ := giveB k y h3 h4
    obtain ⟨c0, p, e1, e2, e3, _⟩ := (hns k (by omega)).1 h1
    rw [h2] at e1; cases e1
    exact ⟨L' k, e3, r1, fun _ => r2⟩
   ·obtain ⟨a, ha, hrb, hBa⟩ := h.blk c t x h2
    refine ⟨a, by rw [hψo c ⟨_, h2⟩]; exact ha, (hrb.of_heap (hown.heap _ hrb.lt (notOwn c t x a hd h1 h2 ha))).mono hle, hBa⟩
  ·have place : ∀ (c t : Nat) (x : Blk) (a : Lc), (S.endH P.globals.size ns (S.newNames ns s o) s o).h.get c = some (t, x) → ψ c = some a →
     (∃ (i : Nat) (y : Blk), (S.shapes o.j).bl[i]? = some y ∧ y.fixed = false ∧ L' i = a ∧ nameOf P.globals.size (S.newNames ns s o) (P.globals.size + i) = c) ∨
     (c ∉ ns.drop S.stay ∧ (∀ (k : Nat) (y : Blk), k < S.stay → ns[k]? = some c → (S.shapes o.j).bl[k]? = some y → y.fixed = true) ∧ s.h.get c = some (t, x) ∧ φ c = some a) := fun c t x a ex ha => by
    rcases S.end_get hnd ex with ⟨k, y, h1, h2, rfl, rfl⟩ | ⟨hd, ⟨k, y, h1, h2, h3, h4, rfl⟩ | ⟨h1, h2⟩⟩
    ·have hk := (List.getElem?_eq_some_iff.1 h2).1
     rw [hψn k h1 (by omega)] at ha; cases ha
     exact .inl ⟨k, y, h2, hfx.moves h2 h1, rfl, (hns k (by omega)).2 h1⟩
    ·obtain ⟨c0, p, e1, e2, e3, _⟩ := (hns k (by omega)).1 h1
     rw [h2] at e1; cases e1
     rw [e3] at ha; cases ha
     exact .inl ⟨k, y, h3, h4, rfl, e2⟩
    ·exact .inr ⟨hd, h1, h2, by rw [← hψo c ⟨_, h2⟩]; exact ha⟩
   rcases place c t x a ex ha with ⟨i, y, p1, p2, rfl, p4⟩ | ⟨p1, p2, p3, p4⟩
   ·rcases place c' t' x' a' ex' ha' with ⟨i', y', p1', p2', rfl, p4'⟩ | ⟨p1', p2', p3', p4'⟩
    ·have hi := (List.getElem?_eq_some_iff.1 p1).1
     have hi' := (List.getElem?_eq_some_iff.1 p1').1
     refine @RW.inj q.F q.V _ _ _ _ prw (P.globals.size + i) (P.globals.size + i') 0 0 y y' _ _ (zFh p1) (zFh p1') p2 (fun e => ?_) (zCu (by omega)) (zCu (by omega))
     rw [e] at p4
     exact hne (p4.symm.trans p4')
    ·exact apart i y c' t' x' a' p1 p2 p1' p2' p3' p4'
   ·rcases place c' t' x' a' ex' ha' with ⟨i', y', p1', p2', rfl, p4'⟩ | ⟨p1', p2', p3', p4'⟩
    ·exact (apart i' y' c t x a p1' p2' p1 p2 p3 p4).symm
    ·exact h.inj c c' t t' x x' a a' p3 p3' hxf hne p4 p4'
  ·obtain ⟨c', t', y, a', e1, e2, e3, e4, ha'⟩ := hblk i x0 hx0
   have hi := (List.getElem?_eq_some_iff.1 hx0).1
   have hLi := hL i (by omega)
   rw [e2] at hLi
   exact hno c' t' y (L i) e3 (zCz e4 hf0) hLi hblk0
  ·refine ⟨@RE.size q.F q.V _ _ _ _ pre, fun i v hv => ?_⟩
   rw [tmps_map, Option.map_eq_some_iff] at hv
   obtain ⟨u, hu, rfl⟩ := hv
   obtain ⟨p1, p2⟩ := @RE.some q.F q.V _ _ _ _ pre i u hu
   have hfit := hgt _ (zIp hu)
   rw [hnj] at hfit
   exact ⟨p1, RV.give (F := F) (V := V) q hone hnm' hfit p2⟩
 have fin2 : ∀ N', N' = N → (S.endH P.globals.size ns (S.newNames ns s o) s o).n ≤ N' → ∃ ψ w1 tmps1, Stp φ B s w ψ (S.endH P.globals.size ns (S.newNames ns s o) s o) w1 ∧ RE ψ (tmps ((S.shapes o.j).t.map fun p => (p.1, AV.into o.fv (nameOf P.globals.size (S.newNames ns s o)) p.2))) nt1 tmps1 ∧ st.ds = st.ds ∧ S.nt = S.nt ∧ ∃ j L', K o.e j L' w1 tmps1 ∧ ∀ b a, ψ b = some a → φ b = none → Own (S.shapes j) L' a.blk := fun N' e hN => by
  subst e
  obtain ⟨ψ, w1, tmps1, p1, p2, p3⟩ := fin hN
  exact ⟨ψ, w1, tmps1, p1, p2, rfl, rfl, p3⟩
 unfold zAd.after
 split
 ·rename_i o' ho'
  rw [ho'] at ho
  have : ko = 0 := by
   cases ko with
   | zero => rfl
   | succ _ => simp at ho
  subst this
  simp only [List.getElem?_cons_zero, Option.some.injEq] at ho
  subst ho
  exact fin2 N rfl
 ·refine .inr ⟨ko, (List.getElem?_eq_some_iff.1 ho).1, ?_⟩
  simp only [ho]
  exact fin2 N rfl
theorem spec_gen [F : Facts] [V : zAc] (S : zAd) (hlt : ∀ p ∈ tabs, p.1 < P.globals.size) {B nt1 : Nat} {fx : List Bool}
  (hfx : zAl S.shapes S.stay fx) (hgood : S.good P.globals.size = true) {K : Ex → World → Array Value → Prop} {Post : Ex → Nat → (Nat → Int) → Prop} (w : World) (tmps0 : Array Value) (st : St)
  (hloop : ∀ (L : Nat → Lc), zCk P tabs L B S.nt (S.shapes 0) (zBb S.f0v S.g0v V.env) w tmps0 →
   ∃ e j env' w1 tmps1 L', K e w1 tmps1 ∧ zLt S.stay (S.shapes 0) L w (S.shapes j) L' w1 ∧ Post e j env' ∧ zCk P tabs L' B nt1 (S.shapes j) env' w1 tmps1)
  (hmid : ∀ e j env, Post e j env → ∀ i, -9223372036854775808 ≤ env i ∧ env i ≤ 18446744073709551615)
  (hend : ∀ e j env, Post e j env → ∃ (k : Nat) (o : zBp), S.outs[k]? = some o ∧ EndsAs S e j env o)
  {N : Nat} (s : HS) (φ : Phi) (ns : List Nat) {why : String} (h : RW φ B s w) (hfree : zEj φ s.n N) (hg : GOk P φ) (hre : RE φ st.t st.nt tmps0) :
  ((bif S.entry P.globals.size tabs st s ns then S.after P.globals.size st.ds ns s else .bad why)).wp fun p s' => s'.n ≤ N → ∃ ψ w1 tmps1, Stp φ B s w ψ s' w1 ∧ RE ψ p.2.t nt1 tmps1 ∧ p.2.ds = st.ds ∧ p.2.nt = S.nt ∧ K p.1 w1 tmps1 := by
 refine R.wp_mono (fun p s' hq hN => ?_) (spec_genL S hlt hfx hgood (K := fun e _ _ w1 tmps1 => K e w1 tmps1) w tmps0 st hloop hmid hend s φ ns h hfree hg hre)
 obtain ⟨ψ, w1, tmps1, p1, p2, p3, p4, _, _, p5, _⟩ := hq hN
 exact ⟨ψ, w1, tmps1, p1, p2, p3, p4, p5⟩
theorem spec_ok [F : Facts] [V : zAc] (S : zAd) (hlt : ∀ p ∈ tabs, p.1 < P.globals.size) {B : Nat} {fx : List Bool}
  (hfx : zAl S.shapes S.stay fx) (hgood : S.good P.globals.size = true) {Post : Ex → Nat → (Nat → Int) → Prop}
  (hloop : ∀ (L : Nat → Lc) (w : World) (fr : Frame) (cs : List Frame) (k : List Item), zCk P tabs L B S.nt (S.shapes 0) (zBb S.f0v S.g0v V.env) w fr.tmps → B ≤ w.heap.size → fr.mode = .run → fr.roundOf = none → fr.fn = S.fn → fr.todo = .code b0 :: .inLoop b0 :: k →
   ∃ e j env' w1 tmps1 L', Left P (lone fr cs w) (zAz fr tmps1 fr.defers k) k cs w1 e ∧ zLt S.stay (S.shapes 0) L w (S.shapes j) L' w1 ∧ Post e j env' ∧ zCk P tabs L' B S.nt (S.shapes j) env' w1 tmps1)
  (hmid : ∀ e j env, Post e j env → ∀ i, -9223372036854775808 ≤ env i ∧ env i ≤ 18446744073709551615)
  (hend : ∀ e j env, Post e j env → ∃ (k : Nat) (o : zBp), S.outs[k]? = some o ∧ EndsAs S e j env o)
  {N lo : Nat} (cs : List Frame) (st : St) (s : HS) (φ : Phi) (w : World) (fr : Frame) (k : List Item) (h : RW φ B s w) (hB : B ≤ w.heap.size) (hfree : zEj φ s.n N) (hg : GOk P φ) (hr : RF P φ s w lo none st fr) (hfn : fr.fn = S.fn) (ht : fr.todo = .code b0 :: .inLoop b0 :: k) :
  (S.run P.globals.size tabs st s).wp fun p s' => zIc P φ B N lo s w (lone fr cs w) fr k cs p.1 p.2 s' := by
 refine R.wp_mono ?_ (spec_gen S hlt hfx hgood (nt1 := S.nt) (K := fun e w1 tmps1 => Left P (lone fr cs w) (zAz fr tmps1 fr.defers k) k cs w1 e) w fr.tmps st (fun L hp => hloop L w fr cs k hp hB hr.mode hr.round hfn ht) hmid hend s φ (S.names st s) h hfree hg hr.re)
 intro p s' hq hN
 obtain ⟨ψ, w1, tmps1, p1, p2, p3, p4, p7⟩ := hq hN
 exact ⟨ψ, w1, tmps1, fr.defers, p1, by rw [p4]; exact p2, by rw [p3]; exact hr.ds.step p1 (hfree.mono (Nat.le_refl _) hN), p7⟩
end
end
end Go.Abs
namespace Go.Abs
noncomputable section
section
variable {P : Program} {tabs : List (Nat × List Value)}
theorem zAd.gen_tame [Facts] (S : zAd) {fx : List Bool} {G : Nat} (hfx : zAl S.shapes S.stay fx) (hgood : S.good G = true) (st : St) (s : HS) (hs : s.wf) (ns : List Nat) {why : String} :
  (bif S.entry G tabs st s ns then S.after G st.ds ns s else .bad why).All fun _ s' => Up s s' := by
 cases hh : S.entry G tabs st s ns
 ·exact trivial
 rw [cond_true]
 simp only [zAd.entry, Bool.and_eq_true] at hh
 obtain ⟨_, g3, _, g5, g6, g7⟩ := hh
 simp only [Shape.met, Bool.and_eq_true] at g7
 obtain ⟨_, g8⟩ := g7
 have one : ∀ o ∈ S.outs, (S.one G st.ds ns s o).All fun _ s' => Up s s' := by
  intro o ho
  have hgo := List.all_eq_true.1 hgood o ho
  simp only [Bool.and_eq_true, List.all_eq_true] at hgo
  refine (S.end_up (G := G) (ns := ns) (o := o) hfx hs g5 (zAr g3) (fun x hx => ?_) (fun i b x hc hx hf => ?_)).1
  ·have := hgo.2 x hx
   rw [Bool.or_eq_true] at this
   exact this
  ·obtain ⟨t, y, k1, k2⟩ := metB_ok g8 i x hx
   rw [zIh hc] at k1
   exact ⟨limOk_ok g6 i b x hc hx hf, t, y, k1, zCz k2 hf⟩
 unfold zAd.after
 split
 ·rename_i o ho
  exact one o (by rw [ho]; simp)
 ·intro k hk
  dsimp only
  split
  ·rename_i o ho
   exact one o (List.mem_of_getElem? ho)
  ·trivial
theorem zAd.run_tame [Facts] (S : zAd) {fx : List Bool} {G : Nat} (hfx : zAl S.shapes S.stay fx) (hgood : S.good G = true) (st : St) : zAb (S.run G tabs st) := fun s hs =>
 S.gen_tame hfx hgood st s hs (S.names st s)
structure zAp [F : Facts] [V : zAc] (P : Program) (tabs : List (Nat × List Value)) (S : zAd) : Prop where
 tame : ∀ st, zAb (S.run P.globals.size tabs st)
 ok : ∀ (B N lo : Nat) b func body, P.funcs[S.fn]? = some func → func.body = some body → Sub (.loop b) body → keyOf b = S.key → ∀ (cs : List Frame) (st : St) (s : HS) (φ : Phi) (w : World) (fr : Frame) (k : List Item),
  RW φ B s w → B ≤ w.heap.size → zEj φ s.n N → GOk P φ → RF P φ s w lo none st fr → fr.fn = S.fn → fr.todo = .code b :: .inLoop b :: k → (S.run P.globals.size tabs st s).wp fun p s' => zIc P φ B N lo s w (lone fr cs w) fr k cs p.1 p.2 s'
theorem tab_at {env : Nat → Int} {j : Nat} (h : ¬ j % 256 < 128) : (SE.tab (j % 256)).row env (j / 16384 : Nat) (j / 256 % 64) = env j := by
 show env (zDj (j % 256) ((j / 16384 : Nat) : Int) (j / 256 % 64)) = env j
 congr 1
 unfold zDj
 simp only [Int.toNat_natCast]
 omega
end
end
end Go.Abs
namespace Go.Abs
noncomputable section
def SE.ups (k : Nat) : SE → Bool
 | .lit _ => true
 | .var i => Nat.blt i k
 | .add a b | .sub a b | .mul a b | .quo a b | .rem a b => a.ups k && b.ups k
 | .wr _ a => a.ups k
 | _ => false
theorem SE.ups_ok {k : Nat} {env env' : Nat → Int} (h : ∀ i, i < k → env i = env' i) : ∀ {e : SE}, e.ups k = true → e.eval env = e.eval env' := by
 intro e
 induction e with
 | lit n => intro _; rfl
 | var i => intro he; exact h i (Nat.le_of_ble_eq_true he)
 | add a b iha ihb | sub a b iha ihb | mul a b iha ihb | quo a b iha ihb | rem a b iha ihb =>
  intro he
  simp only [SE.ups, Bool.and_eq_true] at he
  simp only [SE.eval, iha he.1, ihb he.2]
 | wr k a ih =>
  intro he
  simp only [SE.ups] at he
  simp only [SE.eval, ih he]
 | _ => intro he; cases he
mutual
def AV.ups (k : Nat) : AV → Bool
 | .val _ => true
 | .sx _ e => e.ups k
 | .ptr _ _ => true
 | .ps _ _ r _ => r.ups k
 | .ss _ _ o l => o.ups k && l.ups k
 | .so l => l.ups k
 | .sl _ _ _ _ _ => true
 | .mp _ => true
 | .yl _ => true
 | .ifc _ v => AV.ups k v
 | .agg l => AV.upsL k l
 | .tup l => AV.upsL k l
 | .fn _ a b => AV.upsL k a && AV.upsL k b
def AV.upsL (k : Nat) : List AV → Bool
 | [] => true
 | v :: l => AV.ups k v && AV.upsL k l
end
def Blk.ups (k t : Nat) : Blk → Bool
 | .cells c _ _ => c.allV (AV.ups k)
 | .ro c _ => c.allV (AV.ups k)
 | .arr ks (.tab a) n _ => Nat.ble ks.length 64 && (Nat.ble 128 a && (Nat.blt a (128 + t) && n.ups k))
 | .dfr => true
 | .loop _ _ _ env _ _ _ _ _ => env.allV (AV.ups k)
 | _ => false
def Shape.ups (k t : Nat) (sh : Shape) : Bool := sh.t.all (fun p => p.2.ups k) && sh.bl.all (Blk.ups k t)
def zCq (k t : Nat) (env env' : Nat → Int) : Prop :=
 (∀ i, i < k → env i = env' i) ∧ ∀ a r c : Nat, 128 ≤ a → a < 128 + t → c < 64 → env (zDj a (r : Int) c) = env' (zDj a (r : Int) c)
section
variable {F : Facts} {V : @zAc F} (q : zHi) {φ : Phi} {k t : Nat}
mutual
theorem RV.shift (he : ∀ i, i < k → V.env i = q.V.env i) : ∀ {v : AV} {x : Value}, v.ups k = true → @RV F V φ v x → @RV q.F q.V φ v x
 | .val v, x, _, h => by
  cases h
  exact @RV.val q.F q.V φ v
 | .sx k e, x, hf, h => by
  cases h with | sx h =>
  exact @RV.sx q.F q.V φ _ _ _ (by rw [← h, SE.ups_ok he hf])
 | .ptr b o, x, hf, h => by
  cases h with | ptr h =>
  exact @RV.ptr q.F q.V φ _ _ _ h
 | .ps b z r c, x, hf, h => by
  cases h with | ps h hr =>
  exact @RV.ps q.F q.V φ _ _ _ _ _ _ h (by rw [← SE.ups_ok he hf]; exact hr)
 | .ss b z o l, x, hf, h => by
  simp only [AV.ups, Bool.and_eq_true] at hf
  cases h with | ss h hm hl hc ho =>
  exact @RV.ss q.F q.V φ _ _ _ _ _ _ _ _ _ h (by rw [← SE.ups_ok he hf.1]; exact hm) (by rw [← SE.ups_ok he hf.2]; exact hl) hc ho
 | .so l, x, hf, h => by
  cases h with | so hl =>
  exact @RV.so q.F q.V φ _ _ _ _ (by rw [← SE.ups_ok he hf]; exact hl)
 | .sl b i z l c, x, hf, h => by
  cases h with | sl h hc hl ho =>
  exact @RV.sl q.F q.V φ _ _ _ _ _ _ _ _ h hc hl ho
 | .mp b, x, hf, h => by
  cases h with | mp h =>
  exact @RV.mp q.F q.V φ _ _ h
 | .yl b, x, hf, h => by
  cases h with | yl h =>
  exact @RV.yl q.F q.V φ _ _ h
 | .ifc t v, x, hf, h => by
  cases h with | ifc h =>
  exact @RV.ifc q.F q.V φ _ _ _ (RV.shift he hf h)
 | .agg l, x, hf, h => by
  cases h with | agg h =>
  exact @RV.agg q.F q.V φ _ _ (RL.shift he hf h)
 | .tup l, x, hf, h => by
  cases h with | tup h =>
  exact @RV.tup q.F q.V φ _ _ (RL.shift he hf h)
 | .fn g a b, x, hf, h => by
  simp only [AV.ups, Bool.and_eq_true] at hf
  cases h with | fn h1 h2 =>
  exact @RV.fn q.F q.V φ _ _ _ _ _ (RL.shift he hf.1 h1) (RL.shift he hf.2 h2)
theorem RL.shift (he : ∀ i, i < k → V.env i = q.V.env i) : ∀ {l : List AV} {xs : List Value}, AV.upsL k l = true → @RL F V φ l xs → @RL q.F q.V φ l xs
 | [], xs, _, h => by
  cases h
  exact @RL.nil q.F q.V φ
 | v :: l, xs, hf, h => by
  simp only [AV.upsL, Bool.and_eq_true] at hf
  cases h with | cons h1 h2 =>
  exact @RL.cons q.F q.V φ _ _ _ _ (RV.shift he hf.1 h1) (RL.shift he hf.2 h2)
end
theorem RB.shift (ha : zCq k t V.env q.V.env) {w : World} {a : Lc} {x : Blk} (hu : x.ups k t = true) (h : @RB F V φ w a x) : @RB q.F q.V φ w a x := by
 unfold Blk.ups at hu
 split at hu
 ·obtain ⟨arr, el, h1, h2, h3⟩ := h
  refine ⟨arr, el, h1, ⟨h2.1, fun i v hi hv => ?_⟩, h3⟩
  obtain ⟨x, g1, g2⟩ := h2.2 i v hi hv
  exact ⟨x, g1, RV.shift q ha.1 (Tr.allV_ok hu hv) g2⟩
 ·obtain ⟨arr, el, fz, h1, h2⟩ := h
  refine ⟨arr, el, fz, h1, ⟨h2.1, fun i v hi hv => ?_⟩⟩
  obtain ⟨x, g1, g2⟩ := h2.2 i v hi hv
  exact ⟨x, g1, RV.shift q ha.1 (Tr.allV_ok hu hv) g2⟩
 ·simp only [Bool.and_eq_true] at hu
  obtain ⟨u1, u2, u3, u4⟩ := hu
  obtain ⟨arr, el, fz, h1, h2, m, h3, h4, h5⟩ := h
  refine ⟨arr, el, fz, h1, h2, m, by rw [← SE.ups_ok ha.1 u4]; exact h3, h4, fun r c kk hr hk => ?_⟩
  obtain ⟨x, g1, g2⟩ := h5 r c kk hr hk
  refine ⟨x, g1, ?_⟩
  have hc : c < 64 := by
   have := (List.getElem?_eq_some_iff.1 hk).1
   have := Nat.le_of_ble_eq_true u1
   omega
  have := ha.2 _ r c (Nat.le_of_ble_eq_true u2) (Nat.le_of_ble_eq_true u3) hc
  show CKv kk (q.V.env (zDj _ (r : Int) c)) x
  rw [← this]; exact g2
 ·exact h
 ·obtain ⟨tm, da, e1, e2, e3⟩ := h
  refine ⟨tm, da, e1, @RE.mk q.F q.V _ _ _ _ (@RE.size F V _ _ _ _ e2) (fun i v hv => ?_), e3⟩
  obtain ⟨p1, p2⟩ := @RE.some F V _ _ _ _ e2 i v hv
  exact ⟨p1, RV.shift q ha.1 (Tr.allV_ok hu hv) p2⟩
 ·cases hu
end
section
variable {P : Program} {tabs : List (Nat × List Value)} {L : Nat → Lc} {B nt N fuel : Nat} {fn : FuncId} {b : Code}
theorem zCk.shift {k t : Nat} {sh : Shape} (hu : sh.ups k t = true) (hlt : ∀ p ∈ tabs, p.1 < P.globals.size) {env env' : Nat → Int} (hm : ∀ j, In64 (env j)) (ha : zCq k t env env') {w : World} {tmp : Array Value}
  (h : zCk P tabs L B nt sh env w tmp) : zCk P tabs L B nt sh env' w tmp := by
 intro q' hq'
 let q : zHi := ⟨⟨[]⟩, @zAc.mk ⟨[]⟩ env (fun _ hp => (List.not_mem_nil hp).elim) hm []⟩
 obtain ⟨h1, h2⟩ := h q rfl
 have hag : zCq k t q.V.env q'.V.env := by rw [hq']; exact ha
 simp only [Shape.ups, Bool.and_eq_true, List.all_eq_true] at hu
 refine ⟨RW.retake (F := q.F) (V := q.V) (F' := q'.F) (V' := q'.V) (φ := zHr P.globals.size sh.bl.length L) id h1 (fun x tt y ex => ?_) (fun _ _ _ _ _ _ _ _ _ hne => hne), @RE.mk q'.F q'.V _ _ _ _ (@RE.size q.F q.V _ _ _ _ h2) (fun i v hv => ?_)⟩
 ·obtain ⟨l1, l2⟩ := @RW.lt q.F q.V _ _ _ _ h1 x tt y ex
  refine ⟨l1, l2, tt, y, ex, rfl, fun hx => hx, fun a _ hb => ?_⟩
  rcases zDz hlt ex with ⟨p, hp, rfl, rfl, rfl⟩ | ⟨i, hi, rfl, rfl, hx⟩
  ·exact tabs_rb (q := q) (q' := q') hb
  ·exact RB.shift (V := q.V) q' hag (hu.2 y (List.mem_of_getElem? hx)) hb
 ·obtain ⟨p1, p2⟩ := @RE.some q.F q.V _ _ _ _ h2 i v hv
  exact ⟨p1, RV.shift (V := q.V) q' hag.1 (hu.1 _ (zIp hv)) p2⟩
theorem zGn {k t : Nat} (hk : k ≤ 128) {f g : List SE} (hf : f.length ≤ k) (hg : g.length ≤ t) {env env' : Nat → Int} (hm : ∀ j, In64 (env j)) (hm' : ∀ j, In64 (env' j))
  (ha : zCq k t (zBb (fun i => (f[i]?).getD (.var i)) (fun a => (g[a - 128]?).getD (.tab a)) env) env') (j : Nat) : In64 (zBb (fun i => (f[i]?).getD (.var i)) (fun a => (g[a - 128]?).getD (.tab a)) env j) := by
 by_cases h : j % 256 < 128
 ·by_cases hl : j < f.length
  ·rw [ha.1 j (by omega)]; exact hm' j
  ·unfold zBb
   rw [if_pos h]
   dsimp only
   rw [List.getElem?_eq_none (by omega)]
   exact hm j
 ·by_cases hl : j % 256 - 128 < g.length
  ·have e : zDj (j % 256) ((j / 16384 : Nat) : Int) (j / 256 % 64) = j := by
    unfold zDj
    simp only [Int.toNat_natCast]
    omega
   have := ha.2 (j % 256) (j / 16384) (j / 256 % 64) (by omega) (by omega) (by omega)
   rw [e] at this
   rw [this]; exact hm' j
  ·unfold zBb
   rw [if_neg h]
   dsimp only
   rw [List.getElem?_eq_none (by omega)]
   show In64 ((SE.tab (j % 256)).row env (j / 16384 : Nat) (j / 256 % 64))
   rw [tab_at h]; exact hm j
structure Rnd (P : Program) (B : Nat) (pc : List (SB × Bool)) (env : Nat → Int) (Lo : zDa) (call : Tgt → List AV → M AV) : Prop where
 tame : ∀ V : @zAc ⟨pc⟩, V.env = env → @zGs Lo
 lo : ∀ V : @zAc ⟨pc⟩, V.env = env → @zFu ⟨pc⟩ V Lo P B
 hc : ∀ V : @zAc ⟨pc⟩, V.env = env → @zCe ⟨pc⟩ V P B call
theorem shape_loop2 (hlt : ∀ p ∈ tabs, p.1 < P.globals.size) {shapes : Nat → Shape} {stay : Nat} {fx : List Bool}
  (hfx : zAl shapes stay fx) {σ : Type} {enc : σ → Nat → Int} {kv kt : Nat} (hkv : kv ≤ 128) (hups : ∀ i, (shapes i).ups kv kt = true) {I : Nat → Nat → σ → Prop} {Post : Ex → Nat → σ → Prop}
  (hstep : ∀ μ i s, I μ i s → ∃ (c : Case) (s' : σ) (Lo : zDa) (call : Tgt → List AV → M AV), Rnd P B c.pc (enc s) Lo call ∧ ((@code ⟨c.pc⟩ P Lo call none fn fuel b ⟨tmps (shapes i).t, nt, [.rest]⟩ ((shapes i).heap P.globals.size tabs)).every N (@Case.chk ⟨c.pc⟩ P.globals.size nt stay (shapes c.to) c)) = true ∧
   (∀ p ∈ c.pc, p.1.eval (enc s) = p.2) ∧ c.f.length ≤ kv ∧ c.g.length ≤ kt ∧ (∀ j, In64 (enc s' j)) ∧ zCq kv kt (c.next (enc s)) (enc s') ∧ ((c.e = .normal ∧ ∃ ν, ν < μ ∧ I ν c.to s') ∨ (c.e ≠ .normal ∧ Post c.e c.to s')))
  (hin : InFn P none fn b) :
  ∀ μ i s (L : Nat → Lc) w (fr : Frame) (cs : List Frame) (k : List Item), I μ i s → (∀ j, In64 (enc s j)) → zCk P tabs L B nt (shapes i) (enc s) w fr.tmps → B ≤ w.heap.size → fr.mode = .run → fr.roundOf = none → fr.fn = fn → fr.todo = .code b :: .inLoop b :: k →
   ∃ e j s' w1 tmps1 L', Left P (lone fr cs w) (zAz fr tmps1 fr.defers k) k cs w1 e ∧ zLt stay (shapes i) L w (shapes j) L' w1 ∧ Post e j s' ∧ (∀ j, In64 (enc s' j)) ∧ zCk P tabs L' B nt (shapes j) (enc s') w1 tmps1 := by
 intro μ
 induction μ using Nat.strongRecOn with
 | _ μ ih =>
  intro i s L w fr cs k hi hm64 hp hB hm hr hfn htodo
  obtain ⟨c, s', Lo, call, hR, h1, h2, h3, h3', h5, h6, h4⟩ := hstep μ i s hi
  let q : zHi := ⟨⟨c.pc⟩, @zAc.mk ⟨c.pc⟩ (enc s) h2 hm64 fr.defers⟩
  obtain ⟨p1, p2⟩ := hp q rfl
  letI := Lo
  letI : zGs := hR.tame q.V rfl
  obtain ⟨w1, tmps1, L1, g1, g2, g3⟩ := shape_round (b := b) hlt q (hR.lo q.V rfl) (hR.hc q.V rfl) (hfx i).1 h1 p1 p2 hB hm hr hfn rfl hin htodo (cs := cs) (k := k)
  have g3 : zCk P tabs L1 B nt (shapes c.to) (enc s') w1 tmps1 := zCk.shift (hups c.to) hlt (zGn hkv h3 h3' hm64 h5 h6) h6 g3
  rcases h4 with ⟨he, ν, hν, hinv⟩ | ⟨hne, hpost⟩
  ·rw [he] at g1
   have hst := st_inLoop (P := P) (cs := cs) (w := w1) (fr := zAz fr tmps1 fr.defers (.inLoop b :: k)) hm rfl
   obtain ⟨e, j, env', w2, tmps2, L2, k1, k2, k3, k4⟩ := ih ν hν c.to s' L1 w1 (zAz fr tmps1 fr.defers (.code b :: .inLoop b :: k)) cs k hinv h5 g3 (Nat.le_trans hB g2.size) hm hr hfn rfl
   exact ⟨e, j, env', w2, tmps2, L2, .of_steps (Steps.trans g1 (.one hst)) k1, g2.trans k2, k3, k4⟩
  ·exact ⟨c.e, c.to, s', w1, tmps1, L1, .frame.1 (.pass (by intro id; simp) hne g1), g2, hpost, h5, g3⟩
structure EndsBy [F : Facts] [V : zAc] (S : zAd) (kv kt : Nat) (e : Ex) (j : Nat) (env : Nat → Int) (o : zBp) : Prop where
 e : o.e = e
 j : o.j = j
 f : o.f.length ≤ kv
 g : o.g.length ≤ kt
 ag : zCq kv kt env (zBb o.fv o.gv V.env)
theorem zFo [F : Facts] [V : zAc] (S : zAd) (hlt : ∀ p ∈ tabs, p.1 < P.globals.size) {fx : List Bool} {b0 : Code}
  (hloop : ((P.funcs[S.fn]?).bind (·.body)).map (fun c => zBm S.key (subs c)) = some [b0])
  (hfx : zAl S.shapes S.stay fx) (hgood : S.good P.globals.size = true) {σ : Type} (enc : σ → Nat → Int) (kv kt : Nat) (hkv : kv ≤ 128) (hups : ∀ i, (S.shapes i).ups kv kt = true)
  (hf0 : S.f0.length ≤ kv) (hg0 : S.g0.length ≤ kt) {I : Nat → Nat → σ → Prop} {Post : Ex → Nat → σ → Prop}
  (hstep : ∀ B μ i s, I μ i s → ∃ (c : Case) (s' : σ) (Lo : zDa) (call : Tgt → List AV → M AV), Rnd P B c.pc (enc s) Lo call ∧ ((@code ⟨c.pc⟩ P Lo call none S.fn fuel b0 ⟨tmps (S.shapes i).t, S.nt, [.rest]⟩ ((S.shapes i).heap P.globals.size tabs)).every N (@Case.chk ⟨c.pc⟩ P.globals.size S.nt S.stay (S.shapes c.to) c)) = true ∧
   (∀ p ∈ c.pc, p.1.eval (enc s) = p.2) ∧ c.f.length ≤ kv ∧ c.g.length ≤ kt ∧ (∀ j, In64 (enc s' j)) ∧ zCq kv kt (c.next (enc s)) (enc s') ∧ ((c.e = .normal ∧ ∃ ν, ν < μ ∧ I ν c.to s') ∨ (c.e ≠ .normal ∧ Post c.e c.to s')))
  (μ : Nat) (s0 : σ) (hI : I μ 0 s0) (hm0 : ∀ j, In64 (enc s0 j)) (ha0 : zCq kv kt (zBb S.f0v S.g0v V.env) (enc s0))
  (hend : ∀ e j s, Post e j s → ∃ (k : Nat) (o : zBp), S.outs[k]? = some o ∧ EndsBy S kv kt e j (enc s) o) : zAp P tabs S := by
 refine ⟨S.run_tame hfx hgood, fun B N' lo b func body hf hb hsub hk cs st s φ w fr k hw hB hfr hg hr hfn ht => ?_⟩
 have hb0 := loop_is hf hb hloop hsub hk
 subst hb0
 refine spec_ok S hlt hfx hgood (Post := fun e j env => (∀ i, In64 (env i)) ∧ ∃ (k : Nat) (o : zBp), S.outs[k]? = some o ∧ o.e = e ∧ o.j = j ∧ env = zBb o.fv o.gv V.env) (fun L w fr cs k hpl hB hm hro hfn ht => ?_) (fun e j env h => h.1) (fun e j env h => ?_) cs st s φ w fr k hw hB hfr hg hr hfn ht
 ·have hp0 := zCk.shift (hups 0) hlt (zGn hkv hf0 hg0 V.mid hm0 ha0) ha0 hpl
  obtain ⟨e, j, s', w1, tmps1, L', k1, k2, k3, k4, k5⟩ := shape_loop2 (B := B) hlt hfx hkv hups (hstep B) (fun _ => ⟨func, body, hf, hb, .loop hsub⟩) μ 0 s0 L w fr cs k hI hm0 hp0 hB hm hro hfn ht
  obtain ⟨ko, o, ho, he⟩ := hend e j s' k3
  have hag : zCq kv kt (zBb o.fv o.gv V.env) (enc s') := ⟨fun i hi => (he.ag.1 i hi).symm, fun a r c h1 h2 h3 => (he.ag.2 a r c h1 h2 h3).symm⟩
  have hmo := zGn hkv he.f he.g V.mid k4 hag
  exact ⟨e, j, _, w1, tmps1, L', k1, k2, ⟨hmo, ko, o, ho, he.e, he.j, rfl⟩, zCk.shift (hups j) hlt k4 he.ag k5⟩
 ·obtain ⟨_, ko, o, ho, he, hj, rfl⟩ := h
  exact ⟨ko, o, ho, he, hj, fun i hi => zBt hi, fun a r c h1 h2 h3 => zCj h1 h2 h3⟩
end
def zJz [Facts] (G : Nat) (tabs : List (Nat × List Value)) (st : St) (s : HS) : List zAd → Option zAd
 | [] => none
 | S :: l => bif S.entry G tabs st s (S.names st s) then some S else zJz G tabs st s l
def zMd [Facts] (G : Nat) (tabs : List (Nat × List Value)) (l : List zAd) (st : St) : M (Ex × St) := fun s =>
 match zJz G tabs st s l with
 | some S => S.run G tabs st s
 | none => .bad "no summary of the loop begins so"
def zHv (fn : FuncId) (key : Nat) (l : List zAd) : List zAd := l.filter fun S => Nat.beq S.fn fn && Nat.beq S.key key
@[reducible] def manyLoops [Facts] (G : Nat) (tabs : List (Nat × List Value)) (l : List zAd) : zDa :=
 ⟨fun fn key => match zHv fn key l with
  | [] => none
  | S :: r => some (zMd G tabs (S :: r))⟩
theorem zGq [Facts] {G : Nat} {tabs : List (Nat × List Value)} {st : St} {s : HS} : ∀ {l : List zAd} {S : zAd}, zJz G tabs st s l = some S → S ∈ l := by
 intro l
 induction l with
 | nil => intro S h; cases h
 | cons S' l ih =>
  intro S h
  unfold zJz at h
  cases he : S'.entry G tabs st s (S'.names st s)
  ·rw [he, cond_false] at h; exact .tail _ (ih h)
  ·rw [he, cond_true] at h; cases h; exact .head _
section
variable {P : Program} {tabs : List (Nat × List Value)}
theorem zMk [Facts] {G : Nat} {l : List zAd} {fn key : Nat} {f : St → M (Ex × St)} (h : (manyLoops G tabs l).sum fn key = some f) : ∃ r : List zAd, (∀ S ∈ r, S ∈ l ∧ S.fn = fn ∧ S.key = key) ∧ f = zMd G tabs r := by
 have h : (match zHv fn key l with | [] => none | S :: r => some (zMd G tabs (S :: r))) = some f := h
 have hm : ∀ S ∈ zHv fn key l, S ∈ l ∧ S.fn = fn ∧ S.key = key := fun S hS => by
  simp only [zHv, List.mem_filter, Bool.and_eq_true] at hS
  exact ⟨hS.1, zAr hS.2.1, zAr hS.2.2⟩
 generalize zHv fn key l = r at h hm
 cases r with
 | nil => cases h
 | cons S r => cases h; exact ⟨_, hm, rfl⟩
theorem zDm [F : Facts] [V : zAc] {l : List zAd} (h : ∀ S ∈ l, zAp P tabs S) : @zGs (manyLoops P.globals.size tabs l) := by
 letI := manyLoops P.globals.size tabs l
 refine ⟨fun fn key f e st => ?_⟩
 obtain ⟨r, h1, rfl⟩ := zMk e
 intro s hs
 unfold zMd
 split
 ·rename_i S hS
  exact (h S (h1 S (zGq hS)).1).tame st s hs
 ·trivial
theorem zEw [F : Facts] [V : zAc] {l : List zAd} (h : ∀ S ∈ l, zAp P tabs S) (B : Nat) : @zFu F V (manyLoops P.globals.size tabs l) P B := by
 letI := manyLoops P.globals.size tabs l
 intro fn key f e b func body hf hb hsub hk N lo cs st s φ w fr k hw hB hfr hg hr hfn ht
 obtain ⟨r, h1, rfl⟩ := zMk e
 unfold zMd
 split
 ·rename_i S hS
  obtain ⟨g1, rfl, rfl⟩ := h1 S (zGq hS)
  exact (h S g1).ok B N lo b func body hf hb hsub hk cs st s φ w fr k hw hB hfr hg hr hfn ht
 ·trivial
end
end
end Go.Abs
namespace Go.Abs
noncomputable section
end
end Go.Abs
namespace Go.Abs
noncomputable section
structure zAi where
 g : FuncId
 na : Nat
 shapes : Nat → Shape
 f0 : List SE
 g0 : List SE
 names : List AV → HS → List Nat
 outs : List zBp
 stay : Nat
def zAi.loop (S : zAi) : zAd := ⟨S.g, 0, S.na, S.shapes, S.f0, S.g0, fun _ _ => [], S.outs, S.stay⟩
def argsSt (as : List AV) : St := ⟨zIa as 0 .lf, as.length, []⟩
def zHg : Nat → List AV → List (Nat × AV)
 | _, [] => []
 | i, v :: l => (i, v) :: zHg (i + 1) l
def resV (p : Ex × St) (s : HS) : R AV :=
 match p.2.t.get 0 with
 | some v => .ok v s
 | none => .bad "no answer"
def zAi.run [Facts] (S : zAi) (G : Nat) (tabs : List (Nat × List Value)) (as : List AV) : M AV := fun s =>
 (bif S.loop.entry G tabs (argsSt as) s (S.names as s) then S.loop.after G [] (S.names as s) s else .bad "not the call").bind resV
structure zAj [F : Facts] [V : zAc] (P : Program) (tabs : List (Nat × List Value)) (S : zAi) : Prop where
 tame : ∀ as, zAb (S.run P.globals.size tabs as)
 ok : ∀ (B N : Nat) as s φ w (xs : Array Value) (kind : CallKind) (cs : List Frame), kind = .normal → RW φ B s w → B ≤ w.heap.size → zEj φ s.n N → GOk P φ → RL φ as xs.toList →
  (S.run P.globals.size tabs as s).wp fun v s' => s'.n ≤ N → ∃ ψ w' x, Stp φ B s w ψ s' w' ∧ RV ψ v x ∧ zKz P S.g xs w x w' kind cs
theorem argsT_get : ∀ {l : List AV} {k : Nat} {t : Env} {i : Nat}, (zLx t (zHg k l)).get i = if k ≤ i ∧ i < k + l.length then l[i - k]? else t.get i := by
 intro l
 induction l with
 | nil => intro k t i; rw [if_neg (by simp only [List.length_nil]; omega)]; rfl
 | cons v l ih =>
  intro k t i
  show (zLx (t.set k v) (zHg (k + 1) l)).get i = _
  rw [ih, Tr.get_set]
  simp only [List.length_cons]
  by_cases h1 : k + 1 ≤ i ∧ i < k + 1 + l.length
  ·rw [if_pos h1, if_pos (by omega), show i - k = (i - (k + 1)) + 1 by omega, List.getElem?_cons_succ]
  ·rw [if_neg h1]
   by_cases h2 : i = k
   ·subst h2
    rw [if_pos rfl, if_pos (by omega)]
    simp
   ·rw [if_neg h2, if_neg (by omega)]
theorem args_get {l : List AV} {i : Nat} : (tmps (zHg 0 l)).get i = l[i]? := by
 show (zLx .lf (zHg 0 l)).get i = _
 rw [argsT_get]
 by_cases h : i < l.length
 ·rw [if_pos (by omega), Nat.sub_zero]
 ·rw [if_neg (by omega), List.getElem?_eq_none (by omega), Tr.get_lf]
section
variable [F : Facts] [V : zAc]
omit F V in
theorem RL.of_at {F : Facts} {V : @zAc F} {φ : Phi} : ∀ {l : List AV} {xs : List Value}, l.length = xs.length → (∀ (i : Nat) v x, l[i]? = some v → xs[i]? = some x → @RV F V φ v x) → @RL F V φ l xs := by
 intro l
 induction l with
 | nil =>
  intro xs hl _
  cases xs with
  | nil => exact .nil
  | cons _ _ => simp at hl
 | cons v l ih =>
  intro xs hl h
  cases xs with
  | nil => simp at hl
  | cons x xs => exact .cons (h 0 v x rfl rfl) (ih (by simpa using hl) fun i v x h1 h2 => h (i + 1) v x (by simpa using h1) (by simpa using h2))
theorem args_re {φ : Phi} {as : List AV} {xs : Array Value} (h : RL φ as xs.toList) : RE φ (zIa as 0 .lf) as.length xs := by
 have hl := h.length
 have h1 := argsEnv_ok (nt := as.length) h (Nat.le_refl _)
 have : xs ++ Array.replicate (as.length - xs.size) undef = xs := by
  have e : as.length - xs.size = 0 := by
   have : xs.toList.length = xs.size := by simp
   omega
  rw [e]
  simp
 rw [this] at h1
 exact h1
end
section
variable {P : Program} {tabs : List (Nat × List Value)}
theorem fun_ok [F : Facts] [V : zAc] (S : zAi) (hlt : ∀ p ∈ tabs, p.1 < P.globals.size) {fx : List Bool} (hfx : zAl S.shapes S.stay fx) (hgood : S.loop.good P.globals.size = true) {Post : Nat → (Nat → Int) → Prop}
  (hcall : ∀ B (L : Nat → Lc) (w : World) (xs : Array Value) (kind : CallKind) (cs : List Frame), kind = .normal → zCk P tabs L B S.na (S.shapes 0) (zBb S.loop.f0v S.loop.g0v V.env) w xs → B ≤ w.heap.size →
   ∃ j env' w1 x L', zKz P S.g xs w x w1 kind cs ∧ zLt S.stay (S.shapes 0) L w (S.shapes j) L' w1 ∧ Post j env' ∧ zCk P tabs L' B 1 (S.shapes j) env' w1 #[x])
  (hmid : ∀ j env, Post j env → ∀ i, -9223372036854775808 ≤ env i ∧ env i ≤ 18446744073709551615)
  (hend : ∀ j env, Post j env → ∃ (k : Nat) (o : zBp), S.outs[k]? = some o ∧ EndsAs S.loop .ret j env o) : zAj P tabs S := by
 refine ⟨fun as s hs => ?_, fun B N as s φ w xs kind cs hkind h hB hf hg hx => ?_⟩
 ·unfold zAi.run
  refine R.All_bind (R.All_mono (fun p s' hu => ?_) (S.loop.gen_tame hfx hgood (argsSt as) s hs (S.names as s)))
  unfold resV
  split
  ·exact hu
  ·trivial
 ·unfold zAi.run
  refine R.wp_bind (R.wp_mono ?_ (spec_gen S.loop hlt hfx hgood (nt1 := 1) (K := fun _ w1 tmps1 => zKz P S.g xs w (tmps1.getD 0 undef) w1 kind cs) (Post := fun e j env => e = .ret ∧ Post j env) w xs (argsSt as) (fun L hp => ?_) (fun e j env h => hmid j env h.2) (fun e j env h => ?_) s φ (S.names as s) h hf hg (args_re hx)))
  ·intro p s' hq
   unfold resV
   split
   ·rename_i v hv
    intro hN
    obtain ⟨ψ, w1, tmps1, p1, p2, _, _, p3⟩ := hq hN
    exact ⟨ψ, w1, _, p1, (p2.some 0 v hv).2, p3⟩
   ·trivial
  ·obtain ⟨j, env', w1, x, L', k1, k2, k3, k4⟩ := hcall B L w xs kind cs hkind hp hB
   exact ⟨.ret, j, env', w1, #[x], L', k1, k2, ⟨rfl, k3⟩, k4⟩
  ·obtain ⟨rfl, h⟩ := h
   exact hend j env h
def Case.chkF [Facts] (G stay : Nat) (sh : Shape) (c : Case) (v : AV) (s : HS) : Bool :=
 c.named G stay sh.bl.length && sh.met G c.fv c.gv (c.nm G) (zIa [v] 0 .lf) s.h
theorem zFi [F : Facts] [V : zAc] (S : zAi) (hlt : ∀ p ∈ tabs, p.1 < P.globals.size) {fx : List Bool} {N : Nat} {av : List AV}
  (hfx : zAl S.shapes S.stay fx) (hgood : S.loop.good P.globals.size = true) (hargs : (S.shapes 0).t = zHg 0 av) (hna : S.na = av.length) {σ : Type} (enc : σ → Nat → Int) (kv kt : Nat) (hkv : kv ≤ 128) (hups : ∀ i, (S.shapes i).ups kv kt = true)
  (hf0 : S.f0.length ≤ kv) (hg0 : S.g0.length ≤ kt) (c : Case) (call : Tgt → List AV → M AV) (s0 s1 : σ)
  (hcall : ∀ B, ∀ V' : @zAc ⟨c.pc⟩, V'.env = enc s0 → @zCe ⟨c.pc⟩ V' P B call)
  (hrun : ((call (.f S.g) av ((S.shapes 0).heap P.globals.size tabs)).every N (@Case.chkF ⟨c.pc⟩ P.globals.size S.stay (S.shapes c.to) c)) = true)
  (hpc : ∀ p ∈ c.pc, p.1.eval (enc s0) = p.2) (hcf : c.f.length ≤ kv) (hcg : c.g.length ≤ kt) (hm0 : ∀ j, In64 (enc s0 j)) (hm1 : ∀ j, In64 (enc s1 j)) (hag : zCq kv kt (c.next (enc s0)) (enc s1))
  (ha0 : zCq kv kt (zBb S.loop.f0v S.loop.g0v V.env) (enc s0)) {o : zBp} {k : Nat} (ho : S.outs[k]? = some o) (hend : EndsBy S.loop kv kt .ret c.to (enc s1) o) : zAj P tabs S := by
 have hagO : zCq kv kt (enc s1) (zBb o.fv o.gv V.env) := hend.ag
 have hmo := zGn hkv hend.f hend.g V.mid hm1 ⟨fun i hi => (hagO.1 i hi).symm, fun a r c h1 h2 h3 => (hagO.2 a r c h1 h2 h3).symm⟩
 refine fun_ok S hlt hfx hgood (Post := fun j env => j = c.to ∧ env = zBb o.fv o.gv V.env) (fun B L w xs kind cs hkind hp hB => ?_) (fun j env h => by obtain ⟨_, rfl⟩ := h; exact hmo) (fun j env h => ?_)
 ·have hp0 := zCk.shift (hups 0) hlt (zGn hkv hf0 hg0 V.mid hm0 ha0) ha0 hp
  let q : zHi := ⟨⟨c.pc⟩, @zAc.mk ⟨c.pc⟩ (enc s0) hpc hm0 []⟩
  obtain ⟨p1, p2⟩ := hp0 q rfl
  have hc := hcall B q.V rfl
  have hsz := @RE.size q.F q.V _ _ _ _ p2
  have hrl : @RL q.F q.V (zHr P.globals.size (S.shapes 0).bl.length L) av xs.toList := RL.of_at (by rw [← hna, ← hsz]; simp) fun i v x h1 h2 => by
   obtain ⟨_, r2⟩ := @RE.some q.F q.V _ _ _ _ p2 i v (by rw [hargs, args_get]; exact h1)
   have e : xs.getD i undef = x := by
    have h2 : xs[i]? = some x := by simpa using h2
    simp [h2]
   rw [e] at r2
   exact r2
  have hfree : zEj (zHr P.globals.size (S.shapes 0).bl.length L) ((S.shapes 0).heap P.globals.size tabs).n N := fun x hx _ => by rw [zMs] at hx; exact zMg hx
  have hgo : GOk P (zHr P.globals.size (S.shapes 0).bl.length L) := fun g hg => zFd hg
  have hwp := @zCe.f q.F q.V _ _ _ hc S.g av ((S.shapes 0).heap P.globals.size tabs) N _ w xs kind cs hkind p1 hB hfree hgo hrl
  obtain ⟨v, s', hchk, hN, hq⟩ := R.every_wp hrun hwp
  obtain ⟨ψ, w1, x, r1, r2, r3⟩ := hq hN
  simp only [Case.chkF, Bool.and_eq_true, Shape.met] at hchk
  obtain ⟨g6, g4, g5⟩ := hchk
  have hre : @RE q.F q.V ψ (zIa [v] 0 .lf) 1 #[x] := @args_re q.F q.V ψ [v] #[x] (@RL.cons q.F q.V _ _ _ _ _ r2 (@RL.nil q.F q.V _))
  obtain ⟨L', k1, k2, _⟩ := zLm hlt q (hfx 0).1 g6 g4 g5 r1 hre
  refine ⟨c.to, _, w1, x, L', r3, k1, ⟨rfl, rfl⟩, ?_⟩
  exact zCk.shift (hups c.to) hlt hm1 hagO (zCk.shift (hups c.to) hlt (zGn hkv hcf hcg hm0 hm1 hag) hag k2)
 ·obtain ⟨rfl, rfl⟩ := h
  exact ⟨k, o, ho, hend.e, hend.j, fun i hi => zBt hi, fun a r c h1 h2 h3 => zCj h1 h2 h3⟩
def firstFun [Facts] (G : Nat) (tabs : List (Nat × List Value)) (as : List AV) (s : HS) : List zAi → Option zAi
 | [] => none
 | S :: l => bif S.loop.entry G tabs (argsSt as) s (S.names as s) then some S else firstFun G tabs as s l
def runFuns [Facts] (G : Nat) (tabs : List (Nat × List Value)) (l : List zAi) (as : List AV) : M AV := fun s =>
 match firstFun G tabs as s l with
 | some S => S.run G tabs as s
 | none => .bad "no summary of the function begins so"
def funsOf (g : FuncId) (l : List zAi) : List zAi := l.filter fun S => Nat.beq S.g g
def funKnown [Facts] (G : Nat) (tabs : List (Nat × List Value)) (l : List zAi) (g : FuncId) : Option (List AV → M AV) :=
 match funsOf g l with
 | [] => none
 | S :: r => some (runFuns G tabs (S :: r))
def cfgF [Facts] (base : FuncId → Option (List AV → M AV)) (G : Nat) (tabs : List (Nat × List Value)) (l : List zAi) (fuel : Nat) : Cfg :=
 { mg := fun _ => false, known := base, fuel := fuel, knownN := funKnown G tabs l }
theorem zOn [Facts] {G : Nat} {tabs : List (Nat × List Value)} {as : List AV} {s : HS} : ∀ {l : List zAi} {S : zAi}, firstFun G tabs as s l = some S → S ∈ l := by
 intro l
 induction l with
 | nil => intro S h; cases h
 | cons S' l ih =>
  intro S h
  unfold firstFun at h
  cases he : S'.loop.entry G tabs (argsSt as) s (S'.names as s)
  ·rw [he, cond_false] at h; exact .tail _ (ih h)
  ·rw [he, cond_true] at h; cases h; exact .head _
theorem zIk [F : Facts] [V : zAc] [zDa] {base : FuncId → Option (List AV → M AV)} {B fuel : Nat} {l : List zAi} (h1 : zJd P B { mg := fun _ => false, known := base, fuel := fuel }) (h : ∀ S ∈ l, zAj P tabs S) :
  zJd P B (cfgF base P.globals.size tabs l fuel) := by
 refine ⟨h1.1, h1.2.1, fun g k e => ?_⟩
 have e : (match funsOf g l with | [] => none | S :: r => some (runFuns P.globals.size tabs (S :: r))) = some k := e
 have hm : ∀ S ∈ funsOf g l, S ∈ l ∧ S.g = g := fun S hS => by
  simp only [funsOf, List.mem_filter] at hS
  exact ⟨hS.1, zAr hS.2⟩
 generalize funsOf g l = r at e hm
 cases r with
 | nil => cases e
 | cons S0 r =>
  cases e
  refine ⟨fun as s hs => ?_, fun as s N φ w xs kind cs hkind hw hB hf hg hx => ?_⟩
  ·unfold runFuns
   split
   ·rename_i S hS
    exact (h S (hm S (zOn hS)).1).tame as s hs
   ·trivial
  ·unfold runFuns
   split
   ·rename_i S hS
    obtain ⟨m1, rfl⟩ := hm S (zOn hS)
    exact (h S m1).ok B N as s φ w xs kind cs hkind hw hB hf hg hx
   ·trivial
end
end
end Go.Abs
namespace Go.Abs
noncomputable section
def zNx (z : List Nat) : List Deferred := z.map fun b => { target := .collected b, args := #[] }
def offNames (nm : Nat → Nat) (b d : Nat) : Nat → Bool
 | 0 => true
 | n + 1 => !(Nat.beq (nm (b + n)) d) && offNames nm b d n
theorem offNames_ok {nm : Nat → Nat} {b d : Nat} : ∀ {n : Nat}, offNames nm b d n = true → ∀ i, i < n → nm (b + i) ≠ d := by
 intro n
 induction n with
 | zero => intro _ i h; omega
 | succ n ih =>
  intro h i hi
  simp only [offNames, Bool.and_eq_true, Bool.not_eq_true'] at h
  by_cases e : i = n
  ·subst e
   intro hc
   rw [hc] at h
   simp at h
  ·exact ih h.2 i (by omega)
def pendOne (G : Nat) (sh' : Shape) (nm : Nat → Nat) (h : Tr (Nat × Blk)) : List ADef → Bool
 | [.rest] => true
 | [.coll d, .rest] => (match h.get d with | some (_, .dfr) => true | _ => false) && offNames nm G d sh'.bl.length
 | _ => false
def Case.chkP [Facts] (G nt stay : Nat) (sh : Shape) (c : Case) (p : Ex × St) (s : HS) : Bool :=
 exSame p.1 c.e && (pendOne G sh (c.nm G) s.h p.2.ds && (Nat.beq p.2.nt nt && (c.named G stay sh.bl.length && sh.met G c.fv c.gv (c.nm G) p.2.t s.h)))
def zNj (sh : Shape) (L : Nat → Lc) (w : World) (x : Nat) : Prop := w.heap[x]? = some (.deferred (some [])) ∧ ¬ Own sh L x
theorem zNj.lt {sh : Shape} {L : Nat → Lc} {w : World} {x : Nat} (h : zNj sh L w x) : x < w.heap.size := (Array.getElem?_eq_some_iff.1 h.1).1
theorem zNj.step {stay : Nat} {sh sh' : Shape} {L L' : Nat → Lc} {w w' : World} {x : Nat} (h : zNj sh L w x) (k : zLt stay sh L w sh' L' w') : zNj sh' L' w' x :=
 ⟨(k.heap x h.lt h.2).trans h.1, fun ho => (k.own x ho).elim (fun g => by have := h.lt; omega) h.2⟩
section
variable [Facts] [zAc] [zDa] [zGs] {P : Program} {φ ψ : Phi} {B N : Nat} {s s' : HS} {w w' : World}
theorem round_runP (hlo : zFu P B) {call : Tgt → List AV → M AV} (hc : zCe P B call) (hd : zFk P B call) {fn : FuncId} {b : Code} {fuel nt : Nat} {t0 : Env} {s0 : HS} {chk : Ex × St → HS → Bool}
  (hrun : ((code P call none fn fuel b ⟨t0, nt, [.rest]⟩ s0).every N chk) = true)
  (h : RW φ B s0 w) (hB : B ≤ w.heap.size) (hf : zEj φ s0.n N) (hg : GOk P φ) {fr : Frame} {cs : List Frame} {k : List Item} (hre : RE φ t0 nt fr.tmps)
  (hm : fr.mode = .run) (hr : fr.roundOf = none) (hfn : fr.fn = fn) (hdf : fr.defers = zAc.rest) (hin : InFn P none fn b) (ht : fr.todo = .code b :: .inLoop b :: k) :
  ∃ e st1 s1 ψ w1 tmps1 ds, chk (e, st1) s1 = true ∧ Stp φ B s0 w ψ s1 w1 ∧ RE ψ st1.t st1.nt tmps1 ∧ s1.n ≤ N ∧ RDw P ψ s1 w1 w.heap.size st1.ds ds ∧ Left P (lone fr cs w) (zAz fr tmps1 ds (.inLoop b :: k)) (.inLoop b :: k) cs w1 e := by
 have hrf : RF P φ s0 w w.heap.size none ⟨t0, nt, [.rest]⟩ fr := ⟨hm, hre, .rest (Nat.le_refl _) hdf, hr⟩
 have := (code_ok (N := N) hlo hc hd w.heap.size none fn cs fuel).1 b ⟨t0, nt, [.rest]⟩ s0 φ w fr (.inLoop b :: k) h hB hf hg hrf hfn hin ht
 obtain ⟨⟨e, st1⟩, s1, h1, h2, h3⟩ := R.every_wp hrun this
 obtain ⟨ψ, w1, tmps, ds, q1, q2, q3, q4⟩ := h3 h2
 exact ⟨e, st1, s1, ψ, w1, tmps, ds, h1, q1, q2, h2, q3, q4⟩
end
section
variable {P : Program} {tabs : List (Nat × List Value)} {L : Nat → Lc} {B nt N fuel : Nat} {fn : FuncId} {b : Code}
theorem shape_roundP {stay : Nat} (hlt : ∀ p ∈ tabs, p.1 < P.globals.size) (q : zHi) [Lo : zDa] [TL : zGs] (hlo : @zFu q.F q.V Lo P B) {call : Tgt → List AV → M AV} (hc : @zCe q.F q.V P B call) {sh sh' : Shape} {c : Case} (hlen : stay ≤ sh.bl.length)
  (hrun : ((@code q.F P Lo call none fn fuel b ⟨tmps sh.t, nt, [.rest]⟩ (sh.heap P.globals.size tabs)).every N (@Case.chkP q.F P.globals.size nt stay sh' c)) = true)
  {w : World} {fr : Frame} {cs : List Frame} {k : List Item} (hrw : @RW q.F q.V (zHr P.globals.size sh.bl.length L) B (sh.heap P.globals.size tabs) w) (hre : @RE q.F q.V (zHr P.globals.size sh.bl.length L) (tmps sh.t) nt fr.tmps) (hB : B ≤ w.heap.size)
  (hmode : fr.mode = .run) (hr : fr.roundOf = none) (hfn : fr.fn = fn) (hdf : fr.defers = q.V.rest) (hin : InFn P none fn b) (htodo : fr.todo = .code b :: .inLoop b :: k) :
  ∃ w1 tmps1 L' y, Left P (lone fr cs w) (zAz fr tmps1 (zNx y ++ fr.defers) (.inLoop b :: k)) (.inLoop b :: k) cs w1 c.e ∧ zLt stay sh L w sh' L' w1 ∧ zCk P tabs L' B nt sh' (c.next q.V.env) w1 tmps1 ∧
   y.Nodup ∧ ∀ x ∈ y, w.heap.size ≤ x ∧ zNj sh' L' w1 x := by
 have hfree : zEj (zHr P.globals.size sh.bl.length L) (sh.heap P.globals.size tabs).n N := fun x hx _ => by rw [zMs] at hx; exact zMg hx
 have hgo : GOk P (zHr P.globals.size sh.bl.length L) := fun g hg => zFd hg
 obtain ⟨e, st1, s1, ψ, w1, tmps1, ds, h1, h2, h3, h4, h6, h5⟩ := @round_runP q.F q.V Lo TL P _ B N w hlo call hc (@zEu q.F q.V _ _ _ hc) fn b fuel nt (tmps sh.t) (sh.heap P.globals.size tabs) (@Case.chkP q.F P.globals.size nt stay sh' c) hrun hrw hB hfree hgo fr cs k hre hmode hr hfn hdf hin htodo
 simp only [Case.chkP, Bool.and_eq_true] at h1
 obtain ⟨g1, gp, g3, g6, g4⟩ := h1
 have he := exSame_eq g1
 subst he
 have hnt := zAr g3
 simp only [Shape.met, Bool.and_eq_true] at g4
 obtain ⟨g4, g5⟩ := g4
 rw [hnt] at h3
 obtain ⟨L', k1, k2, k3⟩ := zLm hlt q hlen g6 g4 g5 h2 h3
 unfold pendOne at gp
 split at gp
 ·rename_i hds
  rw [hds] at h6
  have h6 := @RDw.rest_eq q.F q.V _ _ _ _ _ _ h6
  rw [← hdf] at h6
  subst h6
  exact ⟨w1, tmps1, L', [], h5, k1, k2, .nil, fun x hx => by cases hx⟩
 ·rename_i d hds
  rw [hds] at h6
  simp only [Bool.and_eq_true] at gp
  obtain ⟨gd, go⟩ := gp
  obtain ⟨td, hd⟩ : ∃ t, s1.h.get d = some (t, .dfr) := by
   split at gd
   ·rename_i t e; exact ⟨t, e⟩
   ·cases gd
  obtain ⟨z, hz, _⟩ := @RDw.z q.F q.V _ _ _ _ _ _ _ h6
  have : ∃ a, ψ d = some a ∧ w.heap.size ≤ a.blk ∧ ds = { target := .collected a.blk, args := #[] } :: fr.defers := by
   cases hz with
   | coll ha hlo hl => cases hl with
    | rest hl => cases hl with
     | nil => exact ⟨_, ha, hlo, by rw [List.append_nil, hdf]⟩
  obtain ⟨a, ha, hlo, rfl⟩ := this
  have hst : @RW q.F q.V ψ B s1 w1 := @Stp.rw q.F q.V _ _ _ _ _ _ _ h2
  obtain ⟨a', ha', hrb, _⟩ := @RW.blk q.F q.V _ _ _ _ hst _ _ _ hd
  rw [ha] at ha'; cases ha'
  refine ⟨w1, tmps1, L', [a.blk], h5, k1, k2, by simp, fun x hx => ?_⟩
  rw [List.mem_singleton] at hx
  subst hx
  refine ⟨hlo, hrb, fun ⟨i, y, hy, hyf, hb⟩ => ?_⟩
  ·obtain ⟨t0, x0, f1, f2, f3⟩ := k3 i y hy
   exact @RW.inj q.F q.V _ _ _ _ hst _ _ _ _ _ _ _ _ f1 hd (f2 hyf) (offNames_ok go i (List.getElem?_eq_some_iff.1 hy).1) f3 ha hb
 ·cases gp
theorem shape_loopP (hlt : ∀ p ∈ tabs, p.1 < P.globals.size) {shapes : Nat → Shape} {stay : Nat} {fx : List Bool}
  (hfx : zAl shapes stay fx) {σ : Type} {enc : σ → Nat → Int} {kv kt : Nat} (hkv : kv ≤ 128) (hups : ∀ i, (shapes i).ups kv kt = true) {I : Nat → Nat → σ → Prop} {Post : Ex → Nat → σ → Prop}
  (hstep : ∀ μ i s, I μ i s → ∃ (c : Case) (s' : σ) (Lo : zDa) (call : Tgt → List AV → M AV), Rnd P B c.pc (enc s) Lo call ∧ ((@code ⟨c.pc⟩ P Lo call none fn fuel b ⟨tmps (shapes i).t, nt, [.rest]⟩ ((shapes i).heap P.globals.size tabs)).every N (@Case.chkP ⟨c.pc⟩ P.globals.size nt stay (shapes c.to) c)) = true ∧
   (∀ p ∈ c.pc, p.1.eval (enc s) = p.2) ∧ c.f.length ≤ kv ∧ c.g.length ≤ kt ∧ (∀ j, In64 (enc s' j)) ∧ zCq kv kt (c.next (enc s)) (enc s') ∧ ((c.e = .normal ∧ ∃ ν, ν < μ ∧ I ν c.to s') ∨ (c.e ≠ .normal ∧ Post c.e c.to s')))
  (hin : InFn P none fn b) :
  ∀ μ i s (L : Nat → Lc) w (fr : Frame) (cs : List Frame) (k : List Item), I μ i s → (∀ j, In64 (enc s j)) → zCk P tabs L B nt (shapes i) (enc s) w fr.tmps → B ≤ w.heap.size → fr.mode = .run → fr.roundOf = none → fr.fn = fn → fr.todo = .code b :: .inLoop b :: k →
   ∃ e j s' w1 tmps1 L' z, Left P (lone fr cs w) (zAz fr tmps1 (zNx z ++ fr.defers) k) k cs w1 e ∧ zLt stay (shapes i) L w (shapes j) L' w1 ∧ Post e j s' ∧ (∀ j, In64 (enc s' j)) ∧ zCk P tabs L' B nt (shapes j) (enc s') w1 tmps1 ∧
    z.Nodup ∧ ∀ x ∈ z, w.heap.size ≤ x ∧ zNj (shapes j) L' w1 x := by
 intro μ
 induction μ using Nat.strongRecOn with
 | _ μ ih =>
  intro i s L w fr cs k hi hm64 hp hB hm hr hfn htodo
  obtain ⟨c, s', Lo, call, hR, h1, h2, h3, h3', h5, h6, h4⟩ := hstep μ i s hi
  let q : zHi := ⟨⟨c.pc⟩, @zAc.mk ⟨c.pc⟩ (enc s) h2 hm64 fr.defers⟩
  obtain ⟨p1, p2⟩ := hp q rfl
  letI := Lo
  letI : zGs := hR.tame q.V rfl
  obtain ⟨w1, tmps1, L1, y, g1, g2, g3, g4, g5⟩ := shape_roundP (b := b) hlt q (hR.lo q.V rfl) (hR.hc q.V rfl) (hfx i).1 h1 p1 p2 hB hm hr hfn rfl hin htodo (cs := cs) (k := k)
  have g3 : zCk P tabs L1 B nt (shapes c.to) (enc s') w1 tmps1 := zCk.shift (hups c.to) hlt (zGn hkv h3 h3' hm64 h5 h6) h6 g3
  rcases h4 with ⟨he, ν, hν, hinv⟩ | ⟨hne, hpost⟩
  ·rw [he] at g1
   have hst := st_inLoop (P := P) (cs := cs) (w := w1) (fr := zAz fr tmps1 (zNx y ++ fr.defers) (.inLoop b :: k)) hm rfl
   obtain ⟨e, j, env', w2, tmps2, L2, z, k1, k2, k3, k4, k5, k6, k7⟩ := ih ν hν c.to s' L1 w1 (zAz fr tmps1 (zNx y ++ fr.defers) (.code b :: .inLoop b :: k)) cs k hinv h5 g3 (Nat.le_trans hB g2.size) hm hr hfn rfl
   have k1 : Left P (lone (zAz fr tmps1 (zNx y ++ fr.defers) (.code b :: .inLoop b :: k)) cs w1) (zAz fr tmps2 (zNx (z ++ y) ++ fr.defers) k) k cs w2 e := by
    have e1 : zNx (z ++ y) ++ fr.defers = zNx z ++ (zNx y ++ fr.defers) := by unfold zNx; rw [List.map_append, List.append_assoc]
    rw [e1]; exact k1
   refine ⟨e, j, env', w2, tmps2, L2, z ++ y, .of_steps (Steps.trans g1 (.one hst)) k1, g2.trans k2, k3, k4, k5, List.nodup_append.2 ⟨k6, g4, fun a ha b' hb => ?_⟩, fun x hx => ?_⟩
   ·have h1 := (k7 a ha).1
    have h2 := (g5 b' hb).2.lt
    omega
   ·rcases List.mem_append.1 hx with hx | hx
    ·exact ⟨Nat.le_trans g2.size (k7 x hx).1, (k7 x hx).2⟩
    ·exact ⟨(g5 x hx).1, (g5 x hx).2.step k2⟩
  ·exact ⟨c.e, c.to, s', w1, tmps1, L1, y, .frame.1 (.pass (by intro id; simp) hne g1), g2, hpost, h5, g3, g4, g5⟩
def zAd.pend [Facts] (S : zAd) (G : Nat) (tabs : List (Nat × List Value)) (st : St) : M (Ex × St) := fun s =>
 (S.run G tabs st s).bind fun p s' => .ok (p.1, { p.2 with ds := .many :: p.2.ds }) s'
structure zGd [F : Facts] [V : zAc] (P : Program) (tabs : List (Nat × List Value)) (S : zAd) : Prop where
 tame : ∀ st, zAb (S.pend P.globals.size tabs st)
 ok : ∀ (B N lo : Nat) b func body, P.funcs[S.fn]? = some func → func.body = some body → Sub (.loop b) body → keyOf b = S.key → ∀ (cs : List Frame) (st : St) (s : HS) (φ : Phi) (w : World) (fr : Frame) (k : List Item),
  RW φ B s w → B ≤ w.heap.size → zEj φ s.n N → GOk P φ → RF P φ s w lo none st fr → fr.fn = S.fn → fr.todo = .code b :: .inLoop b :: k → (S.pend P.globals.size tabs st s).wp fun p s' => zIc P φ B N lo s w (lone fr cs w) fr k cs p.1 p.2 s'
theorem pend_ok [F : Facts] [V : zAc] (S : zAd) (hlt : ∀ p ∈ tabs, p.1 < P.globals.size) {B : Nat} {fx : List Bool} {b0 : Code}
  (hfx : zAl S.shapes S.stay fx) (hgood : S.good P.globals.size = true) {Post : Ex → Nat → (Nat → Int) → Prop}
  (hloop : ∀ (L : Nat → Lc) (w : World) (fr : Frame) (cs : List Frame) (k : List Item), zCk P tabs L B S.nt (S.shapes 0) (zBb S.f0v S.g0v V.env) w fr.tmps → B ≤ w.heap.size → fr.mode = .run → fr.roundOf = none → fr.fn = S.fn → fr.todo = .code b0 :: .inLoop b0 :: k →
   ∃ e j env' w1 tmps1 L' z, Left P (lone fr cs w) (zAz fr tmps1 (zNx z ++ fr.defers) k) k cs w1 e ∧ zLt S.stay (S.shapes 0) L w (S.shapes j) L' w1 ∧ Post e j env' ∧ zCk P tabs L' B S.nt (S.shapes j) env' w1 tmps1 ∧ z.Nodup ∧ ∀ x ∈ z, w.heap.size ≤ x ∧ zNj (S.shapes j) L' w1 x)
  (hmid : ∀ e j env, Post e j env → ∀ i, -9223372036854775808 ≤ env i ∧ env i ≤ 18446744073709551615)
  (hend : ∀ e j env, Post e j env → ∃ (k : Nat) (o : zBp), S.outs[k]? = some o ∧ EndsAs S e j env o)
  {N lo : Nat} (cs : List Frame) (st : St) (s : HS) (φ : Phi) (w : World) (fr : Frame) (k : List Item) (h : RW φ B s w) (hB : B ≤ w.heap.size) (hfree : zEj φ s.n N) (hg : GOk P φ) (hr : RF P φ s w lo none st fr) (hfn : fr.fn = S.fn) (ht : fr.todo = .code b0 :: .inLoop b0 :: k) :
  (S.pend P.globals.size tabs st s).wp fun p s' => zIc P φ B N lo s w (lone fr cs w) fr k cs p.1 p.2 s' := by
 unfold zAd.pend
 refine R.wp_bind (R.wp_mono ?_ (spec_genL S hlt hfx hgood (nt1 := S.nt) (K := fun e j L' w1 tmps1 => ∃ z, Left P (lone fr cs w) (zAz fr tmps1 (zNx z ++ fr.defers) k) k cs w1 e ∧ z.Nodup ∧ ∀ x ∈ z, w.heap.size ≤ x ∧ zNj (S.shapes j) L' w1 x) w fr.tmps st (fun L hp => ?_) hmid hend s φ (S.names st s) h hfree hg hr.re))
 ·intro p s' hq hN
  have hN : s'.n ≤ N := hN
  obtain ⟨ψ, w1, tmps1, p1, p2, p3, p4, jj, L', ⟨z, p7, p8, p9⟩, pn⟩ := hq hN
  refine ⟨ψ, w1, tmps1, zNx z ++ fr.defers, p1, by rw [p4]; exact p2, ?_, p7⟩
  have hlow : ∀ c t x a, s'.h.get c = some (t, x) → x.fixed = false → ψ c = some a → a.blk < w.heap.size ∨ Own (S.shapes jj) L' a.blk := fun c t x a e hx ha => by
   cases hc : φ c with
   | none => exact .inr (pn c a ha hc)
   | some a0 =>
    have e0 := p1.le _ _ hc
    rw [ha] at e0
    cases e0
    have hcl := (p1.rw.lt c t x e).1
    have hcn : c < s.n := Classical.byContradiction fun hge => by
     have := hfree c (by omega) (by omega)
     rw [hc] at this; cases this
    cases hs : s.h.get c with
    | none =>
     have := p1.up.dead c hcn hs
     rw [this] at e; cases e
    | some q =>
     obtain ⟨a', ha', hrb, _⟩ := h.blk c q.1 q.2 hs
     rw [hc] at ha'; cases ha'
     exact .inl hrb.lt
  obtain ⟨h0, y, h1, h2, h3⟩ := hr.ds
  rw [p3]
  refine ⟨Nat.le_trans h0 p1.fr.size, z ++ y, .many (h1.mono p1.le), List.nodup_append.2 ⟨p8, h2, fun a ha b' hb => ?_⟩, fun x hx => ?_⟩
  ·have e1 := (p9 a ha).1
   have e2 := (h3 b' hb).1.lt
   omega
  ·rcases List.mem_append.1 hx with hx | hx
   ·refine ⟨⟨(p9 x hx).2.1, fun c t x' a e hf ha he => ?_⟩, Nat.le_trans h0 (p9 x hx).1⟩
    rcases hlow c t x' a e hf ha with e1 | e1
    ·have e2 := (p9 x hx).1
     omega
    ·rw [he] at e1
     exact (p9 x hx).2.2 e1
   ·exact ⟨(h3 x hx).1.step p1 (hfree.mono (Nat.le_refl _) hN), (h3 x hx).2⟩
 ·obtain ⟨e, j, env', w1, tmps1, L', z, k1, k2, k3, k4, k5, k6⟩ := hloop L w fr cs k hp hB hr.mode hr.round hfn ht
  exact ⟨e, j, env', w1, tmps1, L', ⟨z, k1, k5, k6⟩, k2, k3, k4⟩
theorem pend_proof [F : Facts] [V : zAc] (S : zAd) (hlt : ∀ p ∈ tabs, p.1 < P.globals.size) {fx : List Bool} {b0 : Code}
  (hloop : ((P.funcs[S.fn]?).bind (·.body)).map (fun c => zBm S.key (subs c)) = some [b0])
  (hfx : zAl S.shapes S.stay fx) (hgood : S.good P.globals.size = true) {σ : Type} (enc : σ → Nat → Int) (kv kt : Nat) (hkv : kv ≤ 128) (hups : ∀ i, (S.shapes i).ups kv kt = true)
  (hf0 : S.f0.length ≤ kv) (hg0 : S.g0.length ≤ kt) {I : Nat → Nat → σ → Prop} {Post : Ex → Nat → σ → Prop}
  (hstep : ∀ B μ i s, I μ i s → ∃ (c : Case) (s' : σ) (Lo : zDa) (call : Tgt → List AV → M AV), Rnd P B c.pc (enc s) Lo call ∧ ((@code ⟨c.pc⟩ P Lo call none S.fn fuel b0 ⟨tmps (S.shapes i).t, S.nt, [.rest]⟩ ((S.shapes i).heap P.globals.size tabs)).every N (@Case.chkP ⟨c.pc⟩ P.globals.size S.nt S.stay (S.shapes c.to) c)) = true ∧
   (∀ p ∈ c.pc, p.1.eval (enc s) = p.2) ∧ c.f.length ≤ kv ∧ c.g.length ≤ kt ∧ (∀ j, In64 (enc s' j)) ∧ zCq kv kt (c.next (enc s)) (enc s') ∧ ((c.e = .normal ∧ ∃ ν, ν < μ ∧ I ν c.to s') ∨ (c.e ≠ .normal ∧ Post c.e c.to s')))
  (μ : Nat) (s0 : σ) (hI : I μ 0 s0) (hm0 : ∀ j, In64 (enc s0 j)) (ha0 : zCq kv kt (zBb S.f0v S.g0v V.env) (enc s0))
  (hend : ∀ e j s, Post e j s → ∃ (k : Nat) (o : zBp), S.outs[k]? = some o ∧ EndsBy S kv kt e j (enc s) o) : zGd P tabs S := by
 refine ⟨fun st s hs => ?_, fun B N' lo b func body hf hb hsub hk cs st s φ w fr k hw hB hfr hg hr hfn ht => ?_⟩
 ·unfold zAd.pend
  exact R.All_bind (R.All_mono (fun p s' hu => hu) (S.run_tame hfx hgood st s hs))
 have hb0 := loop_is hf hb hloop hsub hk
 subst hb0
 refine pend_ok S hlt hfx hgood (Post := fun e j env => (∀ i, In64 (env i)) ∧ ∃ (k : Nat) (o : zBp), S.outs[k]? = some o ∧ o.e = e ∧ o.j = j ∧ env = zBb o.fv o.gv V.env) (fun L w fr cs k hpl hB hm hro hfn ht => ?_) (fun e j env h => h.1) (fun e j env h => ?_) cs st s φ w fr k hw hB hfr hg hr hfn ht
 ·have hp0 := zCk.shift (hups 0) hlt (zGn hkv hf0 hg0 V.mid hm0 ha0) ha0 hpl
  obtain ⟨e, j, s', w1, tmps1, L', z, k1, k2, k3, k4, k5, k6⟩ := shape_loopP (B := B) hlt hfx hkv hups (hstep B) (fun _ => ⟨func, body, hf, hb, .loop hsub⟩) μ 0 s0 L w fr cs k hI hm0 hp0 hB hm hro hfn ht
  obtain ⟨ko, o, ho, he⟩ := hend e j s' k3
  have hag : zCq kv kt (zBb o.fv o.gv V.env) (enc s') := ⟨fun i hi => (he.ag.1 i hi).symm, fun a r c h1 h2 h3 => (he.ag.2 a r c h1 h2 h3).symm⟩
  have hmo := zGn hkv he.f he.g V.mid k4 hag
  exact ⟨e, j, _, w1, tmps1, L', z, k1, k2, ⟨hmo, ko, o, ho, he.e, he.j, rfl⟩, zCk.shift (hups j) hlt k4 he.ag k5, k6⟩
 ·obtain ⟨_, ko, o, ho, he, hj, rfl⟩ := h
  exact ⟨ko, o, ho, he, hj, fun i hi => zBt hi, fun a r c h1 h2 h3 => zCj h1 h2 h3⟩
def zJt [Facts] (G : Nat) (tabs : List (Nat × List Value)) (l : List zAd) (st : St) : M (Ex × St) := fun s =>
 match zJz G tabs st s l with
 | some S => S.pend G tabs st s
 | none => .bad "no summary of the loop begins so"
@[reducible] def pendLoops [Facts] (G : Nat) (tabs : List (Nat × List Value)) (l lp : List zAd) : zDa :=
 ⟨fun fn key => match zHv fn key lp with
  | [] => (manyLoops G tabs l).sum fn key
  | S :: r => some (zJt G tabs (S :: r))⟩
theorem zMh [Facts] {G : Nat} {l lp : List zAd} {fn key : Nat} {f : St → M (Ex × St)} (h : (pendLoops G tabs l lp).sum fn key = some f) :
  (manyLoops G tabs l).sum fn key = some f ∨ ∃ r : List zAd, (∀ S ∈ r, S ∈ lp ∧ S.fn = fn ∧ S.key = key) ∧ f = zJt G tabs r := by
 have h : (match zHv fn key lp with | [] => (manyLoops G tabs l).sum fn key | S :: r => some (zJt G tabs (S :: r))) = some f := h
 have hm : ∀ S ∈ zHv fn key lp, S ∈ lp ∧ S.fn = fn ∧ S.key = key := fun S hS => by
  simp only [zHv, List.mem_filter, Bool.and_eq_true] at hS
  exact ⟨hS.1, zAr hS.2.1, zAr hS.2.2⟩
 generalize zHv fn key lp = r at h hm
 cases r with
 | nil => exact .inl h
 | cons S r => cases h; exact .inr ⟨_, hm, rfl⟩
theorem pendLoops_tame [F : Facts] [V : zAc] {l lp : List zAd} (h : ∀ S ∈ l, zAp P tabs S) (hp : ∀ S ∈ lp, zGd P tabs S) : @zGs (pendLoops P.globals.size tabs l lp) := by
 refine @zGs.mk (pendLoops P.globals.size tabs l lp) fun fn key f e st => ?_
 rcases zMh e with e | ⟨r, h1, rfl⟩
 ·exact @zGs.tame (manyLoops P.globals.size tabs l) (zDm h) fn key f e st
 intro s hs
 unfold zJt
 split
 ·rename_i S hS
  exact (hp S (h1 S (zGq hS)).1).tame st s hs
 ·trivial
theorem pendLoops_ok [F : Facts] [V : zAc] {l lp : List zAd} (h : ∀ S ∈ l, zAp P tabs S) (hp : ∀ S ∈ lp, zGd P tabs S) (B : Nat) : @zFu F V (pendLoops P.globals.size tabs l lp) P B := by
 intro fn key f e b func body hf hb hsub hk N lo cs st s φ w fr k hw hB hfr hg hr hfn ht
 rcases zMh e with e | ⟨r, h1, rfl⟩
 ·exact zEw h B fn key f e b func body hf hb hsub hk N lo cs st s φ w fr k hw hB hfr hg hr hfn ht
 unfold zJt
 split
 ·rename_i S hS
  obtain ⟨g1, rfl, rfl⟩ := h1 S (zGq hS)
  exact (hp S g1).ok B N lo b func body hf hb hsub hk cs st s φ w fr k hw hB hfr hg hr hfn ht
 ·trivial
end
end
end Go.Abs
namespace Go.Abs
noncomputable section
section
variable {P : Program} {tabs : List (Nat × List Value)}
def runPick [Facts] (G : Nat) (tabs : List (Nat × List Value)) (pick : List AV → HS → Option zAi) (as : List AV) : M AV := fun s =>
 match pick as s with
 | some S => S.run G tabs as s
 | none => .bad "no summary is chosen"
def cfgPick [Facts] (g0 : FuncId) (G : Nat) (tabs : List (Nat × List Value)) (pick : List AV → HS → Option zAi) (c : Cfg) : Cfg :=
 { c with knownN := fun g => bif Nat.beq g g0 then some (runPick G tabs pick) else c.knownN g }
theorem pick_known [F : Facts] [V : zAc] [zDa] {B : Nat} {c : Cfg} {g0 : FuncId} {pick : List AV → HS → Option zAi} (h1 : zJd P B c) (h : ∀ as s S, pick as s = some S → S.g = g0 ∧ zAj P tabs S) :
  zJd P B (cfgPick g0 P.globals.size tabs pick c) := by
 refine ⟨h1.1, h1.2.1, fun g k e => ?_⟩
 have e : (bif Nat.beq g g0 then some (runPick P.globals.size tabs pick) else c.knownN g) = some k := e
 cases hb : Nat.beq g g0
 ·rw [hb, cond_false] at e
  exact h1.2.2 g k e
 ·rw [hb, cond_true] at e
  cases e
  have hg := zAr hb
  subst hg
  refine ⟨fun as s hs => ?_, fun as s N φ w xs kind cs hkind hw hB hf hgo hx => ?_⟩
  ·unfold runPick
   split
   ·rename_i S hS
    exact (h as s S hS).2.tame as s hs
   ·trivial
  ·unfold runPick
   split
   ·rename_i S hS
    obtain ⟨rfl, hp⟩ := h as s S hS
    exact hp.ok B N as s φ w xs kind cs hkind hw hB hf hgo hx
   ·trivial
end
end
end Go.Abs
