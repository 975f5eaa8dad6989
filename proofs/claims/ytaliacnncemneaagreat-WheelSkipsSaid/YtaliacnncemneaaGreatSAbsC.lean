/- Regions, in their order and in any, as they are read, are what the machine does. No conditions. -/
import Derived.Test.YtaliacnncemneaaGreatSAbsB
import Derived.Laws.Externs
import Derived.Orders
namespace Go.Abs
noncomputable section
variable [Facts] [zAc]
section
variable {P : Program} {fr : Frame} {cs : List Frame} {w w' : World} {k : List Item}
omit [Facts] [zAc] in
theorem st_skip (hm : fr.mode = .run) (ht : fr.todo = .code .skip :: k) : step P (lone fr cs w) = .next (lone { fr with todo := k } cs w) :=
 step_lone_go (by simp [stepG, stepG.exec, hm, ht])
omit [Facts] [zAc] in
theorem st_label {l : Nat} (hm : fr.mode = .run) (ht : fr.todo = .code (.label l) :: k) : step P (lone fr cs w) = .next (lone { fr with todo := k } cs w) :=
 step_lone_go (by simp [stepG, stepG.exec, hm, ht])
omit [Facts] [zAc] in
theorem st_inBlock {l : Nat} (hm : fr.mode = .run) (ht : fr.todo = .inBlock l :: k) : step P (lone fr cs w) = .next (lone { fr with todo := k } cs w) :=
 step_lone_go (by simp [stepG, stepG.exec, hm, ht])
omit [Facts] [zAc] in
theorem st_inScope {c : Code} (hm : fr.mode = .run) (ht : fr.todo = .inScope c :: k) : step P (lone fr cs w) = .next (lone { fr with todo := k } cs w) :=
 step_lone_go (by simp [stepG, stepG.exec, hm, ht])
omit [Facts] [zAc] in
theorem st_seq {a b : Code} (hm : fr.mode = .run) (ht : fr.todo = .code (.seq a b) :: k) : step P (lone fr cs w) = .next (lone { fr with todo := .code a :: .code b :: k } cs w) :=
 step_lone_go (by simp [stepG, stepG.exec, hm, ht])
omit [Facts] [zAc] in
theorem st_cond {c : Operand} {a b : Code} {t : Bool} (hm : fr.mode = .run) (ht : fr.todo = .code (.cond c a b) :: k) (he : fr.eval c = .bool t) : step P (lone fr cs w) = .next (lone { fr with todo := .code (if t then a else b) :: k } cs w) :=
 step_lone_go (by simp [stepG, stepG.exec, hm, ht, he])
omit [Facts] [zAc] in
theorem st_block {id : Nat} {c : Code} (hm : fr.mode = .run) (ht : fr.todo = .code (.block id c) :: k) : step P (lone fr cs w) = .next (lone { fr with todo := .code c :: .inBlock id :: k } cs w) :=
 step_lone_go (by simp [stepG, stepG.exec, hm, ht])
omit [Facts] [zAc] in
theorem st_loop {c : Code} (hm : fr.mode = .run) (ht : fr.todo = .code (.loop c) :: k) : step P (lone fr cs w) = .next (lone { fr with todo := .code c :: .inLoop c :: k } cs w) :=
 step_lone_go (by simp [stepG, stepG.exec, hm, ht])
omit [Facts] [zAc] in
theorem st_inLoop {c : Code} (hm : fr.mode = .run) (ht : fr.todo = .inLoop c :: k) : step P (lone fr cs w) = .next (lone { fr with todo := .code c :: .inLoop c :: k } cs w) :=
 step_lone_go (by simp [stepG, stepG.exec, hm, ht])
omit [Facts] [zAc] in
theorem st_scope {c : Code} (hm : fr.mode = .run) (ht : fr.todo = .code (.scope c) :: k) : step P (lone fr cs w) = .next (lone { fr with todo := .code c :: .inScope c :: k } cs w) :=
 step_lone_go (by simp [stepG, stepG.exec, hm, ht])
omit [Facts] [zAc] in
theorem st_exit {id : Nat} {k' : List Item} (hm : fr.mode = .run) (ht : fr.todo = .code (.exit id) :: k) (he : exitTo id k = some k') : step P (lone fr cs w) = .next (lone { fr with todo := k' } cs w) :=
 step_lone_go (by simp [stepG, stepG.exec, hm, ht, he])
omit [Facts] [zAc] in
theorem st_ret (hm : fr.mode = .run) (ht : fr.todo = .code .ret :: k) (hr : fr.roundOf = none) : step P (lone fr cs w) = .next (lone { fr with mode := .returning } cs w) :=
 step_lone_go (by simp [stepG, stepG.exec, hm, ht, hr])
omit [Facts] [zAc] in
theorem st_end (hm : fr.mode = .run) (ht : fr.todo = []) (hr : fr.roundOf = none) : step P (lone fr cs w) = .next (lone { fr with mode := .returning } cs w) :=
 step_lone_go (by simp [stepG, stepG.exec, hm, ht, hr])
omit [Facts] [zAc] in
theorem st_region {id : Nat} {ops : Array Oper} (hm : fr.mode = .run) (ht : fr.todo = .code (.region id ops false) :: k) : step P (lone fr cs w) = .next (lone { fr with todo := .inRegion ops (List.range ops.size) :: k } cs w) :=
 step_lone_go (by simp [stepG, stepG.exec, hm, ht])
omit [Facts] [zAc] in
theorem st_region_draw {id : Nat} {ops : Array Oper} (hm : fr.mode = .run) (ht : fr.todo = .code (.region id ops true) :: k) :
  step P (lone fr cs w) = .next (lone { fr with todo := .inRegion ops (Region.schedule (P.follows .mixedOrders) ops (w.tape w.drawn (.order fr.fn id))) :: k } cs { w with drawn := w.drawn + 1 }) :=
 step_lone_go (by simp [stepG, stepG.exec, hm, ht, choose, Sem.run, Question.forced, Question.cut])
omit [Facts] [zAc] in
theorem zLz {ops : Array Oper} (hm : fr.mode = .run) (ht : fr.todo = .inRegion ops [] :: k) : step P (lone fr cs w) = .next (lone { fr with todo := k } cs w) :=
 step_lone_go (by simp [stepG, stepG.exec, hm, ht])
omit [Facts] [zAc] in
theorem st_op_skip {ops : Array Oper} {i : Nat} {rest : List Nat} (hm : fr.mode = .run) (ht : fr.todo = .inRegion ops (i :: rest) :: k) (h : ((ops[i]?).map (Region.wanted · (yielded ops fr.tmps))).getD false = false) :
  step P (lone fr cs w) = .next (lone (fr.finish undef) cs w) :=
 step_lone_go (by simp [stepG, stepG.exec, hm, ht, h])
omit [Facts] [zAc] in
theorem zJp {ops : Array Oper} {i : Nat} {rest : List Nat} {o : Oper} (hm : fr.mode = .run) (ht : fr.todo = .inRegion ops (i :: rest) :: k) (ho : ops[i]? = some o) (hw : Region.wanted o (yielded ops fr.tmps) = true)
  (hd : fr.roundOf = none ∨ ∀ c, o.op ≠ .defer c) :
  stepG P true { frame := fr, callers := cs, status := .running, dying := none } w = stepG.apply P true fr cs none (execOp fr.eval o) w := by
 have h1 : fr.oper? = some o := by simp [Frame.oper?, ht, ho]
 have h2 : ((ops[i]?).map (Region.wanted · (yielded ops fr.tmps))).getD false = true := by simp [ho, hw]
 simp only [stepG, hm]
 unfold stepG.exec
 simp only [ht, h2, if_true]
 unfold stepG.oper
 simp only [h1]
 split
 ·rename_i l c h3 h4
  rcases hd with hd | hd
  ·rw [hd] at h3; cases h3
  ·exact (hd c h4).elim
 ·rfl
section
variable {ops : Array Oper} {i : Nat} {rest : List Nat} {o : Oper}
omit [Facts] [zAc] in
theorem st_value {x : Value} (hm : fr.mode = .run) (ht : fr.todo = .inRegion ops (i :: rest) :: k) (ho : ops[i]? = some o) (hw : Region.wanted o (yielded ops fr.tmps) = true) (hd : fr.roundOf = none ∨ ∀ c, o.op ≠ .defer c)
  (h : (execOp fr.eval o).run P w = .ok (.value x) w') : step P (lone fr cs w) = .next (lone (fr.finish x) cs w') :=
 step_lone_go (by rw [zJp hm ht ho hw hd]; simp [stepG.apply, h])
omit [Facts] [zAc] in
theorem st_none (hm : fr.mode = .run) (ht : fr.todo = .inRegion ops (i :: rest) :: k) (ho : ops[i]? = some o) (hw : Region.wanted o (yielded ops fr.tmps) = true) (hd : fr.roundOf = none ∨ ∀ c, o.op ≠ .defer c)
  (h : (execOp fr.eval o).run P w = .ok .skip w') : step P (lone fr cs w) = .next (lone (fr.finish undef) cs w') :=
 step_lone_go (by rw [zJp hm ht ho hw hd]; simp [stepG.apply, h])
omit [Facts] [zAc] in
theorem st_enter {f : FuncId} {args : Array Value} (hm : fr.mode = .run) (ht : fr.todo = .inRegion ops (i :: rest) :: k) (ho : ops[i]? = some o) (hw : Region.wanted o (yielded ops fr.tmps) = true) (hd : fr.roundOf = none ∨ ∀ c, o.op ≠ .defer c)
  (h : (execOp fr.eval o).run P w = .ok (.enter f args) w') : step P (lone fr cs w) = .next (lone (Frame.enter P f args .normal) (fr :: cs) w') :=
 step_lone_go (by rw [zJp hm ht ho hw hd]; simp [stepG.apply, h, ht])
omit [Facts] [zAc] in
theorem st_round {l : Nat} {f : FuncId} {tm : Array Value} {a b : Code} (hm : fr.mode = .run) (ht : fr.todo = .inRegion ops (i :: rest) :: k) (ho : ops[i]? = some o) (hw : Region.wanted o (yielded ops fr.tmps) = true) (hd : fr.roundOf = none ∨ ∀ c, o.op ≠ .defer c)
  (h : (execOp fr.eval o).run P w = .ok (.round l f tm a b) w') : step P (lone fr cs w) = .next (lone (Frame.round l f tm a b .normal) (fr :: cs) w') :=
 step_lone_go (by rw [zJp hm ht ho hw hd]; simp [stepG.apply, h, ht])
omit [Facts] [zAc] in
theorem st_defer {d : Deferred} (hm : fr.mode = .run) (ht : fr.todo = .inRegion ops (i :: rest) :: k) (ho : ops[i]? = some o) (hw : Region.wanted o (yielded ops fr.tmps) = true) (hd : fr.roundOf = none)
  (h : (execOp fr.eval o).run P w = .ok (.defer d) w') : step P (lone fr cs w) = .next (lone ({ fr with defers := d :: fr.defers }.finish undef) cs w') :=
 step_lone_go (by rw [zJp hm ht ho hw (.inl hd)]; simp [stepG.apply, h])
end
def putT (tmps : Array Value) (dst : Option Tmp) (v : Value) : Array Value :=
 match dst with
 | some d => tmps.setIfInBounds d v
 | none => tmps
omit [Facts] [zAc] in
theorem zFj {ops : Array Oper} {i : Nat} {rest : List Nat} (ht : fr.todo = .inRegion ops (i :: rest) :: k) (v : Value) :
  fr.finish v = { fr with tmps := putT fr.tmps ((ops[i]?).bind (·.dst)) v, todo := .inRegion ops rest :: k } := by
 simp only [Frame.finish, ht]
 cases (ops[i]?).bind (·.dst) <;> rfl
omit [Facts] [zAc] in
theorem zLl {c : Frame} {v : Value} {fn : Func} (hm : fr.mode = .returning) (hd : fr.defers = []) (hk : fr.kind = .normal) (hf : P.funcs[fr.fn]? = some fn) (hr : (results fn fr.tmps).run P w = .ok v w) :
  step P (lone fr (c :: cs) w) = .next (lone (c.finish v) cs w) :=
 step_leave_returned ⟨hm, hd, hk, fn, hf, hr⟩
omit [Facts] [zAc] in
theorem zKt {c : Frame} {v : Value} {fn : Func} (hm : fr.mode = .returning) (hd : fr.defers = []) (hk : fr.kind = .deferred) (hf : P.funcs[fr.fn]? = some fn) (hr : (results fn fr.tmps).run P w = .ok v w) (hc : c.mode = .returning) :
  step P (lone fr (c :: cs) w) = .next (lone c cs w) := by
 have := step_going_returned (c := c) (cs := cs) hk ⟨hm, hd, fn, hf, hr⟩
 rw [this]
 have : ({ c with mode := settle c.mode } : Frame) = c := by
  rw [hc]; simp only [settle]; cases c; simp only at hc; subst hc; rfl
 rw [this]
omit [Facts] [zAc] in
theorem st_beginRound {l : Nat} {r : Loop} (hm : fr.mode = .run) (ht : fr.todo = .beginRound :: k) (hr : fr.roundOf = some l) (hl : w.heap[l]? = some (.loop r)) (hs : r.state = .ready) :
  step P (lone fr cs w) = .next (lone { fr with todo := k } cs { w with heap := w.heap.setIfInBounds l (.loop { r with state := .busy }) }) := by
 refine step_lone_go ?_
 have h1 : (getObj l).run P w = .ok (.loop r) w := zBl hl (by intros; simp)
 have h2 := zCm (P := P) (o' := .loop { r with state := .busy }) hl (by intros; simp)
 have h3 : (Instr.beginRound l).run P w = .ok () { w with heap := w.heap.setIfInBounds l (.loop { r with state := .busy }) } := by
  simp only [Instr.beginRound, Instr.getLoop, Sem.run_bind, h1, Result.andThen_ok, Sem.run_pure, h2, hs]
 simp [stepG, stepG.exec, stepG.apply, hm, ht, hr, h3, Frame.finish]
omit [Facts] [zAc] in
theorem st_endRound {l : Nat} {r : Loop} {c : Frame} {j : Option Code} (hm : fr.mode = .run) (ht : (fr.todo = [] ∧ j = none) ∨ (∃ k, fr.todo = .code .ret :: k ∧ j = some .ret) ∨ (∃ id k, fr.todo = .code (.exit id) :: k ∧ exitTo id k = none ∧ j = some (.exit id))) (hr : fr.roundOf = some l) (hk : fr.kind = .normal) (hl : w.heap[l]? = some (.loop r)) :
  step P (lone fr (c :: cs) w) = .next (lone (c.finish (.bool j.isNone)) cs { w with heap := w.heap.setIfInBounds l (.loop { r with state := if j.isNone then .ready else .done, pending := j }) }) := by
 refine step_lone_go ?_
 have h1 : (getObj l).run P w = .ok (.loop r) w := zBl hl (by intros; simp)
 have h2 := zCm (P := P) (o' := .loop { r with state := if j.isNone then .ready else .done, pending := j }) hl (by intros; simp)
 have h3 : (Instr.endRound l j).run P w = .ok (.bool j.isNone) { w with heap := w.heap.setIfInBounds l (.loop { r with state := if j.isNone then .ready else .done, pending := j }) } := by
  simp only [Instr.endRound, Instr.getLoop, Sem.run_bind, h1, Result.andThen_ok, Sem.run_pure, h2]
 rcases ht with ⟨ht, rfl⟩ | ⟨k, ht, rfl⟩ | ⟨id, k, ht, he, rfl⟩
 ·simp [stepG, stepG.exec, hm, ht, hr, h3, doReturn, hk]
 ·simp [stepG, stepG.exec, hm, ht, hr, h3, doReturn, hk]
 ·simp [stepG, stepG.exec, hm, ht, hr, he, h3, doReturn, hk]
end
end
end Go.Abs
namespace Go.Abs
noncomputable section
variable [Facts] [zAc]
section
variable {P : Program} {φ ψ : Phi} {B N : Nat} {s s' : HS} {w w' : World} {ev ev' : Operand → Option AV} {ρ : Operand → Value}
omit [Facts] [zAc] in
theorem zFz {l : List Operand} (h : ∀ x ∈ l, ev x = ev' x) : zCi ev l = zCi ev' l := by
 induction l with
 | nil => rfl
 | cons x l ih => simp only [zCi, h x (by simp), ih (fun y hy => h y (by simp [hy]))]
omit [Facts] [zAc] in
theorem zOk {l : List (Nat × Operand)} (h : ∀ x ∈ l.map (·.2), ev x = ev' x) : zLc ev l = zLc ev' l := by
 induction l with
 | nil => rfl
 | cons x l ih => obtain ⟨i, x⟩ := x; simp only [zLc, h x (by simp), ih (fun y hy => h y (by simp at hy ⊢; exact .inr hy))]
omit [zAc] in
theorem pureV_congr {op : Op} (h : ∀ x ∈ op.operands, ev x = ev' x) : pureV P ev op = pureV P ev' op := by
 cases op <;> simp only [Op.operands] at h <;> unfold pureV <;> (try delta pv_pick zIs pv_unOp zEo zIt zKj zPh zPg zHq zHp zPf zPi zPj zNs pv_call) <;> (try dsimp only) <;> try rfl
 case build t ps => rw [zOk (ev' := ev') (fun x hx => h x (by simpa using hx))]
 case makeFunc f a c => rw [zFz (ev' := ev') (l := a.toList) (fun x hx => h x (by simp at hx ⊢; exact .inl hx)), zFz (ev' := ev') (l := c.toList) (fun x hx => h x (by simp at hx ⊢; exact .inr hx))]
 case call c =>
  have h1 := zFz (ev' := ev') (l := c.args.toList) (fun x hx => h x (by simp [Call.operands] at hx ⊢; exact .inr hx))
  cases hc : c.callee with
  | value f => rfl
  | invoke r m => rfl
  | builtin b =>
   cases b <;> simp only [h1] <;> try rfl
   cases ht : c.argTypes[0]? <;> cases ha : c.args[0]? <;> try rfl
   rename_i o
   have : ev o = ev' o := h o (by simp [Call.operands, hc]; exact Array.mem_of_getElem? ha)
   simp only [this]
 case slice t x lo hi mx =>
  have hx : ev x = ev' x := h x (by simp)
  cases lo <;> cases hi <;> cases mx <;> simp_all
 all_goals (first | rfl | (simp_all; done))
omit [zAc] in
theorem heapV_congr {op : Op} (h : ∀ x ∈ op.operands, ev x = ev' x) : heapV P ev op = heapV P ev' op := by
 cases op <;> simp only [Op.operands] at h <;> unfold heapV <;> (try delta zMr hv_box zFg hv_load zMn zGb zMq zJx zGa zIy zGp zGv zGo zJy zMo hv_next zMp hv_call) <;> (try dsimp only) <;> try rfl
 case buildSlice t n ps => rw [zOk (ev' := ev') (fun x hx => h x (by simpa using hx))]
 case call c =>
  have h1 := zFz (ev' := ev') (l := c.args.toList) (fun x hx => h x (by simp [Call.operands] at hx ⊢; exact .inr hx))
  simp only [h1]
 case makeMap t r => cases r <;> rfl
 all_goals (first | rfl | (simp_all; done))
omit [zAc] in
theorem whyV_congr {op : Op} (h : ∀ x ∈ op.operands, ev x = ev' x) : whyV P ev op = whyV P ev' op := by
 cases op <;> simp only [Op.operands] at h <;> unfold whyV <;> (try dsimp only) <;> try rfl
 case slice t x lo hi mx =>
  have hx : ev x = ev' x := h x (by simp)
  cases lo <;> cases hi <;> cases mx <;> simp_all
 all_goals (first | rfl | (simp_all; done))
omit [zAc] in
theorem valOf_congr {call : Tgt → List AV → M AV} {o : Oper} (h : ∀ x ∈ o.op.operands, ev x = ev' x) : valOf P call ev o = valOf P call ev' o := by
 have h1 := pureV_congr (P := P) h
 have h2 := heapV_congr (P := P) h
 have h4 := whyV_congr (P := P) h
 rw [zOw, zOw]
 unfold valOf0
 cases ho : o.op <;> simp only [ho] at h h1 h2 h4 ⊢ <;> try (simp only [h1, h2, h4]; done)
 rename_i c
 simp only [Op.operands] at h
 have h3 := zFz (ev' := ev') (l := c.args.toList) (fun x hx => h x (by simp [Call.operands] at hx ⊢; exact .inr hx))
 cases hc : c.callee with
 | value f =>
  have : ev f = ev' f := h f (by simp [Call.operands, hc])
  simp only [this, h3]
 | invoke r m =>
  have : ev r = ev' r := h r (by simp [Call.operands, hc])
  simp only [this, h3]
 | builtin b => simp only [h1, h2, h4]
structure zKz (P : Program) (g : FuncId) (xs : Array Value) (w : World) (x : Value) (w' : World) (kind : CallKind) (cs : List Frame) : Prop where
 run : ∀ w, (callFunc g xs).run P w = .ok (.enter g xs) w
 ret : ∃ fr fn, Steps P (lone (Frame.enter P g xs kind) cs w) (lone fr cs w') ∧ fr.mode = .returning ∧ fr.defers = [] ∧ fr.kind = kind ∧ P.funcs[fr.fn]? = some fn ∧ (results fn fr.tmps).run P w' = .ok x w' ∧ fr.fn = g
def YlInv (P : Program) (l : Nat) (xs : Array Value) (w : World) (x : Value) (w' : World) (c : Frame) (cs : List Frame) : Prop :=
 ∃ f tm a b, (Instr.yield l xs).run P w = .ok (.round l f tm a b) w ∧ Steps P (lone (Frame.round l f tm a b .normal) (c :: cs) w) (lone (c.finish x) cs w')
def GOk (P : Program) (φ : Phi) : Prop := ∀ g, g < P.globals.size → φ g = some ⟨g, 0, 0⟩
omit [Facts] [zAc] in
theorem GOk.mono (h : GOk P φ) (hle : φ.le ψ) : GOk P ψ := fun g hg => hle _ _ (h g hg)
structure zCe (P : Program) (B : Nat) (call : Tgt → List AV → M AV) : Prop where
 tame : zKy call
 f : ∀ g as s N φ w (xs : Array Value) (kind : CallKind) (cs : List Frame), kind = .normal → RW φ B s w → B ≤ w.heap.size → zEj φ s.n N → GOk P φ → RL φ as xs.toList → (call (.f g) as s).wp fun v s' => s'.n ≤ N → ∃ ψ w' x, Stp φ B s w ψ s' w' ∧ RV ψ v x ∧ zKz P g xs w x w' kind cs
 d : ∀ g as s N φ w (xs : Array Value) (kind : CallKind) (cs : List Frame), kind = .deferred → RW φ B s w → B ≤ w.heap.size → zEj φ s.n N → GOk P φ → RL φ as xs.toList → (call (.d g) as s).wp fun v s' => s'.n ≤ N → ∃ ψ w' x, Stp φ B s w ψ s' w' ∧ RV ψ v x ∧ zKz P g xs w x w' kind cs
 y : ∀ l as s N φ w (xs : Array Value) (c : Frame) (cs : List Frame), RW φ B s w → B ≤ w.heap.size → zEj φ s.n N → GOk P φ → RL φ as xs.toList → (call (.y l) as s).wp fun v s' => s'.n ≤ N → ∃ ψ w' x, Stp φ B s w ψ s' w' ∧ RV ψ v x ∧ ∀ a, φ l = some a → YlInv P a.blk xs w x w' c cs
omit [Facts] [zAc] in
theorem method_ok {t : TypeId} {m : String} {g : FuncId} {V : Value} (h : zNu P t m = some g) (k : Nat) (w : World) : (method (k + 1) t V m).run P w = .ok (g, V) w := by
 unfold zNu at h
 split at h
 ·rename_i i hi
  split at h
  ·rename_i row hrow
   split at h
   ·rename_i f e hp hf hu
    cases h
    simp only [method, Sem.run_bind, zDy hi, Result.andThen_ok, hrow, hp, follow, Sem.run_pure, hf, receiverAt, zAf hu, Place.get]
   ·cases h
   ·rename_i f d hn2 hp hf hu
    cases h
    have : (receiverAt t (.val V) false (if row.path.isEmpty = true then some ((m.splitOn ".").getLastD m) else none)).run P w = .ok V w := by
     unfold receiverAt
     simp only [Sem.run_bind, zAf hu, Result.andThen_ok]
     cases d <;> first | (exact absurd hu (by intro hh; exact hn2 _ _ hp hf hh)) | rfl
    simp only [method, Sem.run_bind, zDy hi, Result.andThen_ok, hrow, hp, follow, Sem.run_pure, hf, this]
   ·cases h
  ·cases h
 ·cases h
omit [Facts] [zAc] in
theorem invoke_method {t : TypeId} {m : String} {g : FuncId} {V : Value} {A : Array Value} (h : zNu P t m = some g) (w : World) : (invoke (.fn (.method m) #[]) (#[.iface t V] ++ A)).run P w = (callFunc g (#[V] ++ A)).run P w := by
 have e0 : (#[Value.iface t V] ++ A)[0]? = some (.iface t V) := by
  rw [← Array.getElem?_toList, Array.toList_append]
  rfl
 have e1 : (#[Value.iface t V] ++ A).extract 1 (#[Value.iface t V] ++ A).size = A := by
  apply Array.ext'
  rw [Array.toList_extract]
  simp
  exact List.take_of_length_le (Nat.le_of_eq Array.length_toList)
 have e2 := method_ok (V := V) h (P.types.size + 99) w
 simp only [invoke, e0, e1, callMethod, Sem.run_bind]
 show (((method (P.types.size + 99 + 1) t V m).run P w).andThen fun a w' => (callFunc a.1 (#[a.2] ++ A)).run P w') = _
 rw [e2]
 rfl
theorem target_ok {v : AV} {V : Value} {args as : List AV} {A : Array Value} {t : Tgt} (hv : RV φ v V) (ha : RL φ args A.toList) (h : zHu P v args = some (t, as)) :
  (∃ g xs fv cap d, t = .f g ∧ RL φ as (xs : Array Value).toList ∧ (∀ w, (Deferred.ofValue V A).run P w = .ok ({ target := .fn fv cap, args := d } : Deferred) w) ∧ ∀ w, (invoke (.fn fv cap) d).run P w = (callFunc g xs).run P w) ∨
  (∃ l a, t = .y l ∧ as = args ∧ φ l = some a ∧ (∀ w, (Deferred.ofValue V A).run P w = .ok ({ target := .fn (.yield a.blk) #[], args := A } : Deferred) w) ∧ ∀ w, (invoke (.fn (.yield a.blk) #[]) A).run P w = (Instr.yield a.blk A).run P w) := by
 unfold zHu at h
 split at h
 ·rename_i g first cap
  cases h
  cases hv with | fn h1 h2 =>
  rename_i fs cs
  refine .inl ⟨g, (⟨fs⟩ ++ A) ++ ⟨cs⟩, .func g, ⟨cs⟩, ⟨fs⟩ ++ A, rfl, ?_, fun w => rfl, fun w => ?_⟩
  ·simpa using h1.append (ha.append h2)
  ·simp only [invoke]
 ·rename_i ty path g ptr first cap
  cases hv with | fn h1 h2 =>
  rename_i fs cs
  split at h
  ·rename_i x r hx
   have hall : RL φ (x :: r) (fs ++ A.toList) := by rw [← hx]; exact h1.append ha
   split at h
   ·rename_i e0 e hp hu
    cases h
    refine .inl ⟨g, ⟨fs⟩ ++ A, .via ty path g true, ⟨cs⟩, ⟨fs⟩ ++ A, rfl, by simpa using hall, fun w => rfl, fun w => ?_⟩
    cases hfa : (fs ++ A.toList) with
    | nil => rw [hfa] at hall; cases hall
    | cons X R =>
     have hA : (⟨fs⟩ ++ A : Array Value) = (X :: R).toArray := by apply Array.ext'; simpa using hfa
     rw [hA]
     have hpath : path.toList = [] := hp
     simp only [invoke, List.getElem?_toArray, List.getElem?_cons_zero, Sem.run_bind, receiverVia, hpath, follow, Sem.run_pure, Result.andThen_ok, receiverAt, zAf hu, Place.get]
     congr 2
     apply Array.ext'; simp
   ·cases h
   ·rename_i e0 d hn2 hp hu
    cases h
    refine .inl ⟨g, ⟨fs⟩ ++ A, .via ty path g false, ⟨cs⟩, ⟨fs⟩ ++ A, rfl, by simpa using hall, fun w => rfl, fun w => ?_⟩
    cases hfa : (fs ++ A.toList) with
    | nil => rw [hfa] at hall; cases hall
    | cons X R =>
     have hA : (⟨fs⟩ ++ A : Array Value) = (X :: R).toArray := by apply Array.ext'; simpa using hfa
     rw [hA]
     have hpath : path.toList = [] := hp
     cases d <;> first | exact (hn2 _ rfl).elim | skip
     all_goals
      simp only [invoke, List.getElem?_toArray, List.getElem?_cons_zero, Sem.run_bind, receiverVia, hpath, follow, Sem.run_pure, Result.andThen_ok, receiverAt, zAf hu, Place.get]
      congr 2
      apply Array.ext'; simp
   ·cases h
  ·cases h
 ·rename_i l
  cases h
  cases hv with | yl he =>
  exact .inr ⟨l, _, rfl, rfl, he, fun w => by simp [Deferred.ofValue], fun w => by simp [invoke]⟩
 ·cases h
end
end
end Go.Abs
namespace Go.Abs
noncomputable section
variable [Facts] [zAc]
section
variable {P : Program} {φ ψ : Phi} {B N : Nat} {s s' : HS} {w w' : World} {ev : Operand → Option AV} {ρ : Operand → Value}
def Does (P : Program) (o : Oper) (w : World) (x : Value) (w' : World) (fr : Frame) (cs : List Frame) : Prop :=
 ∀ (ops : Array Oper) (i : Nat) (rest : List Nat) (k : List Item), fr.mode = .run → fr.todo = .inRegion ops (i :: rest) :: k → ops[i]? = some o → Region.wanted o (yielded ops fr.tmps) = true →
  Steps P (lone fr cs w) (lone (fr.finish x) cs w')
theorem HP.does {o : Oper} {fr : Frame} (cs : List Frame) (hnd : ∀ c, o.op ≠ .defer c) {v : AV} (h : HP P φ B N s w ((execOp fr.eval o).run P w) v s') (hN : s'.n ≤ N) : ∃ ψ w' x, Stp φ B s w ψ s' w' ∧ RV ψ v x ∧ Does P o w x w' fr cs := by
 obtain ⟨ψ, w', x, h1, h2, h3⟩ := h hN
 refine ⟨ψ, w', x, h3, h2, fun ops i rest k hm ht ho hw => ?_⟩
 rcases h1 with h1 | ⟨h1, rfl⟩
 ·exact .one (st_value hm ht ho hw (.inr hnd) h1)
 ·exact .one (st_none hm ht ho hw (.inr hnd) h1)
def addE : Array Value → Sem Value := fun args => do
 let (x, y, c) ← Extern.MathBitsCarry.three "Add64" args
 pure (Extern.MathBitsCarry.pair ((x + y + c) % Extern.MathBitsCarry.m64) ((x + y + c) / Extern.MathBitsCarry.m64))
def subE : Array Value → Sem Value := fun args => do
 let (x, y, b) ← Extern.MathBitsCarry.three "Sub64" args
 pure (Extern.MathBitsCarry.pair ((x + Extern.MathBitsCarry.m64 - y - b) % Extern.MathBitsCarry.m64) (if x < y + b then 1 else 0))
def Ext.entry : Ext → Array Value → Sem Value
 | .clone => Extern.MapsClone.clone
 | .add64 => addE
 | .sub64 => subE
 | .valueOf => fun args => Extern.ReflectliteValue.unpack (args.getD 0 (.tuple #[]))
 | .vlen => Extern.ReflectliteValue.method (Extern.ReflectliteValue.valueError "reflectlite.Value.Len" 0) Extern.ReflectliteValue.len
 | .swapper => Extern.ReflectliteSwapper.swapper "internal/reflectlite" (Extern.ReflectliteValue.valueError "Swapper")
 | .swap g => Extern.ReflectliteSwapper.swap g
omit [Facts] [zAc] in
theorem ext_rows : ∀ p ∈ extNames, Extern.allGenericRows.lookup p.1 = none ∧ Extern.allTypedRows.lookup p.1 = none ∧ Extern.allRows.lookup p.1 = some p.2.entry ∧ Extern.allNextRows.lookup p.1 = none ∧ (p.1 == "runtime.NumGoroutine") = false := by
 intro p hp
 simp only [extNames, List.mem_cons, List.not_mem_nil, or_false] at hp
 rcases hp with rfl | rfl | rfl | rfl | rfl | rfl | rfl | rfl | rfl | rfl | rfl | rfl | rfl
 all_goals exact ⟨by kernel_rfl, by kernel_rfl, by kernel_rfl, by kernel_rfl, by kernel_rfl⟩
omit [Facts] [zAc] in
theorem nameExt_mem {n : String} {e : Ext} : ∀ {l : List (String × Ext)}, nameExt n l = some e → (n, e) ∈ l := by
 intro l
 induction l with
 | nil => intro h; cases h
 | cons p l ih =>
  intro h
  obtain ⟨m, x⟩ := p
  unfold nameExt at h
  split at h
  ·rename_i hm
   have hm : n = m := by simpa using hm
   cases h
   subst hm
   exact .head _
  ·exact .tail _ (ih h)
omit [Facts] [zAc] in
theorem extA_call {g : FuncId} {ex : Ext} (h : extA P g = some ex) : ∀ A w, (callFunc g A).run P w = ((ex.entry A).run P w).andThen fun v w' => .ok (.value v) w' := by
 unfold extA at h
 split at h
 ·rename_i fn hfn
  rcases zBr h with ⟨hb, h⟩ | ⟨_, h⟩
  rotate_left
  ·cases h
  simp only [Bool.and_eq_true, beq_iff_eq] at hb
  obtain ⟨g1, g2, g3, g4, g6⟩ := ext_rows _ (nameExt_mem h)
  simp only at g1 g2 g3 g4 g6
  have g5 : Extern.allNextRows.lookup "" = none := by kernel_rfl
  have e1 : Extern.find fn = some ex.entry := by simp [Extern.find, g1, g2, g3]
  have e2 : Extern.findNext fn = none := by simp [Extern.findNext, hb.2, g4, g5]
  exact fun A w => run_callFunc_extern hfn g6 hb.1 e2 e1 A w
 ·cases h
omit [Facts] [zAc] in
theorem ext_call {f : Operand} {ex : Ext} (h : extF P f = some ex) : ∃ g, f = .func g ∧ ∀ A w, (callFunc g A).run P w = ((ex.entry A).run P w).andThen fun v w' => .ok (.value v) w' := by
 cases f <;> try (cases h; done)
 rename_i g
 exact ⟨g, rfl, extA_call h⟩
theorem nat_of {φ : Phi} {x : AV} {X : Value} {n : Nat} (hn : zJv x = some n) (h : RV φ x X) : X = .int .u64 (n : Int) := by
 unfold zJv at hn
 split at hn
 ·cases hn; cases h; rfl
 ·cases hn
omit [Facts] [zAc] in
theorem run_add (x y c : Nat) (hc : c ≤ 1) (w : World) : (addE #[.int .u64 (x : Int), .int .u64 (y : Int), .int .u64 (c : Int)]).run P w = .ok (.tuple #[.int .u64 (((x + y + c) % 18446744073709551616 : Nat) : Int), .int .u64 (((x + y + c) / 18446744073709551616 : Nat) : Int)]) w := by
 have : c = 0 ∨ c = 1 := by omega
 rcases this with rfl | rfl <;> rfl
omit [Facts] [zAc] in
theorem run_sub (x y c : Nat) (hc : c ≤ 1) (w : World) : (subE #[.int .u64 (x : Int), .int .u64 (y : Int), .int .u64 (c : Int)]).run P w = .ok (.tuple #[.int .u64 (((x + 18446744073709551616 - y - c) % 18446744073709551616 : Nat) : Int), .int .u64 ((bif Nat.blt x (y + c) then 1 else 0 : Nat) : Int)]) w := by
 have e : (bif Nat.blt x (y + c) then 1 else 0 : Nat) = if x < y + c then 1 else 0 := by
  cases h : Nat.blt x (y + c)
  ·rw [if_neg (fun hh => by have : Nat.blt x (y + c) = true := Nat.ble_eq_true_of_le hh
                            rw [h] at this; cases this)]
   rfl
  ·rw [if_pos (show x < y + c from Nat.le_of_ble_eq_true h)]; rfl
 rw [e]
 have : c = 0 ∨ c = 1 := by omega
 rcases this with rfl | rfl <;> rfl
omit [Facts] [zAc] in
theorem run_clone {r : Nat} {es : Array MapEntry} {clock : Nat} (t : TypeId) (hb : w.heap[r]? = some (.map es clock)) :
  (Extern.MapsClone.clone #[.iface t (.map (some r))]).run P w = .ok (.iface t (.map (some w.heap.size))) { w with heap := w.heap.push (.map es clock) } := by
 have e : Extern.MapsClone.clone #[.iface t (.map (some r))] = (getObj r >>= fun o => match o with
   | .map entries clock => (newObj (.map entries clock) >>= fun n => pure (.iface t (.map (some n))))
   | _ => stuck "maps.clone: a map expected") := rfl
 rw [e]
 simp only [Sem.run_bind, zBl (P := P) hb (by intros; simp), Result.andThen_ok, run_newObj, Sem.run_pure]
omit [Facts] [zAc] in
theorem zKh {t : TypeId} {i : TypeInfo} (h : underI P t = some i) (w : World) : ∃ u, (Extern.Rtype.under t).run P w = .ok (u, i) w := by
 unfold underI at h
 split at h
 ·rename_i j hj
  split at h
  ·rename_i nm u hd
   refine ⟨u, ?_⟩
   simp only [Extern.Rtype.under, Sem.run_bind, zDy hj, Result.andThen_ok, hd, zDy h, Sem.run_pure]
  ·rename_i hn
   cases h
   refine ⟨t, ?_⟩
   cases hd : i.desc <;> first | exact (hn _ _ hd).elim | simp only [Extern.Rtype.under, Sem.run_bind, zDy hj, Result.andThen_ok, hd, Sem.run_pure]
 ·cases h
omit [Facts] [zAc] in
theorem zNm {t e : TypeId} (h : zEz P t = some e) : ∃ i, underI P t = some i ∧ i.desc = .slice e := by
 unfold zEz at h
 split at h
 ·rename_i i hi
  split at h
  ·rename_i e' hd; cases h; exact ⟨i, hi, hd⟩
  ·cases h
 ·cases h
omit [Facts] [zAc] in
theorem kind_slice {t e : TypeId} (h : zEz P t = some e) (w : World) : (Extern.Rtype.kind t).run P w = .ok 23 w := by
 obtain ⟨i, hi, hd⟩ := zNm h
 obtain ⟨u, hu⟩ := zKh hi w
 simp only [Extern.Rtype.kind, Sem.run_bind, hu, Result.andThen_ok, hd, Sem.run_pure]
omit [Facts] [zAc] in
theorem elem_slice {t e : TypeId} (h : zEz P t = some e) (w : World) : (Extern.Rtype.elem? t).run P w = .ok (some e) w := by
 obtain ⟨i, hi, hd⟩ := zNm h
 obtain ⟨u, hu⟩ := zKh hi w
 simp only [Extern.Rtype.elem?, Sem.run_bind, hu, Result.andThen_ok, hd, Sem.run_pure]
omit [Facts] [zAc] in
theorem kind_text {t : TypeId} {b : Bool} (h : zOx P t = some b) (w : World) : ∃ k, (Extern.Rtype.kind t).run P w = .ok k w ∧ (k == 24) = b := by
 unfold zOx at h
 split at h
 ·rename_i i hi
  obtain ⟨u, hu⟩ := zKh hi w
  cases hd : i.desc <;> rw [hd] at h <;> first | (cases h; done) | skip
  case int k =>
   cases h
   cases k <;> simp only [Extern.Rtype.kind, Sem.run_bind, hu, Result.andThen_ok, hd, Sem.run_pure] <;> first | exact ⟨_, rfl, rfl⟩ | (repeat' split) <;> exact ⟨_, rfl, rfl⟩
  case float k =>
   cases h
   cases k <;> simp only [Extern.Rtype.kind, Sem.run_bind, hu, Result.andThen_ok, hd, Sem.run_pure] <;> exact ⟨_, rfl, rfl⟩
  case complex k =>
   cases h
   cases k <;> simp only [Extern.Rtype.kind, Sem.run_bind, hu, Result.andThen_ok, hd, Sem.run_pure] <;> exact ⟨_, rfl, rfl⟩
  all_goals
   cases h
   simp only [Extern.Rtype.kind, Sem.run_bind, hu, Result.andThen_ok, hd, Sem.run_pure]
   exact ⟨_, rfl, rfl⟩
 ·cases h
omit [Facts] [zAc] in
theorem handle_type {v : Value} {t : TypeId} (h : handleType P v = some t) (w : World) : (Extern.Rtype.ofHandle v).run P w = .ok t w := by
 have : (Extern.Rtype.ofHandle v).run P w = (match handleType P v with | some t => (pure t : Sem TypeId) | none => stuck "a type descriptor expected").run P w := rfl
 rw [this, h]
 rfl
omit [Facts] [zAc] in
theorem load_var {t : TypeId} {a : Addr} {y : Value} (h : (Instr.loadAt t (.pointer (some a))).run P w = .ok y w) : (loadVar t a).run P w = .ok y w := by
 simpa [Instr.loadAt, Instr.sureAddr] using h
omit [Facts] [zAc] in
theorem store_var {t : TypeId} {a : Addr} {v : Value} (h : (Instr.storeAt t (.pointer (some a)) v).run P w = .ok () w') : (storeVar t a v).run P w = .ok () w' := by
 simpa [Instr.storeAt, Instr.sureAddr] using h
theorem ext_ok (h : RW φ B s w) (hB : B ≤ w.heap.size) (hf : zEj φ s.n N) {ex : Ext} {as : List AV} {A : Array Value} (ha : RL φ as A.toList) {run : Result Next} (hr : run = ((ex.entry A).run P w).andThen fun v w' => .ok (.value v) w') :
  (extV P ex as s).wp fun v s' => HP P φ B N s w run v s' := by
 have three : ∀ {x y c : AV}, RL φ [x, y, c] A.toList → ∀ {a b d : Nat}, zJv x = some a → zJv y = some b → zJv c = some d → A = #[.int .u64 (a : Int), .int .u64 (b : Int), .int .u64 (d : Int)] := by
  intro x y c ha a b d h1 h2 h3
  apply Array.ext'
  generalize A.toList = L at ha
  cases ha with | cons k1 ha =>
  cases ha with | cons k2 ha =>
  cases ha with | cons k3 ha =>
  cases ha
  rw [nat_of h1 k1, nat_of h2 k2, nat_of h3 k3]
 have one : ∀ {t : TypeId} {v : AV}, RL φ [.ifc t v] A.toList → ∃ V, RV φ v V ∧ A = #[.iface t V] := by
  intro t v ha
  cases hl : A.toList with
  | nil => rw [hl] at ha; cases ha
  | cons X l =>
   rw [hl] at ha
   cases ha with | cons k1 ha =>
   cases ha
   cases k1 with | ifc k1 =>
   exact ⟨_, k1, by apply Array.ext'; simpa using hl⟩
 unfold extV
 split
 ·rename_i t b
  obtain ⟨V, hV, rfl⟩ := one ha
  cases hV with | mp he =>
  rename_i a
  refine zAe (zBo fun tt y hy => ?_)
  obtain ⟨a1, ha1, hrb, hBy⟩ := h.blk b tt y hy
  rw [he] at ha1; cases ha1
  cases y <;> first | exact zAa | skip
  rename_i es clock
  obtain ⟨res, r1, r2⟩ := hrb
  refine zIg (cap := 0) (x := .map es clock) (o := .map res clock) (V := .iface t (.map (some w.heap.size))) (k := fun b => .ifc t (.mp b)) h hB hf (fun ψ hle => ⟨res, by simp, r2.mono hle⟩) (fun ψ hψ => .ifc (.mp hψ)) ?_
  rw [hr]
  simp only [Ext.entry, run_clone (P := P) t r1, Result.andThen_ok]
 ·rename_i x y c
  cases h1 : zJv x with
  | none => exact zAa
  | some a =>
   cases h2 : zJv y with
   | none => exact zAa
   | some b =>
    cases h3 : zJv c with
    | none => exact zAa
    | some d =>
     refine zAo (fun hd => ?_) (fun _ => zAa)
     have hd := Nat.le_of_ble_eq_true hd
     refine zAh (HP.of_value h ?_ (.tup (.cons (.val _) (.cons (.val _) .nil))))
     rw [hr, three ha h1 h2 h3]
     simp only [Ext.entry, run_add (P := P) _ _ _ hd, Result.andThen_ok]
 ·rename_i x y c
  cases h1 : zJv x with
  | none => exact zAa
  | some a =>
   cases h2 : zJv y with
   | none => exact zAa
   | some b =>
    cases h3 : zJv c with
    | none => exact zAa
    | some d =>
     refine zAo (fun hd => ?_) (fun _ => zAa)
     have hd := Nat.le_of_ble_eq_true hd
     refine zAh (HP.of_value h ?_ (.tup (.cons (.val _) (.cons (.val _) .nil))))
     rw [hr, three ha h1 h2 h3]
     simp only [Ext.entry, run_sub (P := P) _ _ _ hd, Result.andThen_ok]
 ·-- ValueOf
  rename_i t v
  obtain ⟨V, hV, rfl⟩ := one ha
  cases hse : zEz P t with
  | none => exact zAa
  | some e =>
   dsimp only
   refine zAe (R.wp_mono ?_ (zIw h hB v.cells none))
   rintro b s'' ⟨rfl, hn', hstp⟩
   refine zAh fun hN => ?_
   have := hstp (hf _ (Nat.le_refl _) (by omega)) V.cells.toList t #[] 0 w hV.cells (fun z hz => by cases hz) rfl rfl rfl rfl
   refine ⟨φ.put s.n ⟨w.heap.size, 0, 0⟩, { w with heap := w.heap.push (.cells V.cells t) }, .agg #[typeHandle P t, .pointer (some ⟨w.heap.size, 0, none⟩), .int .u64 151], .inl ?_, .agg (.cons (.val _) (.cons (RV.ptr (a := ⟨w.heap.size, 0, 0⟩) (Phi.put_self _ _ _)) (.cons (.val _) .nil))), by simpa using this⟩
   rw [hr]
   have hk := kind_slice hse { w with heap := w.heap.push (.cells V.cells t) }
   have hnv : (newVar t V).run P w = .ok ⟨w.heap.size, 0, none⟩ { w with heap := w.heap.push (.cells V.cells t) } := by
    simp only [newVar, newRow, Sem.run_bind, run_newObj, Result.andThen_ok, Sem.run_pure]
   have hh : (Extern.Rtype.handle t).run P { w with heap := w.heap.push (.cells V.cells t) } = .ok (typeHandle P t) { w with heap := w.heap.push (.cells V.cells t) } := rfl
   have h0 : Ext.valueOf.entry #[.iface t V] = Extern.ReflectliteValue.unpack (.iface t V) := rfl
   rw [h0]
   simp only [Extern.ReflectliteValue.unpack, Extern.ReflectliteValue.mk, Sem.run_bind, hnv, hh, hk, Result.andThen_ok, Sem.run_pure]
   rfl
 ·-- Len
  rename_i hv b o f
  cases hht : handleType P hv with
  | none => exact zAa
  | some t =>
   dsimp only
   cases hu : P.underlying t with
   | none => exact zAa
   | some d =>
    cases d <;> first | exact zAa | skip
    rename_i e
    dsimp only
    refine zAo (fun hc => ?_) (fun _ => zAa)
    simp only [Bool.and_eq_true, Bool.not_eq_true'] at hc
    obtain ⟨hf151, hse, hpk⟩ := hc
    have hf151 := Nat.eq_of_beq_eq_true hf151
    subst hf151
    have hA : ∃ a : Lc, φ b = some a ∧ A = #[.agg #[hv, .pointer (some ⟨a.blk, a.off + o, none⟩), .int .u64 151]] := by
     cases hl : A.toList with
     | nil => rw [hl] at ha; cases ha
     | cons X l =>
      rw [hl] at ha
      cases ha with | cons k1 ha =>
      cases ha
      cases k1 with | agg k1 =>
      cases k1 with | cons k2 k1 =>
      cases k1 with | cons k3 k1 =>
      cases k1 with | cons k4 k1 =>
      cases k1
      cases k2
      cases k4
      cases k3 with | ptr he =>
      exact ⟨_, he, by apply Array.ext'; simpa using hl⟩
    obtain ⟨a, he, rfl⟩ := hA
    refine zAe (R.wp_mono ?_ (load_ok (P := P) h (RV.ptr (off := o) he)))
    rintro v s'' ⟨rfl, y, hy, hvy⟩
    have hlv := load_var hy
    have entry : ∀ n c (p : Option Addr), y = .slice p n c → run = .ok (.value (.int .i64 (n : Nat))) w := by
     intro n c p e
     subst e
     rw [hr]
     have hnp : (Extern.Rtype.noPack "a Value asked or handed on" t).run P w = .ok () w := by
      have : (Extern.Rtype.noPack "a Value asked or handed on" t).run P w = (if P.packed t then (unsupported (.noEntry ("extern/reflect: " ++ "a Value asked or handed on" ++ ": a type that a stand-in pack declares")) : Sem Unit) else pure ()).run P w := rfl
      rw [this, hpk]
      rfl
     have hparts : (Extern.ReflectliteValue.parts (.agg #[hv, .pointer (some ⟨a.blk, a.off + o, none⟩), .int .u64 151])).run P w = .ok (some (t, ⟨a.blk, a.off + o, none⟩, 151)) w := by
      have h1 : (Extern.ReflectliteValue.partsAny (.agg #[hv, .pointer (some ⟨a.blk, a.off + o, none⟩), .int .u64 151])).run P w = .ok (some (t, ⟨a.blk, a.off + o, none⟩, 151)) w := by
       have h0 : Extern.ReflectliteValue.partsAny (.agg #[hv, .pointer (some ⟨a.blk, a.off + o, none⟩), .int .u64 151]) = (Extern.Rtype.ofHandle hv >>= fun t => pure (some (t, ⟨a.blk, a.off + o, none⟩, 151))) := rfl
       rw [h0]
       simp only [Sem.run_bind, handle_type hht, Result.andThen_ok, Sem.run_pure]
      simp only [Extern.ReflectliteValue.parts, Sem.run_bind, h1, hnp, Result.andThen_ok, Sem.run_pure]
     obtain ⟨e', hse'⟩ := Option.isSome_iff_exists.1 hse
     obtain ⟨i, hi, hd⟩ := zNm hse'
     obtain ⟨u, hur⟩ := zKh hi w
     have hl0 : (Extern.ReflectliteValue.len t ⟨a.blk, a.off + o, none⟩ 151 23).run P w = .ok (.int .i64 (n : Nat)) w := by
      have hb : (Builtin.len_ #[t] 0 #[.slice p n c]).run P w = .ok (.int .i64 (n : Nat)) w := by
       simp [Builtin.len_, zAf hu, goInt]
      simp [Extern.ReflectliteValue.len, hur, hd, hlv, hb]
     have h0 : Ext.vlen.entry #[.agg #[hv, .pointer (some ⟨a.blk, a.off + o, none⟩), .int .u64 151]] = (Extern.ReflectliteValue.parts (.agg #[hv, .pointer (some ⟨a.blk, a.off + o, none⟩), .int .u64 151]) >>= fun r => match r with
      | none => Extern.ReflectliteValue.valueError "reflectlite.Value.Len" 0
      | some (t, a, fl) => Extern.ReflectliteValue.len t a fl (fl % 32)) := rfl
     rw [h0]
     simp only [Sem.run_bind, hparts, Result.andThen_ok]
     rw [show (151 : Nat) % 32 = 23 from rfl, hl0]
     rfl
    split
    ·cases hvy
     exact zAh (HP.of_value h (entry _ _ _ rfl) (.val _))
    ·cases hvy
     exact zAh (HP.of_value h (entry _ _ _ rfl) (.val _))
    ·exact zAa
 ·-- Swapper
  rename_i t sv
  obtain ⟨V, hV, rfl⟩ := one ha
  cases hse : zEz P t with
  | none => exact zAa
  | some e =>
   cases hls : lenS sv with
   | none => exact zAa
   | some n =>
    dsimp only
    cases hi : P.info? e with
    | none => exact zAa
    | some i =>
     cases htk : zOx P e with
     | none => exact zAa
     | some str =>
      dsimp only
      cases hsf : swapFn P (zEn i str n) with
      | none => exact zAa
      | some f =>
       dsimp only
       have hVs : ∃ p c, V = .slice p n c := by
        unfold lenS at hls
        split at hls
        ·cases hls; cases hV; exact ⟨_, _, rfl⟩
        ·cases hls; cases hV; exact ⟨_, _, rfl⟩
        ·cases hls
       obtain ⟨p, c, rfl⟩ := hVs
       obtain ⟨k, hk1, hk2⟩ := kind_text htk w
       have hlit : ∀ bound, (Extern.ReflectliteSwapper.literal "internal/reflectlite" (zEn i str n) bound).run P w = .ok (.func (.func f) #[] bound) w := by
        intro bound
        have : (Extern.ReflectliteSwapper.literal "internal/reflectlite" (zEn i str n) bound).run P w = (match P.funcs.findIdx? (fun fn : Func => fn.name == "internal/reflectlite" ++ ".Swapper$" ++ toString (zEn i str n)) with | some f => (pure (.func (.func f) #[] bound) : Sem Value) | none => stuck ("the program has no row for " ++ ("internal/reflectlite" ++ ".Swapper$" ++ toString (zEn i str n)))).run P w := rfl
        rw [this]
        unfold swapFn at hsf
        rw [hsf]
        rfl
       have hh : (Extern.Rtype.handle e).run P w = .ok (typeHandle P e) w := rfl
       have hent : ∀ bound, bound = (if zEn i str n ≤ 2 then #[] else #[.slice p n c, typeHandle P e]) → run = .ok (.value (.func (.func f) #[] bound)) w := by
        intro bound hb
        subst hb
        rw [hr]
        have h0 : ∃ K : Option TypeId → Sem Value, Ext.swapper.entry #[.iface t (.slice p n c)] = (Extern.Rtype.elem? t >>= K) ∧ K (some e) = (typeInfo e >>= fun i => Extern.Rtype.kind e >>= fun kd => Extern.Rtype.handle e >>= fun hd =>
          Extern.ReflectliteSwapper.literal "internal/reflectlite" (zEn i (kd == 24) n) (if zEn i (kd == 24) n ≤ 2 then #[] else #[.slice p n c, hd])) := ⟨_, rfl, rfl⟩
        obtain ⟨K, h0, h1⟩ := h0
        rw [h0]
        simp only [Sem.run_bind, elem_slice hse, Result.andThen_ok, h1, zDy hi, hk1, hh, hk2, hlit]
       cases hle : Nat.ble (zEn i str n) 2 with
       | true =>
        have hle := Nat.le_of_ble_eq_true hle
        exact zAh (HP.of_value h (hent #[] (by rw [if_pos hle])) (.fn .nil .nil))
       | false =>
        have hle : ¬ zEn i str n ≤ 2 := fun hh => by rw [Nat.ble_eq_true_of_le hh] at hle; cases hle
        exact zAh (HP.of_value h (hent #[.slice p n c, typeHandle P e] (by rw [if_neg hle])) (.fn .nil (.cons hV (.cons (.val _) .nil))))
 ·-- swap
  rename_i gs i j b off z n cp hv
  cases hht : handleType P hv with
  | none => exact zAa
  | some e =>
   dsimp only
   cases hsz : szO P e with
   | none => exact zAa
   | some z' =>
    dsimp only
    refine zAo (fun hc => ?_) (fun _ => zAa)
    simp only [Bool.and_eq_true] at hc
    obtain ⟨hz, hi, hj⟩ := hc
    have hz := Nat.eq_of_beq_eq_true hz
    subst hz
    have hi : i < n := Nat.le_of_ble_eq_true hi
    have hj : j < n := Nat.le_of_ble_eq_true hj
    have hA : ∃ (a : Lc) (c : Nat), φ b = some a ∧ A = #[.int .i64 (i : Int), .int .i64 (j : Int), .slice (some ⟨a.blk, a.off + off, none⟩) n c, hv] := by
     cases hl : A.toList with
     | nil => rw [hl] at ha; cases ha
     | cons X l =>
      rw [hl] at ha
      cases ha with | cons k1 ha =>
      cases ha with | cons k2 ha =>
      cases ha with | cons k3 ha =>
      cases ha with | cons k4 ha =>
      cases ha
      cases k1; cases k2; cases k4
      cases k3 with | sl he hcap hlen hof =>
      have ho := hof (by omega)
      subst ho
      exact ⟨_, _, he, by apply Array.ext'; simpa using hl⟩
    obtain ⟨a, c, he, rfl⟩ := hA
    refine zAe (R.wp_mono ?_ (load_ok (P := P) h (RV.ptr (off := off + i * z) he)))
    rintro x s1 ⟨rfl, X, hX, hxX⟩
    refine zAe (R.wp_mono ?_ (load_ok (P := P) h (RV.ptr (off := off + j * z) he)))
    rintro y s2 ⟨rfl, Y, hY, hyY⟩
    refine zAe (R.wp_mono ?_ (store_ok (P := P) h (RV.ptr (off := off + i * z) he) hyY))
    rintro r1 s3 ⟨rfl, w3, hS1, stp1⟩
    refine zAe (R.wp_mono ?_ (store_ok (P := P) stp1.rw (RV.ptr (off := off + j * z) he) hxX))
    rintro r2 s4 ⟨rfl, w4, hS2, stp2⟩
    refine zAh fun hN => ⟨φ, w4, .tuple #[], .inl ?_, .tup .nil, stp1.trans stp2 (hf.mono (Nat.le_refl _) (Nat.le_trans stp2.up.n hN))⟩
    have ad : ∀ k : Nat, (⟨a.blk, a.off + (off + k * z), none⟩ : Addr) = (⟨a.blk, a.off + off, none⟩ : Addr).add (k * z) := by
     intro k
     unfold Addr.add
     split
     ·rename_i h0; rw [h0]; rfl
     ·rw [Nat.add_assoc]
    have L1 := load_var hX
    have L2 := load_var hY
    have L3 := store_var hS1
    have L4 := store_var hS2
    rw [ad] at L1 L2 L3 L4
    have hsize : (sizeOf e).run P w = .ok z w := zAt hsz w
    have hexc : (Extern.ReflectliteSwapper.exchange e ⟨a.blk, a.off + off, none⟩ i j).run P w = .ok (.tuple #[]) w4 := by
     simp only [Extern.ReflectliteSwapper.exchange, Sem.run_bind, hsize, Result.andThen_ok, L1, L2, L3, L4, Sem.run_pure]
    rw [hr]
    have c1 : ¬ (((i : Nat) : Int) < 0 ∨ ((i : Nat) : Int) ≥ ((n : Nat) : Int)) := by omega
    have c2 : ¬ (((j : Nat) : Int) < 0 ∨ ((j : Nat) : Int) ≥ ((n : Nat) : Int)) := by omega
    have hent : ((Ext.swap gs).entry #[.int .i64 (i : Int), .int .i64 (j : Int), .slice (some ⟨a.blk, a.off + off, none⟩) n c, hv]).run P w = .ok (.tuple #[]) w4 := by
     have e1 : (Extern.Rtype.ofHandle hv).run P w = .ok e w := handle_type hht w
     have b1 : (decide (((i : Nat) : Int) < 0) || decide (((i : Nat) : Int) ≥ ((n : Nat) : Int))) = false := by simpa using c1
     have b2 : (decide (((j : Nat) : Int) < 0) || decide (((j : Nat) : Int) ≥ ((n : Nat) : Int))) = false := by simpa using c2
     have h0 : (Ext.swap gs).entry #[.int .i64 (i : Int), .int .i64 (j : Int), .slice (some ⟨a.blk, a.off + off, none⟩) n c, hv] = (do
      if gs then
       if (decide (((i : Nat) : Int) < 0) || decide (((i : Nat) : Int) ≥ ((n : Nat) : Int))) = true then boundsPanic .i64 (i : Int) n .index
       if (decide (((j : Nat) : Int) < 0) || decide (((j : Nat) : Int) ≥ ((n : Nat) : Int))) = true then boundsPanic .i64 (j : Int) n .index
      else if (decide (((i : Nat) : Int) < 0) || decide (((i : Nat) : Int) ≥ ((n : Nat) : Int)) || decide (((j : Nat) : Int) < 0) || decide (((j : Nat) : Int) ≥ ((n : Nat) : Int))) = true then Extern.ReflectliteSwapper.outOfRange
      Extern.ReflectliteSwapper.exchange (← Extern.Rtype.ofHandle hv) ⟨a.blk, a.off + off, none⟩ ((i : Nat) : Int).toNat ((j : Nat) : Int).toNat) := rfl
     rw [h0]
     cases gs
     ·have b3 : (decide (((i : Nat) : Int) < 0) || decide (((i : Nat) : Int) ≥ ((n : Nat) : Int)) || decide (((j : Nat) : Int) < 0) || decide (((j : Nat) : Int) ≥ ((n : Nat) : Int))) = false := by
       rw [b1, Bool.false_or]; exact b2
      simp only [Bool.false_eq_true, if_false, b3, Sem.run_bind, e1, Result.andThen_ok, Int.toNat_natCast, hexc, Sem.run_pure]
     ·simp only [if_true, b1, b2, Bool.false_eq_true, if_false, Sem.run_bind, e1, Result.andThen_ok, Int.toNat_natCast, hexc, Sem.run_pure]
    rw [hent]
    rfl
 ·exact zAa
theorem val_ok {call : Tgt → List AV → M AV} (hc : zCe P B call) (h : RW φ B s w) (hB : B ≤ w.heap.size) (hf : zEj φ s.n N) (hg : GOk P φ) {fr : Frame} (cs : List Frame) (hev : EV φ ev fr.eval) (o : Oper) (hnd : ∀ c, o.op ≠ .defer c) :
  (valOf P call ev o s).wp fun v s' => s'.n ≤ N → ∃ ψ w' x, Stp φ B s w ψ s' w' ∧ RV ψ v x ∧ Does P o w x w' fr cs := by
 have pure : ∀ v, pureV P ev o.op = some v → (s.n ≤ N → ∃ ψ w' x, Stp φ B s w ψ s w' ∧ RV ψ v x ∧ Does P o w x w' fr cs) := by
  intro v hv hN
  obtain ⟨x, h1, h2⟩ := pure_ok (P := P) (w := w) hev hv
  exact (HP.of_value (N := N) h h1 h2).does cs hnd hN
 have heap : (heapV P ev o.op s).wp fun v s' => s'.n ≤ N → ∃ ψ w' x, Stp φ B s w ψ s' w' ∧ RV ψ v x ∧ Does P o w x w' fr cs :=
  R.wp_mono (fun v s' hq hN => hq.does cs hnd hN) (heap_ok h hB hf hev o)
 obtain ⟨dst, op, ty, pos, after, guard⟩ := o
 rw [zOw]
 unfold valOf0
 dsimp only at *
 split
 ·rename_i c
  cases hcal : c.callee with
  | invoke r m =>
   dsimp only
   cases hrv : ev r with
   | none => exact zAa
   | some rv =>
    cases rv <;> first | exact zAa | skip
    rename_i t v
    dsimp only
    cases hmt : zNu P t m with
    | none => exact zAa
    | some g =>
     dsimp only
     cases hargs : zCi ev c.args.toList with
     | none => exact zAa
     | some args =>
      dsimp only
      have hra : RL φ args (c.args.map fr.eval).toList := by
       have := zEl hev hargs
       simpa using this
      have hrr := hev _ _ hrv
      obtain ⟨V, hV, hvv⟩ : ∃ V, fr.eval r = .iface t V ∧ RV φ v V := by
       generalize fr.eval r = X at hrr
       cases hrr with | ifc h => exact ⟨_, rfl, h⟩
      have hrun : (execOp fr.eval ⟨dst, .call c, ty, pos, after, guard⟩).run P w = (callFunc g (#[V] ++ c.args.map fr.eval)).run P w := by
       simp only [execOp, resolve, hcal, Sem.run_bind, Sem.run_pure, Result.andThen_ok, hV]
       exact invoke_method hmt w
      have hxs : RL φ (v :: args) (#[V] ++ c.args.map fr.eval).toList := by simpa using RL.cons hvv hra
      refine R.wp_mono ?_ (hc.f g (v :: args) s N φ w (#[V] ++ c.args.map fr.eval) .normal (fr :: cs) rfl h hB hf hg hxs)
      intro v' s' hq hN
      obtain ⟨ψ, w', x, q1, q2, q3⟩ := hq hN
      refine ⟨ψ, w', x, q1, q2, fun ops i rest k hmd ht ho hw => ?_⟩
      rw [q3.run] at hrun
      obtain ⟨fr', fn, e1, e2, e3, e4, e5, e6⟩ := q3.ret
      exact .head (st_enter hmd ht ho hw (.inr hnd) hrun) (e1.trans (.one (zLl e2 e3 e4 e5 e6.1)))
  | builtin b => exact zAo (fun _ => zFm pure) (fun _ => heap)
  | value f =>
   dsimp only
   cases hex : extF P f with
   | some ex =>
    dsimp only
    cases hargs : zCi ev c.args.toList with
    | none => exact zAa
    | some args =>
     dsimp only
     have hra : RL φ args (c.args.map fr.eval).toList := by
      have := zEl hev hargs
      simpa using this
     obtain ⟨g, rfl, hrun⟩ := ext_call hex
     refine R.wp_mono (fun v s' hq hN => hq.does cs hnd hN) (ext_ok (P := P) h hB hf hra (run := (execOp fr.eval ⟨dst, .call c, ty, pos, after, guard⟩).run P w) ?_)
     have hfv : fr.eval (.func g) = .func (.func g) #[] #[] := rfl
     have := hrun (c.args.map fr.eval) w
     simp only [execOp, resolve, hcal, Sem.run_bind, hfv, Deferred.ofValue, Sem.run_pure, Result.andThen_ok, invoke, Array.empty_append, Array.append_empty]
     exact this
   | none =>
   dsimp only
   cases hfv : ev f with
   | none => exact zAa
   | some v =>
    dsimp only
    cases hargs : zCi ev c.args.toList with
    | none => exact zAa
    | some args =>
     dsimp only
     cases htg : zHu P v args with
     | none => exact zAa
     | some p =>
      obtain ⟨t, as⟩ := p
      dsimp only
      have hra : RL φ args (c.args.map fr.eval).toList := by
       have := zEl hev hargs
       simpa using this
      have hres : ∀ d : Deferred, (∀ w, (Deferred.ofValue (fr.eval f) (c.args.map fr.eval)).run P w = .ok d w) → ∀ w, (execOp fr.eval ⟨dst, .call c, ty, pos, after, guard⟩).run P w = (invoke d.target d.args).run P w := by
       intro d hd w
       simp only [execOp, resolve, hcal, Sem.run_bind, hd, Result.andThen_ok]
      rcases target_ok (P := P) (hev _ _ hfv) hra htg with ⟨g, xs, fv, cap, d, rfl, hxs, hd, hi⟩ | ⟨l, a, rfl, rfl, ha, hd, hi⟩
      ·have plain : (call (.f g) as s).wp fun v s' => s'.n ≤ N → ∃ ψ w' x, Stp φ B s w ψ s' w' ∧ RV ψ v x ∧ Does P ⟨dst, .call c, ty, pos, after, guard⟩ w x w' fr cs := by
        refine R.wp_mono ?_ (hc.f g as s N φ w xs .normal (fr :: cs) rfl h hB hf hg hxs)
        intro v' s' hq hN
        obtain ⟨ψ, w', x, q1, q2, q3⟩ := hq hN
        refine ⟨ψ, w', x, q1, q2, fun ops i rest k hm ht ho hw => ?_⟩
        have hrun := hres _ hd w
        dsimp only at hrun
        rw [hi, q3.run] at hrun
        obtain ⟨fr', fn, e1, e2, e3, e4, e5, e6⟩ := q3.ret
        exact .head (st_enter hm ht ho hw (.inr hnd) hrun) (e1.trans (.one (zLl e2 e3 e4 e5 e6.1)))
       have other : (match extA P g with
        | some ex => extV P ex as
        | none => call (.f g) as) = callG P f call (.f g) as ∨ callG P f call (.f g) as = call (.f g) as := by
        cases f <;> first | exact .inr rfl | exact .inl rfl
       rcases other with e0 | e0
       rotate_left
       ·rw [e0]; exact plain
       ·rw [← e0]
        cases hex : extA P g with
        | none => exact plain
        | some ex =>
         dsimp only
         refine R.wp_mono (fun v s' hq hN => hq.does cs hnd hN) (ext_ok (P := P) h hB hf hxs (run := (execOp fr.eval ⟨dst, .call c, ty, pos, after, guard⟩).run P w) ?_)
         have hrun := hres _ hd w
         dsimp only at hrun
         rw [hrun, hi, extA_call hex]
      ·have hcl : callG P f call (.y l) as = call (.y l) as := by
        cases f <;> rfl
       rw [hcl]
       refine R.wp_mono ?_ (hc.y l as s N φ w (c.args.map fr.eval) fr cs h hB hf hg hra)
       intro v' s' hq hN
       obtain ⟨ψ, w', x, q1, q2, q3⟩ := hq hN
       refine ⟨ψ, w', x, q1, q2, fun ops i rest k hm ht ho hw => ?_⟩
       have hrun := hres _ hd w
       dsimp only at hrun
       obtain ⟨f', tm, a', b', g1, g2⟩ := q3 a ha
       rw [hi, g1] at hrun
       exact .head (st_round hm ht ho hw (.inr hnd) hrun) g2
 ·exact zAo (fun _ => zFm pure) (fun _ => heap)
theorem ev_ok {t : Env} {nt : Nat} {fr : Frame} (h : RE φ t nt fr.tmps) (hg : GOk P φ) : EV φ (evA P.globals.size t) fr.eval := by
 intro x v hx
 cases x with
 | tmp i =>
  simp only [evA] at hx
  split at hx
  ·rename_i k e he
   cases hx
   exact normA_ok (h.some i _ he).2
  ·exact (h.some i v hx).2
 | const c => simp only [evA] at hx; cases hx; exact RV.ofV c
 | global g =>
  simp only [evA] at hx
  cases hb : Nat.blt g P.globals.size
  ·rw [hb] at hx; cases hx
  ·rw [hb] at hx
   simp only [cond_true] at hx; cases hx
   exact RV.ptr (a := ⟨g, 0, 0⟩) (hg g (Nat.le_of_ble_eq_true hb))
 | func f => simp only [evA] at hx; cases hx; exact .fn .nil .nil
theorem yielded_ok {ops : Array Oper} {t : Env} {nt : Nat} {tmps : Array Value} (h : RE φ t nt tmps) (j : Nat) (hsure : ∀ d, (ops[j]?).bind (·.dst) = some d → t.get d ≠ none) : yielded ops tmps j = zKg ops t j := by
 unfold yielded zKg
 cases hd : (ops[j]?).bind (·.dst) with
 | none => rfl
 | some d =>
  simp only [Option.bind_some]
  cases ht : t.get d with
  | none =>
   exact (hsure d hd ht).elim
  | some v =>
   obtain ⟨h1, h2⟩ := h.some d v ht
   have hlt : d < tmps.size := by rw [h.size]; exact h1
   have hget : tmps[d]? = some tmps[d] := Array.getElem?_eq_getElem hlt
   have : tmps.getD d undef = tmps[d] := by rw [Array.getD_eq_getD_getElem?, hget]; rfl
   rw [this] at h2
   rw [hget]
   generalize tmps[d] = x at h2
   cases h2 with
   | val => cases x <;> rfl
   | sx => rfl
   | ps => rfl
   | ss => rfl
   | so => rfl
   | ptr => rfl
   | sl => rfl
   | mp => rfl
   | fn => rfl
   | yl => rfl
   | ifc => rfl
   | agg => rfl
   | tup => rfl
theorem wanted_ok {ops : Array Oper} {t : Env} {nt : Nat} {tmps : Array Value} (h : RE φ t nt tmps) (o : Oper) (hs : zLy ops o t = true) : Region.wanted o (yielded ops tmps) = zDn ops o t := by
 unfold zLy at hs
 unfold Region.wanted zDn
 cases hg : o.guard with
 | none => rfl
 | some p =>
  obtain ⟨j, b⟩ := p
  rw [hg] at hs
  dsimp only at hs ⊢
  rw [yielded_ok h j (fun d hd ht => by rw [hd] at hs; dsimp only at hs; rw [ht] at hs; cases hs)]
structure Zn (φ : Phi) (s : HS) (w : World) (r : Nat) : Prop where
 obj : w.heap[r]? = some (.deferred (some []))
 out : ∀ c t x a, s.h.get c = some (t, x) → x.fixed = false → φ c = some a → a.blk ≠ r
omit [Facts] [zAc] in
theorem Zn.lt {r : Nat} (h : Zn φ s w r) : r < w.heap.size := (Array.getElem?_eq_some_iff.1 h.obj).1
theorem Zn.step {r : Nat} (h : Zn φ s w r) (k : Stp φ B s w ψ s' w') (f : zEj φ s.n s'.n) : Zn ψ s' w' r := by
 refine ⟨(k.fr.heap r h.lt h.out).trans h.obj, fun c t x a e hx ha hr => ?_⟩
 cases hc : φ c with
 | none =>
  rcases k.new c a ha hc with g | ⟨c', t', x', a', e', hx', ha', hb⟩
  ·have := h.lt
   omega
  ·exact h.out c' t' x' a' e' hx' ha' (by rw [hb, hr])
 | some a0 =>
  have e0 := k.le _ _ hc
  rw [ha] at e0
  cases e0
  by_cases hn : c < s.n
  ·cases hs : s.h.get c with
   | none =>
    have := k.up.dead c hn hs
    rw [this] at e; cases e
   | some p =>
    obtain ⟨t0, x0⟩ := p
    cases hfx : x0.fixed with
    | false => exact h.out c t0 x0 a hs hfx hc hr
    | true =>
     have := k.up.kept c t0 x0 hs (.inr hfx)
     rw [this] at e
     cases e
     rw [hfx] at hx; cases hx
  ·have := f c (by omega) (k.rw.lt c t x e).1
   rw [hc] at this; cases this
inductive RD (P : Program) (φ : Phi) (lo : Nat) : List ADef → List Deferred → List Nat → Prop
 | nil : RD P φ lo [] [] []
 | call {g : FuncId} {as : List AV} {xs d cap : Array Value} {fv : Fn} {l : List ADef} {r : List Deferred} {z : List Nat} (hx : RL φ as xs.toList) (hi : ∀ w, (invoke (.fn fv cap) d).run P w = (callFunc g xs).run P w) (hl : RD P φ lo l r z) : RD P φ lo (.call g as :: l) ({ target := .fn fv cap, args := d } :: r) z
 | coll {b : Nat} {a : Lc} {l : List ADef} {r : List Deferred} {z : List Nat} (ha : φ b = some a) (hlo : lo ≤ a.blk) (hl : RD P φ lo l r z) : RD P φ lo (.coll b :: l) ({ target := .collected a.blk, args := #[] } :: r) z
 | rest {l : List ADef} {r : List Deferred} {z : List Nat} (hl : RD P φ lo l r z) : RD P φ lo (.rest :: l) (zAc.rest ++ r) z
 | many {l : List ADef} {r : List Deferred} {y z : List Nat} (hl : RD P φ lo l r z) : RD P φ lo (.many :: l) (y.map (fun b => { target := .collected b, args := #[] }) ++ r) (y ++ z)
theorem RD.mono {lo : Nat} (hle : φ.le ψ) {l : List ADef} {r : List Deferred} {z : List Nat} (h : RD P φ lo l r z) : RD P ψ lo l r z := by
 induction h with
 | nil => exact .nil
 | call hx hi _ ih => exact .call (hx.mono hle) hi ih
 | coll ha hlo _ ih => exact .coll (hle _ _ ha) hlo ih
 | rest _ ih => exact .rest ih
 | many _ ih => exact .many ih
theorem RD.lower {lo lo' : Nat} (hle : lo' ≤ lo) {l : List ADef} {r : List Deferred} {z : List Nat} (h : RD P φ lo l r z) : RD P φ lo' l r z := by
 induction h with
 | nil => exact .nil
 | call hx hi _ ih => exact .call hx hi ih
 | coll ha hlo _ ih => exact .coll ha (Nat.le_trans hle hlo) ih
 | rest _ ih => exact .rest ih
 | many _ ih => exact .many ih
structure RDw (P : Program) (φ : Phi) (s : HS) (w : World) (lo : Nat) (l : List ADef) (r : List Deferred) : Prop where
 le0 : lo ≤ w.heap.size
 z : ∃ z, RD P φ lo l r z ∧ z.Nodup ∧ ∀ x ∈ z, Zn φ s w x ∧ lo ≤ x
theorem RDw.step {lo : Nat} {l : List ADef} {r : List Deferred} (h : RDw P φ s w lo l r) (k : Stp φ B s w ψ s' w') (f : zEj φ s.n s'.n) : RDw P ψ s' w' lo l r := by
 obtain ⟨z, h1, h2, h3⟩ := h.z
 exact ⟨Nat.le_trans h.le0 k.fr.size, z, h1.mono k.le, h2, fun x hx => ⟨(h3 x hx).1.step k f, (h3 x hx).2⟩⟩
theorem RDw.rest_eq {lo : Nat} {r : List Deferred} (h : RDw P φ s w lo [.rest] r) : r = zAc.rest := by
 obtain ⟨z, h1, _⟩ := h.z
 cases h1 with | rest hl =>
 cases hl
 simp
theorem RDw.rest {lo : Nat} (h : lo ≤ w.heap.size) {r : List Deferred} (hr : r = zAc.rest) : RDw P φ s w lo [.rest] r := by
 subst hr
 refine ⟨h, [], ?_, .nil, fun _ h => by cases h⟩
 have := RD.rest (P := P) (φ := φ) (lo := lo) (l := []) (r := []) (z := []) .nil
 rw [List.append_nil] at this
 exact this
theorem RDw.nil {lo : Nat} (h : lo ≤ w.heap.size) : RDw P φ s w lo [] [] := ⟨h, [], .nil, .nil, fun _ h => by cases h⟩
theorem RDw.call {lo : Nat} {g : FuncId} {as : List AV} {xs d cap : Array Value} {fv : Fn} {l : List ADef} {r : List Deferred} (hx : RL φ as xs.toList) (hi : ∀ w, (invoke (.fn fv cap) d).run P w = (callFunc g xs).run P w) (hl : RDw P φ s w lo l r) : RDw P φ s w lo (.call g as :: l) ({ target := .fn fv cap, args := d } :: r) := by
 obtain ⟨h, z, h1, h2, h3⟩ := hl
 exact ⟨h, z, .call hx hi h1, h2, h3⟩
theorem put_ok {st : St} {dst : Option Tmp} {v : AV} {x : Value} {tmps : Array Value} (h : RE φ st.t st.nt tmps) (hv : RV φ v x) : RE φ (st.put dst v).t (st.put dst v).nt (putT tmps dst x) ∧ (st.put dst v).ds = st.ds := by
 rw [St.put_eq]; unfold putT
 cases dst with
 | none => exact ⟨h, rfl⟩
 | some d =>
  have := h.set (d := d) hv
  dsimp only
  cases hb : Nat.blt d st.nt
  ·rw [hb] at this; exact ⟨this, rfl⟩
  ·rw [hb] at this; exact ⟨this, rfl⟩
structure RF (P : Program) (φ : Phi) (s : HS) (w : World) (lo : Nat) (rd : Option Nat) (st : St) (fr : Frame) : Prop where
 mode : fr.mode = .run
 re : RE φ st.t st.nt fr.tmps
 ds : RDw P φ s w lo st.ds fr.defers
 round : match rd with
  | none => fr.roundOf = none
  | some l => ∃ a, φ l = some a ∧ fr.roundOf = some a.blk
def zAz (fr : Frame) (tmps : Array Value) (ds : List Deferred) (todo : List Item) : Frame := { fr with tmps := tmps, defers := ds, todo := todo }
theorem RF.of {lo : Nat} {rd : Option Nat} {st st' : St} {fr : Frame} (h : RF P φ s w lo rd st fr) (hle : φ.le ψ) {tmps : Array Value} {ds : List Deferred} {todo : List Item} (h1 : RE ψ st'.t st'.nt tmps) (h2 : RDw P ψ s' w' lo st'.ds ds) : RF P ψ s' w' lo rd st' (zAz fr tmps ds todo) :=
 ⟨h.mode, h1, h2, by
  have := h.round
  cases rd with
  | none => exact this
  | some l => obtain ⟨a, h1, h2⟩ := this; exact ⟨a, hle _ _ h1, h2⟩⟩
theorem RF.todo {lo : Nat} {rd : Option Nat} {st : St} {fr : Frame} (h : RF P φ s w lo rd st fr) (todo : List Item) : RF P φ s w lo rd st { fr with todo := todo } := ⟨h.mode, h.re, h.ds, h.round⟩
theorem oper_ok {call : Tgt → List AV → M AV} (hc : zCe P B call) (h : RW φ B s w) (hB : B ≤ w.heap.size) (hf : zEj φ s.n N) (hg : GOk P φ) {lo : Nat} {rd : Option Nat} {st : St} {fr : Frame} (hr : RF P φ s w lo rd st fr) {ops : Array Oper} {i : Nat} {rest : List Nat} {k : List Item} {o : Oper}
  (ht : fr.todo = .inRegion ops (i :: rest) :: k) (ho : ops[i]? = some o) (hsu : zLy ops o st.t = true) (hw : zDn ops o st.t = true) (cs : List Frame) :
  (oper P call rd.isSome o st s).wp fun st' s' => s'.n ≤ N → ∃ ψ w' tmps ds, Stp φ B s w ψ s' w' ∧ RE ψ st'.t st'.nt tmps ∧ RDw P ψ s' w' lo st'.ds ds ∧ Steps P (lone fr cs w) (lone (zAz fr tmps ds (.inRegion ops rest :: k)) cs w') := by
 have hwant : Region.wanted o (yielded ops fr.tmps) = true := by rw [wanted_ok hr.re _ hsu]; exact hw
 have plain : (∀ c, o.op ≠ .defer c) → (M.bind (valOf P call (evA P.globals.size st.t) o) (fun v => M.pure (st.put o.dst v)) s).wp fun st' s' => s'.n ≤ N → ∃ ψ w' tmps ds, Stp φ B s w ψ s' w' ∧ RE ψ st'.t st'.nt tmps ∧ RDw P ψ s' w' lo st'.ds ds ∧ Steps P (lone fr cs w) (lone (zAz fr tmps ds (.inRegion ops rest :: k)) cs w') := by
  intro hnd
  refine wp_bind (R.wp_mono ?_ (val_ok hc h hB hf hg cs (ev_ok hr.re hg) o hnd))
  intro v s' hq
  refine zAh fun hN => ?_
  obtain ⟨ψ, w', x, q1, q2, q3⟩ := hq hN
  obtain ⟨p1, p2⟩ := put_ok (st := st) (dst := o.dst) (hr.re.mono q1.le) q2
  refine ⟨ψ, w', _, fr.defers, q1, p1, by rw [p2]; exact hr.ds.step q1 (hf.mono (Nat.le_refl _) hN), ?_⟩
  have := q3 ops i rest k hr.mode ht ho hwant
  rw [zFj ht, ho] at this
  exact this
 rw [oper_eq]
 unfold oper0
 cases hop : o.op <;> first | exact plain (fun c e => by rw [hop] at e; cases e) | skip
 ·rename_i c
  refine zAo (fun _ => zAa) (fun hrd => ?_)
  have hrd : rd = none := by cases rd with | none => rfl | some _ => cases hrd
  subst hrd
  cases hcal : c.callee <;> first | exact zAa | skip
  ·rename_i f
   dsimp only
   cases hfv : evA P.globals.size st.t f with
   | none => exact zAa
   | some v =>
    dsimp only
    cases hargs : zCi (evA P.globals.size st.t) c.args.toList with
    | none => exact zAa
    | some args =>
     dsimp only
     cases htg : zHu P v args with
     | none => exact zAa
     | some p =>
      obtain ⟨t, as⟩ := p
      cases t with
      | y l => exact zAa
      | d g => exact zAa
      | f g =>
       refine zAh fun hN => ?_
       have hev := ev_ok (P := P) hr.re hg
       have hra : RL φ args (c.args.map fr.eval).toList := by
        have := zEl hev hargs
        simpa using this
       rcases target_ok (P := P) (hev _ _ hfv) hra htg with ⟨g', xs, fv, cap, d, e, hxs, hd, hi⟩ | ⟨l, a, e, _⟩
       ·cases e
        obtain ⟨p1, p2⟩ := put_ok (st := { st with ds := .call g as :: st.ds }) (dst := o.dst) hr.re (.val undef)
        refine ⟨φ, w, _, { target := .fn fv cap, args := d } :: fr.defers, Stp.refl h, p1, by rw [p2]; exact .call hxs hi hr.ds, ?_⟩
        have hrun : (execOp fr.eval o).run P w = .ok (.defer { target := .fn fv cap, args := d }) w := by
         obtain ⟨dst, op, ty, pos, after, guard⟩ := o
         subst hop
         simp only [execOp, resolve, hcal, Sem.run_bind, hd, Result.andThen_ok, Sem.run_pure]
        have := st_defer (cs := cs) hr.mode ht ho hwant hr.round hrun
        rw [zFj (fr := { fr with defers := { target := .fn fv cap, args := d } :: fr.defers }) ht, ho] at this
        exact .one this
       ·cases e
end
end
end Go.Abs
namespace Go.Abs
noncomputable section
variable [Facts] [zAc]
section
variable {P : Program} {φ ψ : Phi} {B N : Nat} {s s' : HS} {w w' : World}
omit [Facts] [zAc] in
theorem zHt {α β : Type} {m : M α} {f : α → M β} (hm : zAb m) (hf : ∀ a, zAb (f a)) (hs : s.wf) {P1 : α → HS → Prop} {Q : β → HS → Prop}
  (h1 : (m s).wp fun a s1 => s1.n ≤ N → P1 a s1) (h2 : ∀ a s1, P1 a s1 → s1.n ≤ N → Up s s1 → (f a s1).wp fun b s2 => s2.n ≤ N → Q b s2) : (M.bind m f s).wp fun b s2 => s2.n ≤ N → Q b s2 := by
 refine wp_bind (R.wp_mono ?_ (R.wp_and_All h1 (hm s hs)))
 rintro a s1 ⟨p, up⟩
 by_cases hN : s1.n ≤ N
 ·exact h2 a s1 (p hN) hN up
 ·exact R.wp_mono (fun b s2 hu h => by have := hu.n; omega) (R.wp_of_All (hf a s1 up.wf))
theorem runOps_ok {call : Tgt → List AV → M AV} (hc : zCe P B call) {lo : Nat} {rd : Option Nat} {ops : Array Oper} {k : List Item} (cs : List Frame) : ∀ (l : List Oper) (i : Nat) (st : St) (s : HS) (φ : Phi) (w : World) (fr : Frame),
  ops.toList.drop i = l → i ≤ ops.size → RW φ B s w → B ≤ w.heap.size → zEj φ s.n N → GOk P φ → RF P φ s w lo rd st fr → fr.todo = .inRegion ops (List.range' i (ops.size - i)) :: k →
  (runOps P call rd.isSome ops l st s).wp fun st' s' => s'.n ≤ N → ∃ ψ w' tmps ds, Stp φ B s w ψ s' w' ∧ RE ψ st'.t st'.nt tmps ∧ RDw P ψ s' w' lo st'.ds ds ∧ Steps P (lone fr cs w) (lone (zAz fr tmps ds k) cs w') := by
 intro l
 induction l with
 | nil =>
  intro i st s φ w fr hl hi h hB hf hg hr ht
  have hsz : ops.size - i = 0 := by
   have := List.drop_eq_nil_iff.1 hl
   simp at this; omega
  rw [hsz] at ht
  refine zAh fun _ => ⟨φ, w, fr.tmps, fr.defers, Stp.refl h, hr.re, hr.ds, .one ?_⟩
  exact zLz hr.mode ht
 | cons o r ih =>
  intro i st s φ w fr hl hi h hB hf hg hr ht
  have hlt : i < ops.size := by
   rcases Nat.lt_or_ge i ops.size with h | h
   ·exact h
   ·rw [List.drop_eq_nil_of_le (by simpa using h)] at hl; cases hl
  have hcons := List.drop_eq_getElem_cons (l := ops.toList) (i := i) (by simpa using hlt)
  rw [hl] at hcons
  have ho : ops[i]? = some o := by
   rw [Array.getElem?_eq_getElem hlt]
   have : o = ops.toList[i] := (List.cons.inj hcons).1
   rw [this]; simp
  have hr' : ops.toList.drop (i + 1) = r := (List.cons.inj hcons).2.symm
  have hsz : ops.size - i = (ops.size - (i + 1)) + 1 := by omega
  rw [hsz, List.range'_succ] at ht
  unfold runOps
  refine zAo (fun hsu => ?_) (fun _ => zAa)
  refine zAo (fun hw => ?_) (fun hw => ?_)
  ·refine zHt (zAb.oper P hc.tame _ _ _) (fun _ => zAb.runOps P hc.tame _ _ _ _) h.wf (oper_ok hc h hB hf hg hr ht ho hsu hw cs) ?_
   rintro st1 s1 ⟨ψ, w1, tmps, ds, q1, q2, q3, q4⟩ hN1 hup
   refine R.wp_mono ?_ (ih (i + 1) st1 s1 ψ w1 (zAz fr tmps ds (.inRegion ops (List.range' (i + 1) (ops.size - (i + 1))) :: k)) hr' hlt q1.rw (Nat.le_trans hB q1.fr.size) (q1.free hf) (hg.mono q1.le) (hr.of q1.le q2 q3) rfl)
   intro st2 s2 hq hN2
   obtain ⟨χ, w2, tmps2, ds2, p1, p2, p3, p4⟩ := hq hN2
   exact ⟨χ, w2, tmps2, ds2, q1.trans p1 (hf.mono (Nat.le_refl _) hN1), p2, p3, q4.trans p4⟩
  ·have hwant : Region.wanted o (yielded ops fr.tmps) = false := by rw [wanted_ok hr.re _ hsu]; exact hw
   have hst := st_op_skip (P := P) (cs := cs) (w := w) hr.mode ht (by simp [ho, hwant])
   rw [zFj ht, ho] at hst
   obtain ⟨p1, p2⟩ := put_ok (st := st) (dst := o.dst) hr.re (.val undef)
   refine R.wp_mono ?_ (ih (i + 1) (st.put o.dst (.val undef)) s φ w (zAz fr (putT fr.tmps o.dst undef) fr.defers (.inRegion ops (List.range' (i + 1) (ops.size - (i + 1))) :: k)) hr' hlt h hB hf hg ⟨hr.mode, p1, by rw [p2]; exact hr.ds, hr.round⟩ rfl)
   intro st2 s2 hq hN2
   obtain ⟨χ, w2, tmps2, ds2, g1, g2, g3, g4⟩ := hq hN2
   exact ⟨χ, w2, tmps2, ds2, g1, g2, g3, .head hst g4⟩
def zFk (P : Program) (B : Nat) (call : Tgt → List AV → M AV) : Prop :=
 ∀ (lo : Nat) (rd : Option Nat) (ops : Array Oper) (k : List Item) (cs : List Frame) (N id : Nat) (st : St) (s : HS) (φ : Phi) (w : World) (fr : Frame),
  RW φ B s w → B ≤ w.heap.size → zEj φ s.n N → GOk P φ → RF P φ s w lo rd st fr → fr.todo = .code (.region id ops true) :: k →
  (region P call rd.isSome ops true st s).wp fun st' s' => s'.n ≤ N → ∃ ψ w' tmps ds, Stp φ B s w ψ s' w' ∧ RE ψ st'.t st'.nt tmps ∧ RDw P ψ s' w' lo st'.ds ds ∧ Steps P (lone fr cs w) (lone (zAz fr tmps ds k) cs w')
theorem region_ok {call : Tgt → List AV → M AV} (hc : zCe P B call) (hd : zFk P B call) {lo : Nat} {rd : Option Nat} {ops : Array Oper} {draw : Bool} {k : List Item} (cs : List Frame) {id : Nat} {st : St} {fr : Frame}
  (h : RW φ B s w) (hB : B ≤ w.heap.size) (hf : zEj φ s.n N) (hg : GOk P φ) (hr : RF P φ s w lo rd st fr) (ht : fr.todo = .code (.region id ops draw) :: k) :
  (region P call rd.isSome ops draw st s).wp fun st' s' => s'.n ≤ N → ∃ ψ w' tmps ds, Stp φ B s w ψ s' w' ∧ RE ψ st'.t st'.nt tmps ∧ RDw P ψ s' w' lo st'.ds ds ∧ Steps P (lone fr cs w) (lone (zAz fr tmps ds k) cs w') := by
 cases draw with
 | true => exact hd lo rd ops k cs N id st s φ w fr h hB hf hg hr ht
 | false =>
  have h1 := st_region (P := P) (cs := cs) (w := w) hr.mode ht
  have := runOps_ok (N := N) (k := k) (ops := ops) hc cs ops.toList 0 st s φ w { fr with todo := .inRegion ops (List.range ops.size) :: k } (by simp) (by omega) h hB hf hg (hr.todo _) (by simp [List.range_eq_range'])
  rw [show region P call rd.isSome ops false st = runOps P call rd.isSome ops ops.toList st from runB_eq P call rd.isSome ops ops.toList st]
  refine R.wp_mono ?_ this
  intro st' s' hq hN
  obtain ⟨ψ, w', tmps, ds, q1, q2, q3, q4⟩ := hq hN
  exact ⟨ψ, w', tmps, ds, q1, q2, q3, .head h1 q4⟩
def Left (P : Program) (m : Machine) (fr : Frame) (k : List Item) (cs : List Frame) (w : World) : Ex → Prop
 | .normal => Steps P m (lone { fr with todo := k } cs w)
 | .exit id => ∃ j, exitTo id (j ++ k) = exitTo id k ∧ Steps P m (lone { fr with todo := .code (.exit id) :: (j ++ k) } cs w)
 | .ret => ∃ j, Steps P m (lone { fr with todo := .code .ret :: j } cs w)
omit [Facts] [zAc] in
theorem Left.of_steps {m m1 : Machine} {fr : Frame} {k : List Item} {cs : List Frame} {e : Ex} (h : Steps P m m1) (h' : Left P m1 fr k cs w e) : Left P m fr k cs w e := by
 cases e with
 | normal => exact h.trans h'
 | exit id => obtain ⟨j, h1, h2⟩ := h'; exact ⟨j, h1, h.trans h2⟩
 | ret => obtain ⟨j, h1⟩ := h'; exact ⟨j, h.trans h1⟩
omit [Facts] [zAc] in
theorem Left.pass {m : Machine} {fr : Frame} {x : Item} {k : List Item} {cs : List Frame} {e : Ex} (hx : ∀ id, x ≠ .inBlock id) (hne : e ≠ .normal) (h : Left P m fr (x :: k) cs w e) : Left P m fr k cs w e := by
 cases e with
 | normal => exact (hne rfl).elim
 | exit id =>
  obtain ⟨j, h1, h2⟩ := h
  refine ⟨j ++ [x], ?_, by simpa using h2⟩
  rw [List.append_assoc, List.singleton_append, h1]
  cases x <;> first | rfl | exact (hx _ rfl).elim
 | ret => exact h
def zIc (P : Program) (φ : Phi) (B N lo : Nat) (s : HS) (w : World) (m : Machine) (fr : Frame) (k : List Item) (cs : List Frame) (e : Ex) (st' : St) (s' : HS) : Prop :=
 s'.n ≤ N → ∃ ψ w' tmps ds, Stp φ B s w ψ s' w' ∧ RE ψ st'.t st'.nt tmps ∧ RDw P ψ s' w' lo st'.ds ds ∧ Left P m (zAz fr tmps ds k) k cs w' e
omit [Facts] [zAc] in
theorem Left.frame {m : Machine} {fr : Frame} {t : Array Value} {d : List Deferred} {k0 k : List Item} {cs : List Frame} {e : Ex} : Left P m (zAz fr t d k0) k cs w e ↔ Left P m (zAz fr t d k) k cs w e := by
 cases e <;> exact Iff.rfl
end
end
end Go.Abs
namespace Go.Abs
noncomputable section
variable [Facts] [zAc]
section
variable {α β : Type} (V : Nat → α → Option β)
open Classical in
noncomputable def hv (L : Nat → Prop) : Nat → α → Option β
 | 0, b => V 0 b
 | m + 1, b => if L m ∧ V (m + 1) b ≠ V m b then V (m + 1) b else hv L m b
variable {V} {L L' : Nat → Prop} {b : α}
omit [Facts] [zAc] in
theorem hv_all : ∀ {m : Nat}, (∀ j, j < m → V (j + 1) b ≠ V j b → L j) → hv V L m b = V m b := by
 intro m
 induction m with
 | zero => intro _; rfl
 | succ m ih =>
  intro h
  simp only [hv]
  by_cases hw : V (m + 1) b ≠ V m b
  ·rw [if_pos ⟨h m (Nat.lt_succ_self _) hw, hw⟩]
  ·rw [if_neg (fun e => hw e.2), ih (fun j hj => h j (by omega))]
   exact (Classical.not_not.1 hw).symm
omit [Facts] [zAc] in
theorem hv_none {m : Nat} : ∀ {M : Nat}, m ≤ M → (∀ j, m ≤ j → j < M → L j → V (j + 1) b = V j b) → hv V L M b = hv V L m b := by
 intro M
 induction M with
 | zero => intro h _; have : m = 0 := by omega
           subst this; rfl
 | succ M ih =>
  intro h hn
  by_cases hm : m = M + 1
  ·subst hm; rfl
  ·simp only [hv]
   rw [if_neg (fun e => e.2 (hn M (by omega) (by omega) e.1))]
   exact ih (by omega) (fun j h1 h2 => hn j h1 (by omega))
omit [Facts] [zAc] in
theorem hv_congr : ∀ {m : Nat}, (∀ j, j < m → V (j + 1) b ≠ V j b → (L j ↔ L' j)) → hv V L m b = hv V L' m b := by
 intro m
 induction m with
 | zero => intro _; rfl
 | succ m ih =>
  intro h
  simp only [hv]
  rw [ih (fun j hj => h j (by omega))]
  by_cases hw : V (m + 1) b ≠ V m b
  ·have := h m (Nat.lt_succ_self _) hw
   by_cases hl : L m
   ·rw [if_pos ⟨hl, hw⟩, if_pos ⟨this.1 hl, hw⟩]
   ·rw [if_neg (fun e => hl e.1), if_neg (fun e => hl (this.2 e.1))]
  ·rw [if_neg (fun e => hw e.2), if_neg (fun e => hw e.2)]
structure Apart (V : Nat → α → Option β) (m : Nat) (R : Nat → Nat → Prop) (Acc : Nat → α → Prop) : Prop where
 lt : ∀ i j, R i j → i < j
 wr : ∀ i b, i < m → V (i + 1) b ≠ V i b → Acc i b
 ap : ∀ i j b, i < m → j < m → i ≠ j → ¬R i j → ¬R j i → V (j + 1) b ≠ V j b → ¬Acc i b
variable {m : Nat} {R : Nat → Nat → Prop} {Acc : Nat → α → Prop} {i : Nat}
omit [Facts] [zAc] in
theorem Apart.ahead (h : Apart V m R Acc) (hL : ∀ j, L j → j < m) (hcl : ∀ i j, L j → R i j → L i) (hi : i < m) (hn : ¬L i) (ha : Acc i b) {j : Nat} (hj : L j) (hw : V (j + 1) b ≠ V j b) : R j i := by
 refine Classical.byContradiction fun hne => ?_
 have hij : i ≠ j := by rintro rfl; exact hn hj
 exact h.ap i j b hi (hL j hj) hij (fun e => hn (hcl i j hj e)) hne hw ha
omit [Facts] [zAc] in
theorem Apart.now (h : Apart V m R Acc) (hL : ∀ j, L j → j < m) (hcl : ∀ i j, L j → R i j → L i) (hi : i < m) (hn : ¬L i) (hp : ∀ k, R k i → L k) (ha : Acc i b) : hv V L m b = V i b := by
 rw [hv_none (m := i) (by omega) (fun j h1 h2 h3 => Classical.byContradiction fun hw => by
  have := h.lt _ _ (h.ahead hL hcl hi hn ha h3 hw); omega)]
 refine hv_all fun j hj hw => ?_
 refine hp j (Classical.byContradiction fun hne => ?_)
 exact h.ap i j b hi (by omega) (by omega) (fun e => by have := h.lt _ _ e; omega) hne hw ha
omit [Facts] [zAc] in
theorem Apart.then (h : Apart V m R Acc) (hL : ∀ j, L j → j < m) (hcl : ∀ i j, L j → R i j → L i) (hi : i < m) (hn : ¬L i) (hp : ∀ k, R k i → L k) :
  (Acc i b → hv V (fun k => L k ∨ k = i) m b = V (i + 1) b) ∧ (¬Acc i b → hv V (fun k => L k ∨ k = i) m b = hv V L m b) := by
 constructor
 ·intro ha
  rw [hv_none (m := i + 1) (by omega) (fun j h1 h2 h3 => Classical.byContradiction fun hw => by
   have hj : L j := by rcases h3 with h3 | h3; exact h3; omega
   have := h.lt _ _ (h.ahead hL hcl hi hn ha hj hw); omega)]
  simp only [hv]
  by_cases hw : V (i + 1) b ≠ V i b
  ·rw [if_pos ⟨.inr rfl, hw⟩]
  ·rw [if_neg (fun e => hw e.2), Classical.not_not.1 hw]
   refine hv_all fun j hj hwj => .inl (hp j (Classical.byContradiction fun hne => ?_))
   exact h.ap i j b hi (by omega) (by omega) (fun e => by have := h.lt _ _ e; omega) hne hwj ha
 ·intro ha
  refine hv_congr fun j hj hw => ⟨fun e => ?_, .inl⟩
  rcases e with e | e
  ·exact e
  ·subst e; exact (ha (h.wr _ _ hj hw)).elim
end
inductive Sched (ops : Array Oper) : (Nat → Prop) → List Nat → Prop
 | nil {L : Nat → Prop} (h : ∀ i, i < ops.size → L i) : Sched ops L []
 | cons {L : Nat → Prop} {i : Nat} {l : List Nat} {o : Oper} (hi : ops[i]? = some o) (hn : ¬L i) (he : ∀ e ∈ o.after, Region.binds .any e = true → L e.on) (h : Sched ops (fun k => L k ∨ k = i) l) : Sched ops L (i :: l)
def cntN (f : Nat → Bool) : Nat → Nat
 | 0 => 0
 | n + 1 => cntN f n + (if f n then 1 else 0)
omit [Facts] [zAc] in
theorem cntN_le {f g : Nat → Bool} : ∀ {n : Nat}, (∀ k, k < n → g k = true → f k = true) → cntN g n ≤ cntN f n := by
 intro n
 induction n with
 | zero => intro _; exact Nat.le_refl _
 | succ n ih =>
  intro h
  have := ih (fun k hk => h k (by omega))
  have h2 := h n (Nat.lt_succ_self _)
  simp only [cntN]
  cases hg : g n
  ·simp; omega
  ·simp [h2 hg]; omega
omit [Facts] [zAc] in
theorem cntN_lt {f g : Nat → Bool} {i : Nat} (hf : f i = true) (hg : g i = false) : ∀ {n : Nat}, i < n → (∀ k, k < n → g k = true → f k = true) → cntN g n + 1 ≤ cntN f n := by
 intro n
 induction n with
 | zero => intro h _; omega
 | succ n ih =>
  intro hi h
  simp only [cntN]
  by_cases hin : i = n
  ·subst hin
   have := cntN_le (f := f) (g := g) (n := i) (fun k hk => h k (by omega))
   simp [hf, hg]; omega
  ·have := ih (by omega) (fun k hk => h k (by omega))
   have h2 := h n (Nat.lt_succ_self _)
   cases hg' : g n
   ·simp; omega
   ·simp [h2 hg']; omega
omit [Facts] [zAc] in
theorem cntN_zero {f : Nat → Bool} : ∀ {n : Nat}, cntN f n = 0 → ∀ k, k < n → f k = false := by
 intro n
 induction n with
 | zero => intro _ k hk; omega
 | succ n ih =>
  intro h k hk
  simp only [cntN] at h
  by_cases hkn : k = n
  ·subst hkn; cases hf : f k with
   | false => rfl
   | true => simp [hf] at h
  ·exact ih (by omega) k (by omega)
omit [Facts] [zAc] in
theorem zOo : ∀ {l : List Oper} {j : Nat}, zHz l j = true → ∀ k o, l[k]? = some o → ∀ e ∈ o.after, Region.binds .any e = true → e.on < j + k := by
 intro l
 induction l with
 | nil => intro j _ k o h; simp at h
 | cons x l ih =>
  intro j h k o hk e he hb
  simp only [zHz, Bool.and_eq_true, List.all_eq_true, Array.mem_toList_iff] at h
  cases k with
  | zero =>
   simp at hk; subst hk
   have := h.1 e he
   simp only [hb, Bool.not_true, Bool.false_or] at this
   have := Nat.le_of_ble_eq_true this
   omega
  | succ k =>
   have := ih h.2 k o (by simpa using hk) e he hb
   omega
omit [Facts] [zAc] in
theorem sched_go {ops : Array Oper} (hed : zHz ops.toList 0 = true) : ∀ (fuel t : Nat) (listed : Array Bool), listed.size = ops.size → cntN (fun k => !(listed.getD k false)) ops.size ≤ fuel →
  Sched ops (fun k => listed.getD k false = true) (Region.linearise.go .any ops fuel t listed []) := by
 intro fuel
 induction fuel with
 | zero =>
  intro t listed hs hc
  refine .nil fun i hi => ?_
  have := cntN_zero (by omega : cntN (fun k => !(listed.getD k false)) ops.size = 0) i hi
  simpa using this
 | succ fuel ih =>
  intro t listed hs hc
  simp only [Region.linearise.go]
  have hrs : (List.filter (fun i => !listed.getD i true && (Option.map (fun x => x.after.all fun e => !Region.binds .any e || listed.getD e.on false) ops[i]?).getD false) (List.range ops.size)) = Region.ready .any ops listed := rfl
  rw [hrs]
  split
  ·rename_i i hi
   have hmem := List.mem_of_getElem? hi
   obtain ⟨h0, o, ho, he⟩ := mem_ready.1 hmem
   have hlt : i < ops.size := (Array.getElem?_eq_some_iff.1 ho).1
   have hdf : ∀ (d : Bool), listed.getD i d = false := by
    intro d
    have hl : i < listed.size := by omega
    have : listed.getD i d = listed.getD i true := by simp [hl]
    rw [this]; exact h0
   rw [linearise_go_acc]
   refine .cons ho (by rw [hdf]; simp) he ?_
   have key := ih (t / (Region.ready .any ops listed).length) (listed.setIfInBounds i true) (by simpa using hs) (by
    have hlt2 := cntN_lt (f := fun k => !(listed.getD k false)) (g := fun k => !((listed.setIfInBounds i true).getD k false)) (i := i) (by simp only [hdf]; rfl) (by simp [hs ▸ hlt]) (n := ops.size) hlt (fun k hk hg => by
     cases hl : listed.getD k false with
     | false => rfl
     | true => rw [getD_set_true hl] at hg; cases hg)
    omega)
   have hset : (fun k => (listed.setIfInBounds i true).getD k false = true) = (fun k => listed.getD k false = true ∨ k = i) := by
    funext k
    by_cases hk : i = k
    ·subst hk; simp [hs ▸ hlt]
    ·rw [getD_set_ne false hk]
     have hk' : ¬ k = i := fun e => hk e.symm
     simp only [hk', or_false]
   rw [hset] at key
   exact key
  ·rename_i hnone
   have hempty : Region.ready .any ops listed = [] := by
    cases hr : Region.ready .any ops listed with
    | nil => rfl
    | cons x r =>
     rw [hr] at hnone
     have : t % (x :: r).length < (x :: r).length := Nat.mod_lt _ (by simp)
     rw [List.getElem?_eq_getElem this] at hnone; cases hnone
   refine .nil ?_
   intro i
   induction i using Nat.strongRecOn with
   | _ i ih2 =>
    intro hi
    refine Classical.byContradiction fun hne => ?_
    have : i ∈ Region.ready .any ops listed := by
     refine mem_ready.2 ⟨?_, ops[i], by simp [hi], fun e he hb => ?_⟩
     ·have hl : i < listed.size := by omega
      simp [hl] at hne ⊢; exact hne
     ·have := zOo hed i ops[i] (by simp [hi]) e he hb
      exact ih2 _ (by omega) (by omega)
    rw [hempty] at this; cases this
omit [Facts] [zAc] in
theorem sched_schedule {ops : Array Oper} (hed : zHz ops.toList 0 = true) (t : Nat) : Sched ops (fun _ => False) (Region.schedule true ops t) := by
 have := sched_go hed ops.size t (Array.replicate ops.size false) (by simp) (by
  have : ∀ n, cntN (fun k => !((Array.replicate ops.size false).getD k false)) n ≤ n := by
   intro n
   induction n with
   | zero => exact Nat.le_refl _
   | succ n ih => simp only [cntN]; split <;> omega
  exact this _)
 have e : (fun k => (Array.replicate ops.size false).getD k false = true) = (fun _ : Nat => False) := by
  funext k
  rw [Array.getD_eq_getD_getElem?, Array.getElem?_replicate]
  split <;> simp
 rw [e] at this
 simpa [Region.schedule, Region.linearise] using this
def Rp (ps : List Nat) (i j : Nat) : Prop := (ps.getD j 0).testBit i = true
omit [Facts] [zAc] in
theorem fold_bits {acc : List Nat} {i : Nat} : ∀ {l : List Edge} {m : Nat}, (l.foldl (fun m e => if Region.binds .any e then m ||| 2 ^ e.on ||| acc.getD e.on 0 else m) m).testBit i = true →
  m.testBit i = true ∨ ∃ e ∈ l, Region.binds .any e = true ∧ (i = e.on ∨ (acc.getD e.on 0).testBit i = true) := by
 intro l
 induction l with
 | nil => intro m h; exact .inl h
 | cons e l ih =>
  intro m h
  rcases ih h with h | ⟨e', he, hb, h⟩
  ·cases hb : Region.binds .any e with
   | false => simp only [hb, Bool.false_eq_true, if_false] at h; exact .inl h
   | true =>
    simp only [hb, if_true, Nat.testBit_or, Nat.testBit_two_pow, Bool.or_eq_true, decide_eq_true_eq] at h
    rcases h with (h | h) | h
    ·exact .inl h
    ·exact .inr ⟨e, by simp, hb, .inl h.symm⟩
    ·exact .inr ⟨e, by simp, hb, .inr h⟩
  ·exact .inr ⟨e', by simp [he], hb, h⟩
omit [Facts] [zAc] in
theorem preds_get : ∀ (l : List Oper) (acc : List Nat), (zFc l acc).length = acc.length + l.length ∧ (∀ j, j < acc.length → (zFc l acc).getD j 0 = acc.getD j 0) ∧
  ∀ k o, l[k]? = some o → ∃ acc' : List Nat, acc'.length = acc.length + k ∧ (∀ j, j < acc'.length → (zFc l acc).getD j 0 = acc'.getD j 0) ∧
   (zFc l acc).getD (acc.length + k) 0 = o.after.toList.foldl (fun m e => if Region.binds .any e then m ||| 2 ^ e.on ||| acc'.getD e.on 0 else m) 0 := by
 intro l
 induction l with
 | nil => intro acc; exact ⟨by simp [zFc], fun j hj => rfl, fun k o h => by simp at h⟩
 | cons x l ih =>
  intro acc
  obtain ⟨h0, h1, h2⟩ := ih (acc ++ [x.after.toList.foldl (fun m e => if Region.binds .any e then m ||| 2 ^ e.on ||| acc.getD e.on 0 else m) 0])
  simp only [zFc]
  refine ⟨by rw [h0]; simp; omega, fun j hj => ?_, fun k o hk => ?_⟩
  ·rw [h1 j (by simp; omega)]
   simp [List.getElem?_append_left hj]
  ·cases k with
   | zero =>
    simp at hk; subst hk
    refine ⟨acc, rfl, fun j hj => ?_, ?_⟩
    ·rw [h1 j (by simp; omega)]
     simp [List.getElem?_append_left hj]
    ·rw [Nat.add_zero, h1 acc.length (by simp)]
     simp
   | succ k =>
    obtain ⟨acc', g1, g2, g3⟩ := h2 k o (by simpa using hk)
    simp only [List.length_append, List.length_cons, List.length_nil] at g1 g3
    exact ⟨acc', by omega, g2, by rw [show acc.length + (k + 1) = acc.length + (0 + 1) + k by omega]; exact g3⟩
section
variable {ops : Array Oper}
omit [Facts] [zAc] in
theorem Rp_edge (hed : zHz ops.toList 0 = true) {i j : Nat} (h : Rp (zFc ops.toList []) i j) : ∃ o, ops[j]? = some o ∧ ∃ e ∈ o.after, Region.binds .any e = true ∧ e.on < j ∧ (i = e.on ∨ Rp (zFc ops.toList []) i e.on) := by
 obtain ⟨h0, _, h2⟩ := preds_get ops.toList []
 unfold Rp at h ⊢
 have hj : j < ops.size := by
  refine Classical.byContradiction fun hne => ?_
  have : (zFc ops.toList []).getD j 0 = 0 := by
   rw [List.getD_eq_getElem?_getD, List.getElem?_eq_none (by rw [h0]; simp; omega)]; rfl
  rw [this] at h; simp at h
 obtain ⟨acc', g1, g2, g3⟩ := h2 j ops[j] (by simp [hj])
 simp only [List.length_nil, Nat.zero_add] at g1 g3
 rw [g3] at h
 rcases fold_bits h with h | ⟨e, he, hb, h⟩
 ·simp at h
 ·have he := Array.mem_toList_iff.1 he
  have hlt := zOo hed j ops[j] (by simp [hj]) e he hb
  rw [Nat.zero_add] at hlt
  refine ⟨ops[j], by simp [hj], e, he, hb, hlt, ?_⟩
  rw [g2 e.on (by omega)]
  exact h
omit [Facts] [zAc] in
theorem Rp_lt (hed : zHz ops.toList 0 = true) {i : Nat} : ∀ {j : Nat}, Rp (zFc ops.toList []) i j → i < j := by
 intro j
 induction j using Nat.strongRecOn with
 | _ j ih =>
  intro h
  obtain ⟨o, _, e, _, _, hlt, h | h⟩ := Rp_edge hed h
  ·omega
  ·have := ih _ hlt h; omega
omit [Facts] [zAc] in
theorem Rp_closed (hed : zHz ops.toList 0 = true) {L : Nat → Prop} (hcl : ∀ i j, L j → Rp (zFc ops.toList []) i j → L i) {i : Nat} {o : Oper} (ho : ops[i]? = some o) (he : ∀ e ∈ o.after, Region.binds .any e = true → L e.on) :
  ∀ k, Rp (zFc ops.toList []) k i → L k := by
 intro k hk
 obtain ⟨o', ho', e, hm, hb, hlt, h⟩ := Rp_edge hed hk
 rw [ho] at ho'; cases ho'
 rcases h with h | h
 ·rw [h]; exact he e hm hb
 ·exact hcl _ _ (he e hm hb) h
omit [Facts] [zAc] in
theorem openPairs_mem {ps : List Nat} {i j : Nat} (hij : i < j) (hn : ¬Rp ps i j) : ∀ {m : Nat}, j < m → (i, j) ∈ zIf ps m := by
 intro m
 induction m with
 | zero => intro h; omega
 | succ m ih =>
  intro h
  simp only [zIf, List.mem_append, List.mem_map, List.mem_filter, List.mem_range]
  by_cases hjm : j = m
  ·subst hjm
   refine .inl ⟨i, ⟨hij, ?_⟩, rfl⟩
   unfold Rp at hn
   simpa using hn
  ·exact .inr (ih (by omega))
end
end
end Go.Abs
namespace Go.Abs
noncomputable section
variable [Facts] [zAc]
def trOf {α : Type} (f : Nat → Option α) : Nat → Tr α
 | 0 => .lf
 | n + 1 => match f n with
  | some x => (trOf f n).set n x
  | none => trOf f n
omit [Facts] [zAc] in
theorem trOf_get {α : Type} (f : Nat → Option α) (b : Nat) : ∀ n, (trOf f n).get b = if b < n then f b else none := by
 intro n
 induction n with
 | zero => simp [trOf, Tr.get]
 | succ n ih =>
  simp only [trOf]
  cases hf : f n with
  | some x =>
   simp only [Tr.get_set]
   by_cases hb : b = n
   ·subst hb; simp [hf]
   ·rw [if_neg hb, ih]
    by_cases h : b < n
    ·rw [if_pos h, if_pos (by omega)]
    ·rw [if_neg h, if_neg (by omega)]
  | none =>
   simp only [ih]
   by_cases hb : b = n
   ·subst hb; simp [hf]
   ·by_cases h : b < n
    ·rw [if_pos h, if_pos (by omega)]
    ·rw [if_neg h, if_neg (by omega)]
section
variable {P : Program} {φ ψ : Phi} {B N : Nat} {s s' : HS} {w w' : World}
theorem Stp.was {G G' : HS} (hst : Stp φ B G w ψ G' w') (hf : zEj φ G.n G'.n) {c t : Nat} {x : Blk} {a : Lc} (e : G'.h.get c = some (t, x)) (ha : φ c = some a) : ∃ t0 x0, G.h.get c = some (t0, x0) ∧ (x.fixed = false → x0.fixed = false) := by
 have hlt := (hst.up.wf _ _ _ e).1
 have hc : c < G.n := by
  refine Classical.byContradiction fun hne => ?_
  have := hf c (by omega) hlt
  rw [ha] at this; cases this
 cases hg : G.h.get c with
 | none => have := hst.up.dead c hc hg; rw [e] at this; cases this
 | some p =>
  obtain ⟨t0, x0⟩ := p
  refine ⟨t0, x0, rfl, fun hx => ?_⟩
  cases hfx : x0.fixed with
  | false => rfl
  | true =>
   have := hst.up.kept c t0 x0 hg (.inr hfx)
   rw [e] at this; cases this; rw [hx] at hfx; cases hfx
theorem frame_ok {H G G' H' : HS} (h : RW φ B H w) (hst : Stp φ B G w ψ G' w') (hsub : ∀ b p, G.h.get b = some p → H.h.get b = some p) (hf : zEj φ G.n G'.n)
  (hH : ∀ b p, H'.h.get b = some p → G'.h.get b = some p ∨ (H.h.get b = some p ∧ G.h.get b = none)) (hlt : ∀ b t x, H'.h.get b = some (t, x) → b < H'.n ∧ t ≤ H'.clk) : RW ψ B H' w' := by
 have mix : ∀ c t x d t' y a a', G'.h.get c = some (t, x) → H.h.get d = some (t', y) → G.h.get d = none → (x.fixed = false ∨ y.fixed = false) → ψ c = some a → ψ d = some a' → a.blk ≠ a'.blk := by
  intro c t x d t' y a a' hc hd hg hxy ha ha'
  obtain ⟨a0, h0, hrb, _⟩ := h.blk d t' y hd
  have := hst.le _ _ h0
  rw [ha'] at this; cases this
  cases hφ : φ c with
  | some a1 =>
   have := hst.le _ _ hφ
   rw [ha] at this; cases this
   obtain ⟨t0, x0, hc0, hx0⟩ := hst.was hf hc hφ
   have hcd : c ≠ d := by rintro rfl; rw [hg] at hc0; cases hc0
   rcases hxy with hx | hy
   ·exact h.inj c d _ _ _ _ _ _ (hsub _ _ hc0) hd (hx0 hx) hcd hφ h0
   ·exact (h.inj d c _ _ _ _ _ _ hd (hsub _ _ hc0) hy hcd.symm h0 hφ).symm
  | none =>
   rcases hst.new c a ha hφ with hn | ⟨c', t1, x1, a1, e1, e2, e3, e4⟩
   ·have := hrb.lt; omega
   ·rw [← e4]
    exact h.inj c' d _ _ _ _ _ _ (hsub _ _ e1) hd e2 (by rintro rfl; rw [hg] at e1; cases e1) e3 h0
 refine ⟨fun b t x e => ?_, fun b b' t t' x x' a a' e e' hx hne ha ha' => ?_, hlt⟩
 ·rcases hH _ _ e with e | ⟨e, hg⟩
  ·exact hst.rw.blk b t x e
  ·obtain ⟨a, h1, h2, h3⟩ := h.blk b t x e
   refine ⟨a, hst.le _ _ h1, (h2.of_heap (hst.fr.heap a.blk h2.lt fun c t' y a' hc hy hc' => ?_)).mono hst.le, h3⟩
   exact h.inj c b _ _ _ _ _ _ (hsub _ _ hc) e hy (by rintro rfl; rw [hg] at hc; cases hc) hc' h1
 ·rcases hH _ _ e with e | ⟨e, hg⟩
  ·rcases hH _ _ e' with e' | ⟨e', hg'⟩
   ·exact hst.rw.inj b b' t t' x x' a a' e e' hx hne ha ha'
   ·exact mix _ _ _ _ _ _ _ _ e e' hg' (.inl hx) ha ha'
  ·rcases hH _ _ e' with e' | ⟨e', hg'⟩
   ·exact (mix _ _ _ _ _ _ _ _ e' e hg (.inr hx) ha' ha).symm
   ·obtain ⟨a0, h0, _⟩ := h.blk _ _ _ e
    obtain ⟨a1, h1, _⟩ := h.blk _ _ _ e'
    have k0 := hst.le _ _ h0
    have k1 := hst.le _ _ h1
    rw [ha] at k0; cases k0
    rw [ha'] at k1; cases k1
    exact h.inj b b' t t' x x' a a' e e' hx hne h0 h1
theorem RW.sub {G H : HS} (h : RW φ B H w) (hsub : ∀ b p, G.h.get b = some p → H.h.get b = some p) (hlt : ∀ b t x, G.h.get b = some (t, x) → b < G.n ∧ t ≤ G.clk) : RW φ B G w :=
 ⟨fun b t x e => h.blk b t x (hsub _ _ e), fun b b' t t' x x' a a' e e' => h.inj b b' t t' x x' a a' (hsub _ _ e) (hsub _ _ e'), hlt⟩
omit [Facts] [zAc] in
theorem bind_ok {α β : Type} {m : M α} {f : α → M β} {s s' : HS} {b : β} (h : M.bind m f s = .ok b s') : ∃ a s1, m s = .ok a s1 ∧ f a s1 = .ok b s' := by
 unfold M.bind at h
 cases e : m s with
 | ok a s1 => rw [e] at h; exact ⟨a, s1, rfl, h⟩
 | bad w => rw [e] at h; cases h
 | ask n k => rw [e] at h; cases h
omit [zAc] in
theorem oper_inv {call : Tgt → List AV → M AV} {rd : Bool} {o : Oper} {st st' : St} {G G' : HS} (hnd : ∀ c, o.op ≠ .defer c) (h : oper P call rd o st G = .ok st' G') : ∃ v, valOf P call (evA P.globals.size st.t) o G = .ok v G' ∧ st' = st.put o.dst v := by
 have plain : (M.bind (valOf P call (evA P.globals.size st.t) o) (fun v => M.pure (st.put o.dst v)) G) = .ok st' G' → ∃ v, valOf P call (evA P.globals.size st.t) o G = .ok v G' ∧ st' = st.put o.dst v := by
  intro h
  obtain ⟨v, s1, h1, h2⟩ := bind_ok h
  cases h2
  exact ⟨v, h1, rfl⟩
 rw [oper_eq] at h
 unfold oper0 at h
 cases hop : o.op <;> rw [hop] at h <;> first | exact plain h | exact (hnd _ hop).elim
omit [zAc] in
theorem runOpsD_trace {call : Tgt → List AV → M AV} {rd : Bool} {ops : Array Oper} {ps : List Nat} : ∀ {l : List Oper} {i : Nat} {st : St} {recs : List Rec} {s : HS} {st' : St} {s' : HS}, runOpsD P call rd ops ps l i st recs s = .ok st' s' →
  ∃ X : Nat → St × List Rec × HS, X 0 = (st, recs, s) ∧ (∀ k o, l[k]? = some o → stepD P call rd ops ps o (i + k) (X k).1 (X k).2.1 (X k).2.2 = .ok ((X (k + 1)).1, (X (k + 1)).2.1) (X (k + 1)).2.2) ∧ (X l.length).1 = st' ∧ (X l.length).2.2 = s' := by
 intro l
 induction l with
 | nil =>
  intro i st recs s st' s' h
  unfold runOpsD at h
  cases h
  exact ⟨fun _ => (st, recs, s), rfl, fun k o hk => by simp at hk, rfl, rfl⟩
 | cons o r ih =>
  intro i st recs s st' s' h
  unfold runOpsD at h
  obtain ⟨⟨st1, rc1⟩, s1, h1, h2⟩ := bind_ok h
  obtain ⟨X, x0, x1, x2, x3⟩ := ih h2
  refine ⟨fun k => match k with | 0 => (st, recs, s) | k + 1 => X k, rfl, fun k o' hk => ?_, x2, x3⟩
  cases k with
  | zero => simp at hk; subst hk; simp only [x0, Nat.add_zero]; exact h1
  | succ k =>
   have := x1 k o' (by simpa using hk)
   rw [show i + (k + 1) = i + 1 + k by omega]
   exact this
def AccH (P : Program) (ops : Array Oper) (ps : List Nat) (o : Oper) (i : Nat) (st : St) (recs : List Rec) (s s' : HS) (b : Nat) : Prop :=
 zDn ops o st.t = true ∧ zFf P o.op = false ∧
 ((isLoad o.op = true ∧ b = zKu (evA P.globals.size st.t (addrOf o.op))) ∨
  (isLoad o.op = false ∧ zFq o.op = true ∧ b = s.n) ∨
  (isLoad o.op = false ∧ zFq o.op = false ∧ b < s'.n ∧ hidB (ps.getD i 0) recs b = false))
def Seen (P : Program) (ops : Array Oper) (ps : List Nat) (o : Oper) (i : Nat) (st : St) (recs : List Rec) (s : HS) (recs' : List Rec) (s' : HS) : Prop :=
 (∃ r, recs' = r ++ recs) ∧ (zDn ops o st.t = true → zFf P o.op = false →
  (isLoad o.op = true → ∃ t x, s.h.get (zKu (evA P.globals.size st.t (addrOf o.op))) = some (t, x) ∧ (∀ q ∈ recs, q.kind ≠ 1 → (ps.getD i 0).testBit q.i = false → t ≤ q.clk) ∧ { i, kind := 1, b := zKu (evA P.globals.size st.t (addrOf o.op)), clk := 0 } ∈ recs' ∧ ∀ b, s'.h.get b = s.h.get b) ∧
  (isLoad o.op = false → zFq o.op = true → { i, kind := 2, b := s.n, clk := s.clk } ∈ recs' ∧ s'.n = s.n + 1) ∧
  (isLoad o.op = false → zFq o.op = false → { i, kind := 3, b := 0, clk := s.clk } ∈ recs' ∧ ∀ q ∈ recs, q.kind = 1 → (ps.getD i 0).testBit q.i = false → hidB (ps.getD i 0) recs q.b = false → ∃ t x, s'.h.get q.b = some (t, x) ∧ t ≤ s.clk))
omit [zAc] in
theorem zHn {call : Tgt → List AV → M AV} (hc : zKy call) {rd : Bool} {ops : Array Oper} {ps : List Nat} {o : Oper} {i : Nat} {st : St} {recs : List Rec} {s : HS} {st' : St} {recs' : List Rec} {s' : HS} (hs : s.wf) (h : stepD P call rd ops ps o i st recs s = .ok (st', recs') s') :
  Up s s' ∧ (∀ b, ¬AccH P ops ps o i st recs s s' b → s'.h.get b = s.h.get b) ∧ Seen P ops ps o i st recs s recs' s' ∧
  ((zDn ops o st.t = false ∧ st' = st.put o.dst (.val undef)) ∨
   (zDn ops o st.t = true ∧ ∃ G G', oper P call rd o st G = .ok st' G' ∧ G.n = s.n ∧ G.clk = s.clk ∧ G'.n = s'.n ∧ (∀ b p, G.h.get b = some p → s.h.get b = some p ∧ AccH P ops ps o i st recs s s' b) ∧ (∀ b p, AccH P ops ps o i st recs s s' b → s'.h.get b = some p → G'.h.get b = some p))) := by
 have hup : Up s s' := by
  have := zAb.stepD P hc rd ops ps o i st recs s hs
  rw [h] at this; exact this
 refine ⟨hup, ?_⟩
 unfold stepD at h
 simp only [HS.bare_eq, HS.back_eq, HS.sight_eq, HS.fresh_eq] at h
 cases hsu : zLy ops o st.t
 ·rw [hsu] at h
  simp only [cond_false] at h
  cases h
 rw [hsu] at h
 simp only [cond_true] at h
 cases hw : zDn ops o st.t
 ·rw [hw] at h
  simp only [cond_false] at h
  cases h
  exact ⟨fun b _ => rfl, ⟨⟨[], rfl⟩, fun e => (by rw [hw] at e; cases e)⟩, .inl ⟨rfl, rfl⟩⟩
 ·rw [hw] at h
  simp only [cond_true] at h
  cases hp : zFf P o.op
  ·rw [hp] at h
   simp only [cond_false] at h
   cases hl : isLoad o.op
   ·rw [hl] at h
    simp only [cond_false] at h
    cases hfr : zFq o.op
    ·rw [hfr] at h
     simp only [cond_false] at h
     cases e : oper P call rd o st (hide (ps.getD i 0) recs s) with
     | bad y => rw [e] at h; cases h
     | ask n k => rw [e] at h; cases h
     | ok st1 s1 =>
      rw [e] at h
      dsimp only at h
      cases hall : (recs.all fun q => !(Nat.beq q.kind 1) || (ps.getD i 0).testBit q.i || stampOk s1 q.b s.clk)
      ·rw [hall] at h; cases h
      ·rw [hall] at h
       simp only [cond_true] at h
       have hg := fun b => hide_get (ps.getD i 0) b recs s
       have ug := fun b => unhide_get (ps.getD i 0) s b recs s1
       cases h
       have hun : (unhide (ps.getD i 0) s recs s1).n = s1.n := (ug 0).2.1
       have hu1 : Up (hide (ps.getD i 0) recs s) s1 := by
        have := zAb.oper P hc rd o st _ (hide_wf (pre := ps.getD i 0) (recs := recs) hs)
        rw [e] at this; exact this
       refine ⟨fun b hb => ?_, ⟨⟨[_], rfl⟩, fun _ _ => ⟨fun e => (by rw [hl] at e; cases e), fun _ e => (by rw [hfr] at e; cases e), fun _ _ => ⟨by simp, fun q hq hk hbit hh => ?_⟩⟩⟩, .inr ⟨rfl, _, s1, e, (hg 0).2.1, (hg 0).2.2.1, hun.symm, fun b p hb => ?_, fun b p ha hb => ?_⟩⟩
       ·by_cases hh : hidB (ps.getD i 0) recs b = true
        ·rw [(ug b).1, if_pos hh]
        ·have hge : ¬ b < (unhide (ps.getD i 0) s recs s1).n := fun hlt => hb ⟨hw, hp, .inr (.inr ⟨hl, hfr, hlt, by simpa using hh⟩)⟩
         have h1 : (unhide (ps.getD i 0) s recs s1).h.get b = none := by
          cases hx : (unhide (ps.getD i 0) s recs s1).h.get b with
          | none => rfl
          | some p => exact (hge (hup.wf b p.1 p.2 hx).1).elim
         have h2 : s.h.get b = none := by
          cases hx : s.h.get b with
          | none => rfl
          | some p => have := (hs b p.1 p.2 hx).1; have := hup.n; omega
         rw [h1, h2]
       ·have := List.all_eq_true.1 hall q hq
        have hk1 : Nat.beq q.kind 1 = true := by rw [hk]; rfl
        simp only [hk1, Bool.not_true, hbit, Bool.false_or, stampOk] at this
        split at this
        ·rename_i u y hy
         refine ⟨u, y, ?_, Nat.le_of_ble_eq_true this⟩
         rw [(ug q.b).1, if_neg (by rw [hh]; simp)]; exact hy
        ·cases this
       ·rw [(hg b).1] at hb
        split at hb
        ·cases hb
        ·rename_i hh
         refine ⟨hb, hw, hp, .inr (.inr ⟨hl, hfr, ?_, by simpa using hh⟩)⟩
         have := (hs b p.1 p.2 hb).1; have := hup.n; omega
       ·obtain ⟨_, _, h1 | h1 | h1⟩ := ha
        ·rw [hl] at h1; cases h1.1
        ·rw [hfr] at h1; cases h1.2.1
        ·rw [(ug b).1, if_neg (by rw [h1.2.2.2]; simp)] at hb; exact hb
    ·rw [hfr] at h
     simp only [cond_true] at h
     cases e : oper P call rd o st { s with h := .lf } with
     | bad y => rw [e] at h; cases h
     | ask n k => rw [e] at h; cases h
     | ok st1 s1 =>
      rw [e] at h
      dsimp only at h
      cases hy : s1.h.get s.n with
      | none => rw [hy] at h; cases h
      | some y =>
       rw [hy] at h
       dsimp only at h
       cases hb : Nat.beq s1.n (s.n + 1)
       ·rw [hb] at h; cases h
       ·rw [hb] at h
        simp only [cond_true] at h
        have hb := Nat.eq_of_beq_eq_true hb
        cases h
        refine ⟨fun b hb' => ?_, ⟨⟨[_], rfl⟩, fun _ _ => ⟨fun e => (by rw [hl] at e; cases e), fun _ _ => ⟨by simp, hb⟩, fun _ e => (by rw [hfr] at e; cases e)⟩⟩, .inr ⟨rfl, _, s1, e, rfl, rfl, rfl, fun b p hb' => ?_, fun b p ha hb' => ?_⟩⟩
        ·simp only [Tr.get_set]
         rw [if_neg]
         rintro rfl
         exact hb' ⟨hw, hp, .inr (.inl ⟨hl, hfr, rfl⟩)⟩
        ·simp [Tr.get] at hb'
        ·obtain ⟨_, _, h1 | h1 | h1⟩ := ha
         ·rw [hl] at h1; cases h1.1
         ·obtain ⟨_, _, rfl⟩ := h1
          simp only [Tr.get_set, if_true] at hb'
          rw [hy]; exact hb'
         ·rw [hfr] at h1; cases h1.2.1
   ·rw [hl] at h
    simp only [cond_true] at h
    cases hx : s.h.get (zKu (evA P.globals.size st.t (addrOf o.op))) with
    | none => rw [hx] at h; cases h
    | some p =>
     obtain ⟨t, x⟩ := p
     rw [hx] at h
     dsimp only at h
     cases hall : (recs.all fun q => Nat.beq q.kind 1 || (ps.getD i 0).testBit q.i || Nat.ble t q.clk)
     ·rw [hall] at h; cases h
     ·rw [hall] at h
      simp only [cond_true] at h
      cases e : oper P call rd o st { s with h := Tr.set .lf (zKu (evA P.globals.size st.t (addrOf o.op))) (t, x), lim := s.n } with
      | bad y => rw [e] at h; cases h
      | ask n k => rw [e] at h; cases h
      | ok st1 s1 =>
       rw [e] at h
       dsimp only at h
       cases h
       have hu1 : Up { s with h := Tr.set .lf (zKu (evA P.globals.size st.t (addrOf o.op))) (t, x), lim := s.n } s1 := by
        have := zAb.oper P hc rd o st { s with h := Tr.set .lf (zKu (evA P.globals.size st.t (addrOf o.op))) (t, x), lim := s.n } (by
         intro b' t' x' e
         simp only [Tr.get_set] at e
         split at e
         ·rename_i hb; subst hb; cases e; exact hs _ _ _ hx
         ·simp [Tr.get] at e)
        rw [e] at this; exact this
       refine ⟨fun b hb' => rfl, ⟨⟨[_], rfl⟩, fun _ _ => ⟨fun _ => ⟨t, x, hx, fun q hq hk hbit => ?_, by simp, fun b => rfl⟩, fun e => (by rw [hl] at e; cases e), fun e => (by rw [hl] at e; cases e)⟩⟩, .inr ⟨rfl, _, s1, e, rfl, rfl, rfl, fun b p hb' => ?_, fun b p ha hb' => ?_⟩⟩
       ·have := List.all_eq_true.1 hall q hq
        have hk1 : Nat.beq q.kind 1 = false := by
         cases h : Nat.beq q.kind 1 with
         | false => rfl
         | true => exact (hk (Nat.eq_of_beq_eq_true h)).elim
        simp only [hk1, hbit, Bool.false_or] at this
        exact Nat.le_of_ble_eq_true this
       ·simp only [Tr.get_set] at hb'
        split at hb'
        ·rename_i hb; cases hb'; subst hb
         exact ⟨hx, hw, hp, .inl ⟨hl, rfl⟩⟩
        ·simp [Tr.get] at hb'
       ·obtain ⟨_, _, h1 | h1 | h1⟩ := ha
        ·obtain ⟨_, rfl⟩ := h1
         have hb' : s.h.get (zKu (evA P.globals.size st.t (addrOf o.op))) = some p := hb'
         rw [hx] at hb'; cases hb'
         exact hu1.kept _ t x (by simp only [Tr.get_set, if_true]) (.inl (hs _ _ _ hx).1)
        ·rw [hl] at h1; cases h1.1
        ·rw [hl] at h1; cases h1.1
  ·rw [hp] at h
   simp only [cond_true] at h
   cases e : oper P call rd o st { s with h := .lf } with
   | bad y => rw [e] at h; cases h
   | ask n k => rw [e] at h; cases h
   | ok st1 s1 =>
    rw [e] at h
    dsimp only at h
    cases h
    refine ⟨fun b _ => rfl, ⟨⟨[], rfl⟩, fun _ e => (by rw [hp] at e; cases e)⟩, .inr ⟨rfl, _, s1, e, rfl, rfl, rfl, fun b p hb' => ?_, fun b p ha hb' => ?_⟩⟩
    ·simp [Tr.get] at hb'
    ·have := ha.2.1; rw [hp] at this; cases this
omit [zAc] in
theorem stepD_sure {call : Tgt → List AV → M AV} {rd : Bool} {ops : Array Oper} {ps : List Nat} {o : Oper} {i : Nat} {st : St} {recs : List Rec} {s : HS} {q : St × List Rec} {s' : HS} (h : stepD P call rd ops ps o i st recs s = .ok q s') : zLy ops o st.t = true := by
 unfold stepD at h
 cases hsu : zLy ops o st.t
 ·rw [hsu] at h
  simp only [cond_false] at h
  cases h
 ·rfl
end
end
end Go.Abs
namespace Go.Abs
noncomputable section
variable [Facts] [zAc]
section
variable {P : Program} {φ ψ : Phi} {B N : Nat} {s s' : HS} {w w' : World}
structure zDk (P : Program) (call : Tgt → List AV → M AV) (rd : Bool) (ops : Array Oper) (X : Nat → St × List Rec × HS) : Prop where
 tame : zKy call
 ed : zHz ops.toList 0 = true
 nd : ∀ (i : Nat) (o : Oper), ops[i]? = some o → ∀ c, o.op ≠ .defer c
 ap : ∀ (i j : Nat) (a b : Oper), i < j → ops[i]? = some a → ops[j]? = some b → ¬Rp (zFc ops.toList []) i j → a.apart ops b = true
 ot : ∀ (i j : Nat) (a b : Oper), i < j → ops[i]? = some a → ops[j]? = some b → ¬Rp (zFc ops.toList []) i j → zFf P a.op = true ∨ zFf P b.op = true ∨ isLoad a.op = true ∨ isLoad b.op = true ∨ zFq a.op = true ∨ zFq b.op = true
 wf0 : (X 0).2.2.wf
 step : ∀ (i : Nat) (o : Oper), ops[i]? = some o → stepD P call rd ops (zFc ops.toList []) o i (X i).1 (X i).2.1 (X i).2.2 = .ok ((X (i + 1)).1, (X (i + 1)).2.1) (X (i + 1)).2.2
variable {call : Tgt → List AV → M AV} {rd : Bool} {ops : Array Oper} {X : Nat → St × List Rec × HS}
omit [Facts] [zAc] in
theorem zGe {i : Nat} (h : i < ops.size) : ops[i]? = some ops[i] := by simp [h]
omit [Facts] [zAc] in
theorem ops_lt {i : Nat} {o : Oper} (h : ops[i]? = some o) : i < ops.size := (Array.getElem?_eq_some_iff.1 h).1
omit [zAc] in
theorem zDk.wf (T : zDk P call rd ops X) : ∀ i, i ≤ ops.size → (X i).2.2.wf := by
 intro i
 induction i with
 | zero => intro _; exact T.wf0
 | succ i ih => intro h; exact (zHn T.tame (ih (by omega)) (T.step i _ (zGe (by omega)))).1.wf
omit [zAc] in
theorem zDk.up (T : zDk P call rd ops X) : ∀ (j i : Nat), i ≤ j → j ≤ ops.size → Up (X i).2.2 (X j).2.2 := by
 intro j
 induction j with
 | zero => intro i h _; have : i = 0 := by omega
           subst this; exact Up.refl T.wf0
 | succ j ih =>
  intro i h hj
  by_cases hij : i = j + 1
  ·subst hij; exact Up.refl (T.wf _ hj)
  ·exact (ih i (by omega) (by omega)).trans (zHn T.tame (T.wf j (by omega)) (T.step j _ (zGe (by omega)))).1
omit [zAc] in
theorem zDk.recs (T : zDk P call rd ops X) {q : Rec} : ∀ (j i : Nat), i ≤ j → j ≤ ops.size → q ∈ (X i).2.1 → q ∈ (X j).2.1 := by
 intro j
 induction j with
 | zero => intro i h _ hq; have : i = 0 := by omega
           subst this; exact hq
 | succ j ih =>
  intro i h hj hq
  by_cases hij : i = j + 1
  ·subst hij; exact hq
  ·obtain ⟨r, hr⟩ := (zHn T.tame (T.wf j (by omega)) (T.step j _ (zGe (by omega)))).2.2.1.1
   rw [hr]
   exact List.mem_append.2 (.inr (ih i (by omega) (by omega) hq))
def AccX (P : Program) (ops : Array Oper) (X : Nat → St × List Rec × HS) (i : Nat) (b : Nat) : Prop :=
 ∃ o, ops[i]? = some o ∧ AccH P ops (zFc ops.toList []) o i (X i).1 (X i).2.1 (X i).2.2 (X (i + 1)).2.2 b
def VH (X : Nat → St × List Rec × HS) (i b : Nat) : Option (Nat × Blk) := (X i).2.2.h.get b
omit [Facts] [zAc] in
theorem hid_of {pre : Nat} {recs : List Rec} {q : Rec} (hq : q ∈ recs) (hk : q.kind = 2) (hb : pre.testBit q.i = false) : hidB pre recs q.b = true := by
 unfold hidB
 refine List.any_eq_true.2 ⟨q, hq, ?_⟩
 simp [hk, hb]
omit [Facts] [zAc] in
theorem bit_false {ps : List Nat} {i j : Nat} (h : ¬Rp ps i j) : (ps.getD j 0).testBit i = false := by
 unfold Rp at h; simpa using h
omit [zAc] in
theorem zDk.apartH (T : zDk P call rd ops X) : Apart (VH X) ops.size (Rp (zFc ops.toList [])) (AccX P ops X) := by
 have wr : ∀ i b, i < ops.size → VH X (i + 1) b ≠ VH X i b → AccX P ops X i b := fun i b hi hw =>
  ⟨ops[i], zGe hi, Classical.byContradiction fun hn => hw ((zHn T.tame (T.wf i (by omega)) (T.step i _ (zGe hi))).2.1 b hn)⟩
 refine ⟨fun i j => Rp_lt T.ed, wr, ?_⟩
 intro i j b hi hj hij hn1 hn2 hw ⟨oi, hoi, hwi, hpi, ha⟩
 obtain ⟨oj, hoj, hwj, hpj, hb⟩ := wr j b hj hw
 have sj := (zHn T.tame (T.wf j (by omega)) (T.step j _ hoj)).2.2.1.2 hwj hpj
 have si := (zHn T.tame (T.wf i (by omega)) (T.step i _ hoi)).2.2.1.2 hwi hpi
 have b1 := bit_false hn1
 have b2 := bit_false hn2
 have same : ∀ t x, (X j).2.2.h.get b = some (t, x) → (X (j + 1)).2.2.h.get b = some (t, x) → False := fun t x h1 h2 => hw (h2.trans h1.symm)
 have order : i < j ∨ j < i := by omega
 have jload : isLoad oj.op = true → False := by
  intro hl
  obtain ⟨_, _, _, _, _, this⟩ := sj.1 hl
  exact hw (this b)
 rcases hb with ⟨hl, _⟩ | ⟨hlj, hfj, hbj⟩ | ⟨hlj, hfj, hbj, hhj⟩
 ·exact jload hl
 ·-- j makes a block
  obtain ⟨rj, nj⟩ := sj.2.1 hlj hfj
  rcases ha with ⟨hli, hbi⟩ | ⟨hli, hfi, hbi⟩ | ⟨hli, hfi, hbi, hhi⟩
  ·obtain ⟨t, x, g1, g2, _, _⟩ := si.1 hli
   rw [← hbi] at g1
   rcases order with o | o
   ·have h1 := (T.wf i (by omega) _ _ _ g1).1
    have h2 := (T.up j i (by omega) (by omega)).n
    omega
   ·have hle := g2 _ (T.recs i (j + 1) (by omega) (by omega) rj) (by simp) b2
    have := (T.up i j (by omega) (by omega)).old _ _ _ g1 hle
    have := (T.wf j (by omega) _ _ _ this).1
    omega
  ·obtain ⟨ri, ni⟩ := si.2.1 hli hfi
   rcases order with o | o
   ·have h2 := (T.up j (i + 1) (by omega) (by omega)).n
    omega
   ·have h2 := (T.up i (j + 1) (by omega) (by omega)).n
    omega
  ·rcases order with o | o
   ·have h2 := (T.up j (i + 1) (by omega) (by omega)).n
    omega
   ·have := hid_of (T.recs i (j + 1) (by omega) (by omega) rj) rfl b2
    simp only at this
    rw [← hbj, hhi] at this; cases this
 ·obtain ⟨rj, gj⟩ := sj.2.2 hlj hfj
  rcases ha with ⟨hli, hbi⟩ | ⟨hli, hfi, hbi⟩ | ⟨hli, hfi, hbi, hhi⟩
  ·obtain ⟨t, x, g1, g2, g3, _⟩ := si.1 hli
   rw [← hbi] at g1 g3
   rcases order with o | o
   ·obtain ⟨u, y, k1, k2⟩ := gj _ (T.recs j (i + 1) (by omega) (by omega) g3) rfl b1 hhj
    exact same u y ((T.up (j + 1) j (by omega) (by omega)).old _ _ _ k1 k2) k1
   ·have hle := g2 _ (T.recs i (j + 1) (by omega) (by omega) rj) (by simp) b2
    have h2 := (T.up (j + 1) j (by omega) (by omega)).clk
    exact same t x ((T.up i j (by omega) (by omega)).old _ _ _ g1 hle) ((T.up i (j + 1) (by omega) (by omega)).old _ _ _ g1 (Nat.le_trans hle h2))
  ·obtain ⟨ri, ni⟩ := si.2.1 hli hfi
   rcases order with o | o
   ·have := hid_of (T.recs j (i + 1) (by omega) (by omega) ri) rfl b1
    simp only at this
    rw [← hbi, hhj] at this; cases this
   ·have h2 := (T.up i (j + 1) (by omega) (by omega)).n
    omega
  ·have : zFf P oi.op = true ∨ zFf P oj.op = true ∨ isLoad oi.op = true ∨ isLoad oj.op = true ∨ zFq oi.op = true ∨ zFq oj.op = true := by
    rcases order with o | o
    ·exact T.ot i j oi oj o hoi hoj hn1
    ·have := T.ot j i oj oi o hoj hoi hn2
     rcases this with h | h | h | h | h | h
     ·exact .inr (.inl h)
     ·exact .inl h
     ·exact .inr (.inr (.inr (.inl h)))
     ·exact .inr (.inr (.inl h))
     ·exact .inr (.inr (.inr (.inr (.inr h))))
     ·exact .inr (.inr (.inr (.inr (.inl h))))
   rw [hpi, hpj, hli, hlj, hfi, hfj] at this
   simp at this
def AccE (ops : Array Oper) (i : Nat) (d : Nat) : Prop := ∃ o, ops[i]? = some o ∧ (d ∈ o.looksAt ops ∨ o.dst = some d)
def VE (X : Nat → St × List Rec × HS) (i d : Nat) : Option AV := (X i).1.t.get d
omit [Facts] [zAc] in
theorem put_get (st : St) (dst : Option Tmp) (v : AV) (d : Nat) : (st.put dst v).t.get d = if dst = some d ∧ d < st.nt then some v else st.t.get d := by
 rw [St.put_eq]
 cases dst with
 | none => simp
 | some e =>
  dsimp only
  cases hb : Nat.blt e st.nt
  ·have hb : ¬ e < st.nt := fun h => by
    have : Nat.blt e st.nt = true := Nat.ble_eq_true_of_le h
    rw [hb] at this; cases this
   simp only [cond_false, Option.some.injEq]
   rw [if_neg (by rintro ⟨rfl, h⟩; exact hb h)]
  ·have hb : e < st.nt := Nat.le_of_ble_eq_true hb
   simp only [cond_true, Tr.get_set, Option.some.injEq]
   by_cases h : d = e
   ·subst h; rw [if_pos rfl, if_pos ⟨rfl, hb⟩]
   ·rw [if_neg h, if_neg (by rintro ⟨rfl, _⟩; exact h rfl)]
omit [Facts] [zAc] in
theorem put_nt (st : St) (dst : Option Tmp) (v : AV) : (st.put dst v).nt = st.nt ∧ (st.put dst v).ds = st.ds := by
 rw [St.put_eq]
 cases dst with
 | none => exact ⟨rfl, rfl⟩
 | some e => dsimp only; cases Nat.blt e st.nt <;> exact ⟨rfl, rfl⟩
omit [zAc] in
theorem zDk.put (T : zDk P call rd ops X) {i : Nat} {o : Oper} (ho : ops[i]? = some o) : ∃ v, (X (i + 1)).1 = (X i).1.put o.dst v := by
 have hi := ops_lt ho
 rcases (zHn T.tame (T.wf i (by omega)) (T.step i _ ho)).2.2.2 with ⟨_, h⟩ | ⟨_, G, G', h, _⟩
 ·exact ⟨_, h⟩
 ·obtain ⟨v, _, h⟩ := oper_inv (T.nd i o ho) h
  exact ⟨v, h⟩
omit [zAc] in
theorem zDk.nt (T : zDk P call rd ops X) : ∀ i, i ≤ ops.size → (X i).1.nt = (X 0).1.nt ∧ (X i).1.ds = (X 0).1.ds := by
 intro i
 induction i with
 | zero => intro _; exact ⟨rfl, rfl⟩
 | succ i ih =>
  intro h
  obtain ⟨v, hv⟩ := T.put (zGe (show i < ops.size by omega))
  rw [hv, (put_nt _ _ _).1, (put_nt _ _ _).2]
  exact ih (by omega)
omit [zAc] in
theorem zDk.apartE (T : zDk P call rd ops X) : Apart (VE X) ops.size (Rp (zFc ops.toList [])) (AccE ops) := by
 have wr : ∀ i d o, ops[i]? = some o → VE X (i + 1) d ≠ VE X i d → o.dst = some d := by
  intro i d o ho hw
  obtain ⟨v, hv⟩ := T.put ho
  unfold VE at hw
  rw [hv, put_get] at hw
  by_cases h : o.dst = some d ∧ d < (X i).1.nt
  ·exact h.1
  ·rw [if_neg h] at hw; exact (hw rfl).elim
 refine ⟨fun i j => Rp_lt T.ed, fun i d hi hw => ⟨ops[i], zGe hi, .inr (wr i d _ (zGe hi) hw)⟩, ?_⟩
 intro i j d hi hj hij hn1 hn2 hw ⟨oi, hoi, ha⟩
 have hd := wr j d _ (zGe hj) hw
 rcases (by omega : i < j ∨ j < i) with o | o
 ·obtain ⟨_, h2, h3⟩ := Oper.apart_spec (T.ap i j _ _ o hoi (zGe hj) hn1)
  rcases ha with ha | ha
  ·exact h3 d hd ha
  ·exact h2 d ha hd
 ·obtain ⟨h1, h2, _⟩ := Oper.apart_spec (T.ap j i _ _ o (zGe hj) hoi hn2)
  rcases ha with ha | ha
  ·exact h1 d hd ha
  ·exact h2 d hd ha
end
end
end Go.Abs
namespace Go.Abs
noncomputable section
variable [Facts] [zAc]
section
variable {P : Program} {φ ψ : Phi} {B N : Nat} {s s' : HS} {w w' : World}
variable {call : Tgt → List AV → M AV} {rd : Bool} {ops : Array Oper} {X : Nat → St × List Rec × HS}
omit [Facts] [zAc] in
theorem hv_mem {α β : Type} {V : Nat → α → Option β} {L : Nat → Prop} {b : α} : ∀ m, ∃ j, j ≤ m ∧ hv V L m b = V j b := by
 intro m
 induction m with
 | zero => exact ⟨0, Nat.le_refl _, rfl⟩
 | succ m ih =>
  obtain ⟨j, hj, h⟩ := ih
  simp only [hv]
  by_cases hc : L m ∧ V (m + 1) b ≠ V m b
  ·rw [if_pos hc]; exact ⟨m + 1, Nat.le_refl _, rfl⟩
  ·rw [if_neg hc]; exact ⟨j, by omega, h⟩
noncomputable def HL (ops : Array Oper) (X : Nat → St × List Rec × HS) (L : Nat → Prop) : HS :=
 { h := trOf (fun b => hv (VH X) L ops.size b) (X ops.size).2.2.n, n := (X ops.size).2.2.n, clk := (X ops.size).2.2.clk, lim := (X 0).2.2.lim }
noncomputable def TL (ops : Array Oper) (X : Nat → St × List Rec × HS) (L : Nat → Prop) : Env := trOf (fun d => hv (VE X) L ops.size d) (X 0).1.nt
omit [zAc] in
theorem zDk.HL_get (T : zDk P call rd ops X) {L : Nat → Prop} (b : Nat) : (HL ops X L).h.get b = hv (VH X) L ops.size b := by
 simp only [HL, trOf_get]
 by_cases hb : b < (X ops.size).2.2.n
 ·rw [if_pos hb]
 ·rw [if_neg hb]
  obtain ⟨j, hj, h⟩ := hv_mem (V := VH X) (L := L) (b := b) ops.size
  rw [h]
  unfold VH
  cases hx : (X j).2.2.h.get b with
  | none => rfl
  | some p =>
   have := (T.wf j hj _ _ _ hx).1
   have := (T.up ops.size j hj (Nat.le_refl _)).n
   omega
omit [zAc] in
theorem zDk.HL_wf (T : zDk P call rd ops X) {L : Nat → Prop} (b t : Nat) (x : Blk) (e : (HL ops X L).h.get b = some (t, x)) : b < (HL ops X L).n ∧ t ≤ (HL ops X L).clk := by
 rw [T.HL_get] at e
 obtain ⟨j, hj, h⟩ := hv_mem (V := VH X) (L := L) (b := b) ops.size
 rw [h] at e
 have h1 := T.wf j hj _ _ _ e
 have h2 := T.up ops.size j hj (Nat.le_refl _)
 have := h2.n
 have := h2.clk
 simp only [HL]
 omega
omit [zAc] in
theorem zDk.VE_lt (T : zDk P call rd ops X) (h0 : ∀ d v, VE X 0 d = some v → d < (X 0).1.nt) : ∀ i, i ≤ ops.size → ∀ d v, VE X i d = some v → d < (X 0).1.nt := by
 intro i
 induction i with
 | zero => intro _; exact h0
 | succ i ih =>
  intro h d v e
  obtain ⟨u, hu⟩ := T.put (zGe (show i < ops.size by omega))
  unfold VE at e
  rw [hu, put_get] at e
  by_cases hc : ops[i].dst = some d ∧ d < (X i).1.nt
  ·rw [← (T.nt i (by omega)).1]; exact hc.2
  ·rw [if_neg hc] at e
   exact ih (by omega) d v e
omit [zAc] in
theorem zDk.TL_get (T : zDk P call rd ops X) (h0 : ∀ d v, VE X 0 d = some v → d < (X 0).1.nt) {L : Nat → Prop} (d : Nat) : (TL ops X L).get d = hv (VE X) L ops.size d := by
 simp only [TL, trOf_get]
 by_cases hb : d < (X 0).1.nt
 ·rw [if_pos hb]
 ·rw [if_neg hb]
  obtain ⟨j, hj, h⟩ := hv_mem (V := VE X) (L := L) (b := d) ops.size
  rw [h]
  cases hx : VE X j d with
  | none => rfl
  | some p => exact (hb (T.VE_lt h0 j hj d p hx)).elim
theorem RE.congr {t t' : Env} {nt : Nat} {tmps : Array Value} (h : RE φ t nt tmps) (e : ∀ d, t'.get d = t.get d) : RE φ t' nt tmps :=
 ⟨h.size, fun i v hv => h.some i v (by rw [← e]; exact hv)⟩
def OldB (φ0 : Phi) (s0 : HS) (w0 : World) (r : Nat) : Prop := w0.heap.size ≤ r ∨ ∃ c t x a, s0.h.get c = some (t, x) ∧ x.fixed = false ∧ φ0 c = some a ∧ a.blk = r
structure InvX (φ0 : Phi) (B : Nat) (w0 : World) (ops : Array Oper) (X : Nat → St × List Rec × HS) (L : Nat → Prop) (φ : Phi) (w : World) (tmps : Array Value) : Prop where
 rw : RW φ B (HL ops X L) w
 re : RE φ (TL ops X L) (X 0).1.nt tmps
 le : φ0.le φ
 rng : ∀ b, φ b ≠ φ0 b → ∃ j, L j ∧ (X j).2.2.n ≤ b ∧ b < (X (j + 1)).2.2.n
 os : w.os = w0.os
 tape : w.tape = w0.tape
 output : w.output = w0.output
 size : w0.heap.size ≤ w.heap.size
 heap : ∀ r, r < w0.heap.size → (∀ b t x a, (X 0).2.2.h.get b = some (t, x) → x.fixed = false → φ0 b = some a → a.blk ≠ r) → w.heap[r]? = w0.heap[r]?
 new : ∀ b a, φ b = some a → φ0 b = none → OldB φ0 (X 0).2.2 w0 a.blk
 back : ∀ c t x a, (HL ops X L).h.get c = some (t, x) → x.fixed = false → φ c = some a → OldB φ0 (X 0).2.2 w0 a.blk
omit [Facts] [zAc] in
theorem looks_operand {o : Oper} {d : Tmp} (h : Operand.tmp d ∈ o.op.operands) : d ∈ o.looksAt ops := by
 unfold Oper.looksAt
 refine List.mem_append.2 (.inl (List.mem_filterMap.2 ⟨.tmp d, Array.mem_toList_iff.2 h, rfl⟩))
theorem inv_step (T : zDk P call rd ops X) (hc : zCe P B call) {φ0 : Phi} {w0 : World} (h0 : ∀ d v, VE X 0 d = some v → d < (X 0).1.nt) {L : Nat → Prop} (hL : ∀ j, L j → j < ops.size) (hcl : ∀ i j, L j → Rp (zFc ops.toList []) i j → L i) {i : Nat} {o : Oper} (ho : ops[i]? = some o) (hn : ¬L i) (hp : ∀ k, Rp (zFc ops.toList []) k i → L k)
  {tmps : Array Value} (inv : InvX φ0 B w0 ops X L φ w tmps) (hf : zEj φ0 (X 0).2.2.n (X ops.size).2.2.n) (hB : B ≤ w0.heap.size) (hg : GOk P φ0) {fr : Frame} (hm : fr.mode = .run) (htm : fr.tmps = tmps) {rest : List Nat} {k : List Item} (ht : fr.todo = .inRegion ops (i :: rest) :: k) (cs : List Frame) :
  ∃ ψ w1 tmps1, InvX φ0 B w0 ops X (fun j => L j ∨ j = i) ψ w1 tmps1 ∧ Steps P (lone fr cs w) (lone (zAz fr tmps1 fr.defers (.inRegion ops rest :: k)) cs w1) := by
 have hi := ops_lt ho
 obtain ⟨hup, hsame, _, hcase⟩ := zHn T.tame (T.wf i (by omega)) (T.step i o ho)
 have aH := T.apartH
 have aE := T.apartE
 have hacc : ∀ b, AccX P ops X i b ↔ AccH P ops (zFc ops.toList []) o i (X i).1 (X i).2.1 (X i).2.2 (X (i + 1)).2.2 b := fun b =>
  ⟨fun ⟨o', e, h⟩ => by rw [ho] at e; cases e; exact h, fun h => ⟨o, ho, h⟩⟩
 have hnt := (T.nt i (by omega)).1
 have henv : ∀ d, AccE ops i d → (TL ops X L).get d = (X i).1.t.get d := fun d hd => by
  rw [T.TL_get h0]; exact aE.now hL hcl hi hn hp hd
 have hlook : ∀ d, d ∈ o.looksAt ops → (TL ops X L).get d = (X i).1.t.get d := fun d hd => henv d ⟨o, ho, .inl hd⟩
 have hwanted : zDn ops o (TL ops X L) = zDn ops o (X i).1.t := by
  unfold zDn
  cases hgd : o.guard with
  | none => rfl
  | some p =>
   obtain ⟨j, want⟩ := p
   dsimp only
   have : zKg ops (TL ops X L) j = zKg ops (X i).1.t j := by
    unfold zKg
    cases hd : (ops[j]?).bind (·.dst) with
    | none => rfl
    | some d =>
     simp only [Option.bind_some]
     rw [hlook d (by unfold Oper.looksAt; rw [hgd]; simp [hd])]
   rw [this]
 have hre : RE φ (TL ops X L) (X 0).1.nt fr.tmps := by rw [htm]; exact inv.re
 have hwm : Region.wanted o (yielded ops fr.tmps) = zDn ops o (X i).1.t := by
  have hsu := stepD_sure (T.step i o ho)
  have hsu' : zLy ops o (TL ops X L) = true := by
   unfold zLy at hsu ⊢
   cases hgd : o.guard with
   | none => rfl
   | some p =>
    obtain ⟨j, want⟩ := p
    rw [hgd] at hsu
    dsimp only at hsu ⊢
    cases hd : (ops[j]?).bind (·.dst) with
    | none => rfl
    | some d =>
     rw [hd] at hsu
     dsimp only at hsu ⊢
     rw [hlook d (by unfold Oper.looksAt; rw [hgd]; simp [hd])]
     exact hsu
  rw [wanted_ok hre _ hsu', hwanted]
 have hput : ∀ {χ : Phi} {v : AV} {x : Value}, φ.le χ → RV χ v x → (X (i + 1)).1 = (X i).1.put o.dst v → RE χ (TL ops X (fun j => L j ∨ j = i)) (X 0).1.nt (putT fr.tmps o.dst x) := by
  intro χ v x hle hv hst
  have h1 := (put_ok (st := { t := TL ops X L, nt := (X 0).1.nt, ds := [] }) (dst := o.dst) (hre.mono hle) hv).1
  rw [(put_nt _ _ _).1] at h1
  refine h1.congr fun d => ?_
  rw [T.TL_get h0, put_get]
  obtain ⟨t1, t2⟩ := aE.then (b := d) hL hcl hi hn hp
  by_cases hd : AccE ops i d
  ·rw [t1 hd]
   unfold VE
   rw [hst, put_get, hnt, ← henv d hd]
  ·rw [t2 hd, if_neg (fun e => hd ⟨o, ho, .inr e.1⟩), T.TL_get h0]
 rcases hcase with ⟨hw, hst⟩ | ⟨hw, G, G', hoper, gn, gc, gn', gsub, geff⟩
 ·-- it is not wanted
  have hskip := st_op_skip (P := P) (cs := cs) (w := w) hm ht (by simp [ho, hwm, hw])
  rw [zFj ht, ho] at hskip
  have hnacc : ∀ b, ¬AccX P ops X i b := fun b h => by
   have := ((hacc b).1 h).1
   rw [hw] at this; cases this
  have hget : ∀ b, (HL ops X (fun j => L j ∨ j = i)).h.get b = (HL ops X L).h.get b := fun b => by
   rw [T.HL_get, T.HL_get]; exact (aH.then hL hcl hi hn hp).2 (hnacc b)
  refine ⟨φ, w, _, ⟨inv.rw.sub (fun b p e => by rw [← hget]; exact e) T.HL_wf, hput φ.le_refl (.val undef) hst, inv.le, fun b hb => ?_, inv.os, inv.tape, inv.output, inv.size, inv.heap, inv.new, fun c t x a e => ?_⟩, .one hskip⟩
  ·obtain ⟨j, h1, h2⟩ := inv.rng b hb; exact ⟨j, .inl h1, h2⟩
  ·rw [hget] at e; exact inv.back c t x a e
 ·obtain ⟨v, hval, hst⟩ := oper_inv (T.nd i o ho) hoper
  have hsub : ∀ b p, G.h.get b = some p → (HL ops X L).h.get b = some p := fun b p e => by
   obtain ⟨e1, e2⟩ := gsub b p e
   rw [T.HL_get, aH.now hL hcl hi hn hp ((hacc b).2 e2)]; exact e1
  have hGwf : ∀ b t x, G.h.get b = some (t, x) → b < G.n ∧ t ≤ G.clk := fun b t x e => by
   rw [gn, gc]; exact T.wf i (by omega) _ _ _ (gsub b _ e).1
  have hRG := inv.rw.sub hsub hGwf
  have hfree : zEj φ G.n G'.n := fun b hb hb' => by
   have : φ b = φ0 b := Classical.byContradiction fun hne => by
    obtain ⟨j, hj, j1, j2⟩ := inv.rng b hne
    have hji : j ≠ i := by rintro rfl; exact hn hj
    rw [gn] at hb; rw [gn'] at hb'
    rcases (by omega : j < i ∨ i < j) with h | h
    ·have := (T.up i (j + 1) (by omega) (by omega)).n; omega
    ·have := (T.up j (i + 1) (by omega) (by have := hL j hj; omega)).n; omega
   rw [this]
   have h1 := (T.up i 0 (by omega) (by omega)).n
   have h2 := (T.up ops.size (i + 1) (by omega) (by omega)).n
   exact hf b (by omega) (by omega)
  have hev := ev_ok (P := P) hre (hg.mono inv.le)
  have hvc : valOf P call (evA P.globals.size (TL ops X L)) o = valOf P call (evA P.globals.size (X i).1.t) o := valOf_congr fun x hx => by
   cases x with
   | tmp d => simp only [evA, hlook d (looks_operand hx)]
   | const c => rfl
   | global g => rfl
   | func f => rfl
  have hrun := val_ok (N := G'.n) hc hRG (Nat.le_trans hB inv.size) hfree (hg.mono inv.le) cs hev o (T.nd i o ho)
  rw [hvc, hval] at hrun
  obtain ⟨ψ, w1, x, q1, q2, q3⟩ := hrun (Nat.le_refl _)
  have hstep := q3 ops i rest k hm ht ho (by rw [hwm, hw])
  rw [zFj ht, ho] at hstep
  have hnewB : ∀ b a, ψ b = some a → φ b = none → OldB φ0 (X 0).2.2 w0 a.blk := fun b a e e' => by
   rcases q1.new b a e e' with h | ⟨c, t, y, a', e1, e2, e3, e4⟩
   ·exact .inl (Nat.le_trans inv.size h)
   ·rw [← e4]; exact inv.back c t y a' (hsub _ _ e1) e2 e3
  have hH : ∀ b p, (HL ops X (fun j => L j ∨ j = i)).h.get b = some p → G'.h.get b = some p ∨ ((HL ops X L).h.get b = some p ∧ G.h.get b = none) := fun b p e => by
   rw [T.HL_get] at e
   obtain ⟨t1, t2⟩ := aH.then (b := b) hL hcl hi hn hp
   by_cases ha : AccX P ops X i b
   ·rw [t1 ha] at e
    exact .inl (geff b p ((hacc b).1 ha) e)
   ·rw [t2 ha] at e
    refine .inr ⟨by rw [T.HL_get]; exact e, ?_⟩
    cases hgb : G.h.get b with
    | none => rfl
    | some p' => exact (ha ((hacc b).2 (gsub b p' hgb).2)).elim
  refine ⟨ψ, w1, _, ⟨frame_ok inv.rw q1 hsub hfree hH T.HL_wf, hput q1.le q2 hst, Phi.le_trans inv.le q1.le, fun b hb => ?_, q1.fr.os.trans inv.os, q1.fr.tape.trans inv.tape, q1.fr.output.trans inv.output, Nat.le_trans inv.size q1.fr.size, fun r hr hno => ?_, fun b a e e' => ?_, fun c t y a e hy ha => ?_⟩, hstep⟩
  ·by_cases h : ψ b = φ b
   ·rw [h] at hb
    obtain ⟨j, h1, h2⟩ := inv.rng b hb; exact ⟨j, .inl h1, h2⟩
   ·have := q1.rng b h
    rw [gn, gn'] at this
    exact ⟨i, .inr rfl, this⟩
  ·rw [q1.fr.heap r (Nat.lt_of_lt_of_le hr inv.size) (fun c t y a hcg hy ha he => ?_), inv.heap r hr hno]
   rcases inv.back c t y a (hsub _ _ hcg) hy ha with h | ⟨d, t', y', a', g1, g2, g3, g4⟩
   ·omega
   ·exact hno d t' y' a' g1 g2 g3 (g4.trans he)
  ·cases hφ : φ b with
   | none => exact hnewB b a e hφ
   | some a1 =>
    have := q1.le _ _ hφ
    rw [e] at this; cases this
    exact inv.new b a hφ e'
  ·cases hφ : φ c with
   | none => exact hnewB c a ha hφ
   | some a1 =>
    have := q1.le _ _ hφ
    rw [ha] at this; cases this
    rcases hH _ _ e with e | ⟨e, _⟩
    ·obtain ⟨t0, x0, e0, f0⟩ := q1.was hfree e hφ
     exact inv.back c t0 x0 a (hsub _ _ e0) (f0 hy) hφ
    ·exact inv.back c t y a e hy hφ
theorem sched_ok (T : zDk P call rd ops X) (hc : zCe P B call) {φ0 : Phi} {w0 : World} (h0 : ∀ d v, VE X 0 d = some v → d < (X 0).1.nt) (hf : zEj φ0 (X 0).2.2.n (X ops.size).2.2.n) (hB : B ≤ w0.heap.size) (hg : GOk P φ0) {k : List Item} (cs : List Frame) {L : Nat → Prop} {l : List Nat} (hs : Sched ops L l) :
  ∀ (φ : Phi) (w : World) (fr : Frame), (∀ j, L j → j < ops.size) → (∀ i j, L j → Rp (zFc ops.toList []) i j → L i) → InvX φ0 B w0 ops X L φ w fr.tmps → fr.mode = .run → fr.todo = .inRegion ops l :: k →
  ∃ ψ w1 tmps1 L', (∀ i, i < ops.size → L' i) ∧ (∀ i, L' i → i < ops.size) ∧ InvX φ0 B w0 ops X L' ψ w1 tmps1 ∧ Steps P (lone fr cs w) (lone (zAz fr tmps1 fr.defers k) cs w1) := by
 induction hs with
 | @nil L h =>
  intro φ w fr hL hcl inv hm ht
  exact ⟨φ, w, fr.tmps, L, h, hL, inv, .one (zLz hm ht)⟩
 | @cons L i l o ho hn he hs ih =>
  intro φ w fr hL hcl inv hm ht
  have hp := Rp_closed T.ed hcl ho he
  obtain ⟨ψ, w1, tmps1, inv1, st1⟩ := inv_step T hc h0 hL hcl ho hn hp inv hf hB hg hm rfl ht cs
  obtain ⟨χ, w2, tmps2, L', g1, g0, g2, g3⟩ := ih ψ w1 (zAz fr tmps1 fr.defers (.inRegion ops l :: k)) (fun j hj => by
   rcases hj with hj | hj
   ·exact hL j hj
   ·subst hj; exact ops_lt ho) (fun a b hb hab => by
   rcases hb with hb | hb
   ·exact .inl (hcl a b hb hab)
   ·subst hb; exact .inl (hp a hab)) inv1 hm rfl
  exact ⟨χ, w2, tmps2, L', g1, g0, g2, st1.trans g3⟩
omit [Facts] [zAc] in
theorem noAsk_wp {α : Type} {m : M α} {s : HS} {Q : α → HS → Prop} (h : ∀ a s', m s = .ok a s' → Q a s') : (noAsk m s).wp Q := by
 unfold noAsk
 cases e : m s with
 | ok a s' => exact h a s' e
 | bad w => trivial
 | ask n k => trivial
theorem zEu (hc : zCe P B call) : zFk P B call := by
 intro lo rd ops k cs N id st s φ w fr h hB hf hg hr ht
 unfold region
 rw [runD_eq]
 refine zAo (fun _ => ?_) (fun h => by cases h)
 refine zAo (fun hok => ?_) (fun _ => zAa)
 simp only [Bool.and_eq_true] at hok
 obtain ⟨⟨⟨hreg, hnd⟩, hmix⟩, hot⟩ := hok
 refine noAsk_wp fun st' s' hrun hN => ?_
 have hup : Up s s' := by
  have := zAb.runOpsD P hc.tame rd.isSome ops (zFc ops.toList []) ops.toList 0 st [] s h.wf
  rw [hrun] at this; exact this
 obtain ⟨X, x0, x1, x2, x3⟩ := runOpsD_trace hrun
 have hlen : ops.toList.length = ops.size := by simp
 rw [hlen] at x2 x3
 simp only [regOk, Bool.and_eq_true, List.all_eq_true] at hreg
 have hopen : ∀ (i j : Nat) (a b : Oper), i < j → ops[i]? = some a → ops[j]? = some b → ¬Rp (zFc ops.toList []) i j → (i, j) ∈ zIf (zFc ops.toList []) ops.size := fun i j a b hij ha hb hn => openPairs_mem hij hn (ops_lt hb)
 have T : zDk P call rd.isSome ops X := by
  refine ⟨hc.tame, hreg.1.1, fun i o ho c e => ?_, fun i j a b hij ha hb hn => ?_, fun i j a b hij ha hb hn => ?_, by rw [x0]; exact h.wf, fun i o ho => ?_⟩
  ·simp only [noDefer, List.all_eq_true] at hnd
   have := hnd o (Array.mem_toList_iff.2 (Array.mem_of_getElem? ho))
   rw [e] at this; simp at this
  ·have := hreg.2 (i, j) (hopen i j a b hij ha hb hn)
   simp only [ha, hb] at this
   exact this
  ·simp only [othersOk, List.all_eq_true] at hot
   have := hot (i, j) (hopen i j a b hij ha hb hn)
   simp only [ha, hb, Bool.or_eq_true] at this
   rcases this with ((((h | h) | h) | h) | h) | h
   ·exact .inl h
   ·exact .inr (.inl h)
   ·exact .inr (.inr (.inl h))
   ·exact .inr (.inr (.inr (.inl h)))
   ·exact .inr (.inr (.inr (.inr (.inl h))))
   ·exact .inr (.inr (.inr (.inr (.inr h))))
  ·have := x1 i o (by simpa using ho)
   rw [Nat.zero_add] at this
   exact this
 have h0 : ∀ d v, VE X 0 d = some v → d < (X 0).1.nt := fun d v e => by
  unfold VE at e; rw [x0] at e ⊢; exact (hr.re.some d v e).1
 have hz : ∀ {α β : Type} (V : Nat → α → Option β) (b : α) (m : Nat), hv V (fun _ => False) m b = V 0 b := by
  intro α β V b m
  exact hv_none (L := fun _ => False) (m := 0) (by omega) (fun _ _ _ hf => False.elim hf)
 have inv0 : InvX φ B w ops X (fun _ => False) φ w fr.tmps := by
  refine ⟨h.sub (fun b p e => ?_) T.HL_wf, by
   rw [x0]
   refine hr.re.congr fun d => ?_
   rw [T.TL_get h0, hz]; unfold VE; rw [x0], φ.le_refl, fun b hb => (hb rfl).elim, rfl, rfl, rfl, Nat.le_refl _, fun _ _ _ => rfl, fun b a e e' => (by rw [e] at e'; cases e'), fun c t x a e hx ha => ?_⟩
  ·rw [T.HL_get, hz] at e; unfold VH at e; rw [x0] at e; exact e
  ·rw [T.HL_get, hz] at e; unfold VH at e
   exact .inr ⟨c, t, x, a, e, hx, ha, rfl⟩
 have hdraw := st_region_draw (P := P) (cs := cs) (w := w) hr.mode ht
 rw [hmix] at hdraw
 have inv0' : InvX φ B w ops X (fun _ => False) φ { w with drawn := w.drawn + 1 } fr.tmps :=
  ⟨⟨fun b t x e => by obtain ⟨a, e1, e2, e3⟩ := inv0.rw.blk b t x e; exact ⟨a, e1, e2.of_heap rfl, e3⟩, inv0.rw.inj, inv0.rw.lt⟩, inv0.re, inv0.le, inv0.rng, rfl, rfl, rfl, Nat.le_refl _, fun _ _ _ => rfl, inv0.new, inv0.back⟩
 have hfree : zEj φ (X 0).2.2.n (X ops.size).2.2.n := by
  rw [x0, x3]; exact hf.mono (Nat.le_refl _) hN
 obtain ⟨ψ, w1, tmps1, L', g1, g0, g2, g3⟩ := sched_ok T hc h0 hfree hB hg (k := k) cs (sched_schedule hreg.1.1 (w.tape w.drawn (.order fr.fn id))) φ { w with drawn := w.drawn + 1 }
  { fr with todo := .inRegion ops (Region.schedule true ops (w.tape w.drawn (.order fr.fn id))) :: k } (fun _ h => h.elim) (fun _ _ h => h.elim) inv0' hr.mode rfl
 have hHL : ∀ b, (HL ops X L').h.get b = s'.h.get b := fun b => by
  rw [T.HL_get, hv_all (fun j hj _ => g1 j hj)]; unfold VH; rw [x3]
 have hTL : ∀ d, (TL ops X L').get d = st'.t.get d := fun d => by
  rw [T.TL_get h0, hv_all (fun j hj _ => g1 j hj)]; unfold VE; rw [x2]
 have hnt := T.nt ops.size (Nat.le_refl _)
 rw [x2, x0] at hnt
 have stp : Stp φ B s w ψ s' w1 := by
  refine ⟨g2.le, fun b hb => ?_, fun b a e e' => ?_, g2.rw.sub (fun b p e => by rw [hHL]; exact e) hup.wf, ⟨g2.os, g2.tape, g2.output, g2.size, fun r hr' hno => ?_⟩, hup⟩
  ·obtain ⟨j, h1, h2, h3⟩ := g2.rng b hb
   have hj : j < ops.size := g0 j h1
   have k1 := (T.up j 0 (by omega) (by omega)).n
   have k2 := (T.up ops.size (j + 1) (by omega) (by omega)).n
   rw [x0] at k1; rw [x3] at k2
   simp only at k1
   omega
  ·have := g2.new b a e e'
   rw [x0] at this; exact this
  ·have := g2.heap r hr'
   rw [x0] at this
   exact this hno
 refine ⟨ψ, w1, tmps1, fr.defers, stp, ?_, ?_, .head hdraw g3⟩
 ·rw [hnt.1]
  have := g2.re.congr (t' := st'.t) (fun d => (hTL d).symm)
  rw [x0] at this; exact this
 ·rw [hnt.2]; exact hr.ds.step stp (hf.mono (Nat.le_refl _) hN)
end
end
end Go.Abs
