/- Code, bodies, rounds and calls, as they are read, are what the machine does. No conditions. -/
import Derived.Test.YtaliacnncemneaaGreatSAbsC
import Derived.RangeFuncLeaves
import Derived.RangeFuncRecord
import Derived.Laws.Sem
import Derived.ChangeSame
import Derived.RowKit3
import Derived.WideKeyArgs
import Derived.OpenShut
import Derived.RowKit
import Derived.WalkKit
import Derived.ProofKit
import Derived.DeepKeys2
import Derived.LaidMore
import Derived.ChangeArms
import Derived.ChangeSlices
namespace Go.Abs
noncomputable section
variable [Facts] [zAc]
section
variable {P : Program} {φ ψ : Phi} {B N : Nat} {s s' : HS} {w w' : World}
omit [Facts] [zAc] in
theorem zOg {fr : Frame} {cs : List Frame} {k : List Item} {f : Operand} {ps : Array Tmp} {a b : Code} {l : Nat} {mark : List Deferred} {w1 : World} {nx : Next} {F : Frame} (hm : fr.mode = .run) (ht : fr.todo = .code (.rangeFunc f ps a b) :: k)
  (he : (Instr.enterLoop fr.fn fr.tmps ps a b fr.roundOf).run P w = .ok (l, mark) w1) {d : Deferred} (hd : (Deferred.ofValue (fr.eval f) #[.func (.yield l) #[] #[]]).run P w1 = .ok d w1) (hi : (invoke d.target d.args).run P w1 = .ok nx w1)
  (hn : (∃ g xs, nx = .enter g xs ∧ F = Frame.enter P g xs .normal) ∨ (∃ l' f' tm a' b', nx = .round l' f' tm a' b' ∧ F = Frame.round l' f' tm a' b' .normal)) :
  step P (lone fr cs w) = .next (lone F ({ fr with todo := .inRangeFunc l :: k, defers := mark ++ fr.defers } :: cs) w1) := by
 have hres : ∀ fr1 : Frame, fr1.tmps = fr.tmps → (resolve fr1.eval { callee := .value f, args := #[.const (.func (.yield l) #[] #[])], argTypes := #[] } 0).run P w1 = .ok d w1 := by
  intro fr1 h1
  have hf : fr1.eval f = fr.eval f := by cases f <;> simp [Frame.eval, h1]
  have e1 : resolve fr1.eval { callee := .value f, args := #[.const (.func (.yield l) #[] #[])], argTypes := #[] } 0 = Deferred.ofValue (fr.eval f) #[.func (.yield l) #[] #[]] := by
   have h2 : ∀ v, fr1.eval (.const v) = v := fun v => rfl
   simp [resolve, hf, h2]
  rw [e1]; exact hd
 have hres1 := hres { fr with mode := .run, todo := .inRangeFunc l :: k, defers := mark ++ fr.defers } rfl
 refine step_lone_go ?_
 rcases hn with ⟨g, xs, rfl, rfl⟩ | ⟨l', f', tm, a', b', rfl, rfl⟩
 ·simp [stepG, stepG.exec, hm, ht, he, stepG.apply, hres1, hi]
 ·simp [stepG, stepG.exec, hm, ht, he, stepG.apply, hres1, hi]
omit [Facts] [zAc] in
theorem st_endRangeFunc {fr : Frame} {cs : List Frame} {k : List Item} {l : Nat} {r : Loop} (hm : fr.mode = .run) (ht : fr.todo = .endRangeFunc l :: k) (hl : w.heap[l]? = some (.loop r)) (hs : r.state ≠ .busy) :
  step P (lone fr cs w) = .next (lone { fr with todo := (r.pending.map Item.code).toList ++ k } cs { w with heap := w.heap.setIfInBounds l (.loop { r with state := .exhausted }) }) := by
 refine step_lone_go ?_
 have h1 : (getObj l).run P w = .ok (.loop r) w := zBl hl (by intros; simp)
 have h2 := zCm (P := P) (o' := .loop { r with state := .exhausted }) hl (by intros; simp)
 have hb : (r.state == LoopState.busy) = false := by simpa using hs
 have h3 : (Instr.endLoop l).run P w = .ok r.pending { w with heap := w.heap.setIfInBounds l (.loop { r with state := .exhausted }) } := by
  simp only [Instr.endLoop, Instr.getLoop, Sem.run_bind, h1, Result.andThen_ok, Sem.run_pure, hb, Bool.false_eq_true, if_false, h2]
 simp [stepG, stepG.exec, hm, ht, h3]
theorem RD.append {l m : List ADef} {r q : List Deferred} {y z : List Nat} {lo : Nat} (h : RD P φ lo l r y) (h' : RD P φ lo m q z) : RD P φ lo (l ++ m) (r ++ q) (y ++ z) := by
 induction h with
 | nil => exact h'
 | call hx hi _ ih => exact .call hx hi ih
 | coll ha hlo _ ih => exact .coll ha hlo ih
 | rest _ ih =>
  rw [List.append_assoc]
  exact .rest ih
 | many _ ih =>
  rw [List.append_assoc, List.append_assoc]
  exact .many ih
theorem RDw.append {lo : Nat} {l m : List ADef} {r q : List Deferred} (h : RD P φ lo l r []) (h' : RDw P φ s w lo m q) : RDw P φ s w lo (l ++ m) (r ++ q) := by
 obtain ⟨h0, z, h1, h2, h3⟩ := h'
 exact ⟨h0, z, h.append h1, h2, h3⟩
theorem enterA_ok {lo : Nat} {rd : Option Nat} {fn : FuncId} {st : St} {fr : Frame} {ps : Array Tmp} {a b : Code} (h : RW φ B s w) (hB : B ≤ w.heap.size) (hf : zEj φ s.n N) (hr : RF P φ s w lo rd st fr) (hfn : fr.fn = fn) :
  (enterA rd fn st ps a b s).wp fun q s1 => s1.n ≤ N → ∃ ψ w1 al mk, Stp φ B s w ψ s1 w1 ∧ ψ q.1 = some al ∧ RD P ψ w.heap.size q.2 mk [] ∧ (Instr.enterLoop fr.fn fr.tmps ps a b fr.roundOf).run P w = .ok (al.blk, mk) w1 := by
 unfold enterA
 cases rd with
 | none =>
  refine wp_bind (zHy fun hx1 => wp_bind (zHy fun hx2 => zAh fun hN => ?_))
  simp only at hN
  have hf1 := hf s.n (Nat.le_refl _) (by omega)
  have st1 := zIv (cap := 0) (x := .dfr) (w' := { w with heap := w.heap.push (.deferred (some [])) }) h hB hf1 rfl rfl rfl rfl (by simp) (fun r hr => zGz w _ r hr) (by simp [RB])
  have hf2 : (φ.put s.n ⟨w.heap.size, 0, 0⟩) (s.n + 1) = none := st1.free hf (s.n + 1) (Nat.le_refl _) (by omega)
  have hle2 := Phi.le_put hf2 ⟨w.heap.size + 1, 0, 0⟩
  have st2 := zIv (cap := 0) (x := .loop .ready none fn st.t st.nt ps a b s.n) (w' := { w with heap := (w.heap.push (.deferred (some []))).push (.loop { state := .ready, pending := none, fn := fn, tmps := fr.tmps, params := ps, assign := a, body := b, defers := w.heap.size }) }) st1.rw (by simp; omega) hf2 rfl rfl rfl rfl (by simp) (fun r hr => zGz _ _ r hr) (by
   simp only [Array.size_push] at hle2 ⊢
   exact ⟨fr.tmps, ⟨w.heap.size, 0, 0⟩, hle2 _ _ (Phi.put_self _ _ _), (hr.re.mono (Phi.le_trans st1.le hle2)), by rw [show w.heap.size + 1 = (w.heap.push (Obj.deferred (some []))).size by simp, Array.getElem?_push_size]⟩)
  refine ⟨_, _, ⟨w.heap.size + 1, 0, 0⟩, [{ target := .collected w.heap.size, args := #[] }], st1.trans st2 (fun b hb hb' => by simp only at hb'; exact hf b hb (by omega)), by simp [Phi.put], ?_, ?_⟩
  ·exact RD.coll (a := ⟨w.heap.size, 0, 0⟩) (by have := hle2 _ _ (Phi.put_self φ s.n ⟨w.heap.size, 0, 0⟩); simpa using this) (Nat.le_refl _) .nil
  ·have hrn : fr.roundOf = none := hr.round
   subst hfn
   simp only [Instr.enterLoop, hrn, Sem.run_bind, run_newObj, Result.andThen_ok, Sem.run_pure, Array.size_push]
 | some l0 =>
  refine wp_bind (zBo fun tt y hy => ?_)
  obtain ⟨a0, ha0, hrb, hBy⟩ := h.blk l0 tt y hy
  obtain ⟨a0', ha0', hro⟩ := hr.round
  rw [ha0] at ha0'; cases ha0'
  cases y <;> first | exact zAa | skip
  rename_i sst pend fn0 env0 nt0 ps0 as0 bd0 d0
  obtain ⟨tm0, da, hda, hre0, hheap⟩ := hrb
  refine wp_bind (zHy fun hx2 => zAh fun hN => ?_)
  simp only at hN
  have hf1 := hf s.n (Nat.le_refl _) (by omega)
  have hle := Phi.le_put hf1 ⟨w.heap.size, 0, 0⟩
  have st1 := zIv (cap := 0) (x := .loop .ready none fn st.t st.nt ps a b d0) (w' := { w with heap := w.heap.push (.loop { state := .ready, pending := none, fn := fn, tmps := fr.tmps, params := ps, assign := a, body := b, defers := da.blk }) }) h hB hf1 rfl rfl rfl rfl (by simp) (fun r hr => zGz w _ r hr)
   ⟨fr.tmps, da, hle _ _ hda, hr.re.mono hle, by simp⟩
  refine ⟨_, _, ⟨w.heap.size, 0, 0⟩, [], st1, Phi.put_self _ _ _, .nil, ?_⟩
  subst hfn
  have hobj := zBl (P := P) hheap (by intros; simp)
  simp only [Instr.enterLoop, hro, Instr.getLoop, Sem.run_bind, hobj, run_newObj, Result.andThen_ok, Sem.run_pure]
theorem rangeFunc_ok [zDa] {call : Tgt → List AV → M AV} (hc : zCe P B call) {lo : Nat} {rd : Option Nat} {fn : FuncId} {cs : List Frame} {n : Nat} {f : Operand} {ps : Array Tmp} {a b : Code} {st : St} {fr : Frame} {k : List Item}
  (h : RW φ B s w) (hB : B ≤ w.heap.size) (hf : zEj φ s.n N) (hg : GOk P φ) (hr : RF P φ s w lo rd st fr) (hfn : fr.fn = fn) (ht : fr.todo = .code (.rangeFunc f ps a b) :: k) :
  (code P call rd fn (n + 1) (.rangeFunc f ps a b) st s).wp fun p s' => zIc P φ B N lo s w (lone fr cs w) fr k cs p.1 p.2 s' := by
 unfold code
 dsimp only
 refine zHt (zAb.enterA _ _ _ _ _ _) (fun _ => ?_) h.wf (enterA_ok h hB hf hr hfn) ?_
 ·repeat' (first | exact zAb.pure _ | exact zAb.fail _ | exact zAb.getB _ | exact zAb.setB _ _ | exact zAb.delB _ | exact hc.tame _ _ | refine zAb.bif ?_ ?_ | refine zAb.bind ?_ (fun _ => ?_) | split)
 rintro ⟨l, mark⟩ s1 ⟨ψ, w1, al, mk, q1, q2, q3, q4⟩ hN1 hup
 dsimp only
 have hev := ev_ok (P := P) (hr.re.mono q1.le) (hg.mono q1.le)
 cases hv : evA P.globals.size st.t f with
 | none => exact zAa
 | some v =>
  dsimp only
  cases htg : zHu P v [.yl l] with
  | none => exact zAa
  | some p =>
   obtain ⟨t, as⟩ := p
   dsimp only
   have hB1 := Nat.le_trans hB q1.fr.size
   have hra : RL ψ [.yl l] (#[.func (.yield al.blk) #[] #[]] : Array Value).toList := .cons (.yl q2) .nil
   have hfin : ∀ x, ({ fr with todo := .inRangeFunc al.blk :: k, defers := mk ++ fr.defers } : Frame).finish x = zAz fr fr.tmps (mk ++ fr.defers) (.endRangeFunc al.blk :: k) := fun x => by
    simp [Frame.finish, zAz]
   have key : (call t as s1).wp fun _ s2 => s2.n ≤ N → ∃ χ w2, Stp ψ B s1 w1 χ s2 w2 ∧ Steps P (lone fr cs w) (lone (zAz fr fr.tmps (mk ++ fr.defers) (.endRangeFunc al.blk :: k)) cs w2) := by
    rcases target_ok (P := P) (hev _ _ hv) hra htg with ⟨g, xs, fv, cap, d, rfl, hxs, hd, hi⟩ | ⟨l', a', rfl, rfl, ha, hd, hi⟩
    ·refine R.wp_mono ?_ (hc.f g as s1 N ψ w1 xs .normal ({ fr with todo := .inRangeFunc al.blk :: k, defers := mk ++ fr.defers } :: cs) rfl q1.rw hB1 (q1.free hf) (hg.mono q1.le) hxs)
     intro v' s2 hq hN
     obtain ⟨χ, w2, x, p1, p2, p3⟩ := hq hN
     refine ⟨χ, w2, p1, ?_⟩
     obtain ⟨fr', fn', e1, e2, e3, e4, e5, e6⟩ := p3.ret
     have hst := zOg (P := P) (cs := cs) (w := w) (F := Frame.enter P g xs .normal) hr.mode ht q4 (hd w1) ((hi w1).trans (p3.run w1)) (.inl ⟨g, xs, rfl, rfl⟩)
     have := zLl (c := { fr with todo := .inRangeFunc al.blk :: k, defers := mk ++ fr.defers }) (cs := cs) e2 e3 e4 e5 e6.1
     rw [hfin] at this
     exact .head hst (e1.trans (.one this))
    ·refine R.wp_mono ?_ (hc.y l' _ s1 N ψ w1 #[.func (.yield al.blk) #[] #[]] { fr with todo := .inRangeFunc al.blk :: k, defers := mk ++ fr.defers } cs q1.rw hB1 (q1.free hf) (hg.mono q1.le) hra)
     intro v' s2 hq hN
     obtain ⟨χ, w2, x, p1, p2, p3⟩ := hq hN
     refine ⟨χ, w2, p1, ?_⟩
     obtain ⟨f', tm, a2, b2, g1, g2⟩ := p3 a' ha
     have hst := zOg (P := P) (cs := cs) (w := w) (F := Frame.round a'.blk f' tm a2 b2 .normal) hr.mode ht q4 (hd w1) ((hi w1).trans g1) (.inr ⟨a'.blk, f', tm, a2, b2, rfl, rfl⟩)
     have := g2
     rw [hfin] at this
     exact .head hst this
   refine zHt (hc.tame _ _) (fun _ => ?_) q1.rw.wf key ?_
   ·repeat' (first | exact zAb.pure _ | exact zAb.fail _ | exact zAb.getB _ | exact zAb.setB _ _ | exact zAb.delB _ | refine zAb.bif ?_ ?_ | refine zAb.bind ?_ (fun _ => ?_) | split)
   rintro _ s2 ⟨χ, w2, p1, p2⟩ hN2 hup2
   refine wp_bind (zBo fun tt y hy => ?_)
   obtain ⟨a2, ha2, hrb, hBy⟩ := p1.rw.blk l tt y hy
   have := p1.le _ _ q2
   rw [ha2] at this; cases this
   cases y <;> first | exact zAa | skip
   rename_i sst pend fn0 env0 nt0 ps0 as0 bd0 d0
   obtain ⟨tm0, da, hda, hre0, hheap⟩ := hrb
   dsimp only
   cases hpe : zNy pend with
   | none => exact zAa
   | some e =>
    dsimp only
    refine zAo (fun _ => zAa) (fun hbusy => wp_bind (zEe fun t0 y0 hy0 hfx hfx' hlim => wp_bind (zKb fun t1 y1 hy1 hf1 hl1 => zAh fun hN => ?_)))
    have st3 := zHa (o' := .loop { state := .exhausted, pending := pend, fn := fn0, tmps := tm0, params := ps0, assign := as0, body := bd0, defers := da.blk }) (x := .loop .exhausted pend fn0 env0 nt0 ps0 as0 bd0 d0) p1.rw hy rfl rfl hlim ha2 ⟨tm0, da, hda, hre0, set_self (by exact (Array.getElem?_eq_some_iff.1 hheap).1) _⟩
    have st4 := zJb st3.rw hy1 hf1 hl1
    have hbusy' : sst ≠ .busy := by rintro rfl; cases hbusy
    have hst := st_endRangeFunc (P := P) (cs := cs) (w := w2) (k := k) (l := al.blk) (fr := zAz fr fr.tmps (mk ++ fr.defers) (.endRangeFunc al.blk :: k)) hr.mode rfl hheap hbusy'
    have stp := ((q1.trans p1 (hf.mono (Nat.le_refl _) hN1)).trans st3 (hf.mono (Nat.le_refl _) hN2)).trans st4 (hf.mono (Nat.le_refl _) hN2)
    refine ⟨χ, _, fr.tmps, mk ++ fr.defers, stp, hr.re.mono stp.le, RDw.append ((q3.mono p1.le).lower hr.ds.le0) (hr.ds.step stp (hf.mono (Nat.le_refl _) hN)), ?_⟩
    have hall := p2.trans (.one hst)
    unfold zNy at hpe
    split at hpe <;> cases hpe
    ·exact hall
    ·exact ⟨[], rfl, hall⟩
    ·exact ⟨k, hall⟩
inductive Sub : Code → Code → Prop
 | refl (c : Code) : Sub c c
 | seqL {a b c : Code} (h : Sub (.seq a b) c) : Sub a c
 | seqR {a b c : Code} (h : Sub (.seq a b) c) : Sub b c
 | condL {o : Operand} {a b c : Code} (h : Sub (.cond o a b) c) : Sub a c
 | condR {o : Operand} {a b c : Code} (h : Sub (.cond o a b) c) : Sub b c
 | block {id : Nat} {b c : Code} (h : Sub (.block id b) c) : Sub b c
 | loop {b c : Code} (h : Sub (.loop b) c) : Sub b c
 | scope {b c : Code} (h : Sub (.scope b) c) : Sub b c
def InFn (P : Program) (rd : Option Nat) (fn : FuncId) (c : Code) : Prop :=
 rd = none → ∃ func body, P.funcs[fn]? = some func ∧ func.body = some body ∧ Sub c body
omit [Facts] [zAc] in
theorem InFn.to {rd : Option Nat} {fn : FuncId} {c d : Code} (h : InFn P rd fn c) (k : ∀ body, Sub c body → Sub d body) : InFn P rd fn d := fun e =>
 let ⟨func, body, h1, h2, h3⟩ := h e; ⟨func, body, h1, h2, k _ h3⟩
def zFu [zDa] (P : Program) (B : Nat) : Prop :=
 ∀ fn key f, zDa.sum fn key = some f → ∀ b func body, P.funcs[fn]? = some func → func.body = some body → Sub (.loop b) body → keyOf b = key →
  ∀ (N lo : Nat) (cs : List Frame) (st : St) (s : HS) (φ : Phi) (w : World) (fr : Frame) (k : List Item), RW φ B s w → B ≤ w.heap.size → zEj φ s.n N → GOk P φ → RF P φ s w lo none st fr → fr.fn = fn → fr.todo = .code b :: .inLoop b :: k →
   (f st s).wp fun p s' => zIc P φ B N lo s w (lone fr cs w) fr k cs p.1 p.2 s'
set_option maxHeartbeats 1000000 in
theorem code_ok [zDa] [zGs] (hlo : zFu P B) {call : Tgt → List AV → M AV} (hc : zCe P B call) (hd : zFk P B call) (lo : Nat) (rd : Option Nat) (fn : FuncId) (cs : List Frame) : ∀ (n : Nat),
  (∀ (c : Code) (st : St) (s : HS) (φ : Phi) (w : World) (fr : Frame) (k : List Item), RW φ B s w → B ≤ w.heap.size → zEj φ s.n N → GOk P φ → RF P φ s w lo rd st fr → fr.fn = fn → InFn P rd fn c → fr.todo = .code c :: k →
   (code P call rd fn n c st s).wp fun p s' => zIc P φ B N lo s w (lone fr cs w) fr k cs p.1 p.2 s') ∧
  (∀ (b : Code) (st : St) (s : HS) (φ : Phi) (w : World) (fr : Frame) (k : List Item), RW φ B s w → B ≤ w.heap.size → zEj φ s.n N → GOk P φ → RF P φ s w lo rd st fr → fr.fn = fn → InFn P rd fn (.loop b) → fr.todo = .code b :: .inLoop b :: k →
   (code P call rd fn n (.loop b) st s).wp fun p s' => zIc P φ B N lo s w (lone fr cs w) fr k cs p.1 p.2 s') := by
 intro n
 induction n with
 | zero => exact ⟨fun c st s φ w fr k _ _ _ _ _ _ _ _ => zAa, fun b st s φ w fr k _ _ _ _ _ _ _ _ => zAa⟩
 | succ n ih =>
  obtain ⟨ihA, ihB⟩ := ih
  have tame := zAb.code P hc.tame rd fn n
  have loopB : ∀ (b : Code) (st : St) (s : HS) (φ : Phi) (w : World) (fr : Frame) (k : List Item), RW φ B s w → B ≤ w.heap.size → zEj φ s.n N → GOk P φ → RF P φ s w lo rd st fr → fr.fn = fn → InFn P rd fn (.loop b) → fr.todo = .code b :: .inLoop b :: k →
    (code P call rd fn (n + 1) (.loop b) st s).wp fun p s' => zIc P φ B N lo s w (lone fr cs w) fr k cs p.1 p.2 s' := by
   intro b st s φ w fr k h hB hf hg hr hfn hin ht
   unfold code
   dsimp only
   cases hls : loopSum rd fn b with
   | some f =>
    cases rd with
    | some l => cases hls
    | none =>
     obtain ⟨func, body, g1, g2, g3⟩ := hin rfl
     exact hlo fn (keyOf b) f hls b func body g1 g2 g3 rfl N lo cs st s φ w fr k h hB hf hg hr hfn ht
   | none =>
   dsimp only
   refine zHt (tame _ _) (fun p => by obtain ⟨e, st1⟩ := p; cases e <;> first | exact tame _ _ | exact zAb.pure _) h.wf (ihA b st s φ w fr (.inLoop b :: k) h hB hf hg hr hfn (hin.to fun _ => .loop) ht) ?_
   rintro ⟨e, st1⟩ s1 ⟨ψ, w1, tmps, ds, q1, q2, q3, q4⟩ hN1 hup
   cases e with
   | normal =>
    have hst := st_inLoop (P := P) (cs := cs) (w := w1) (fr := zAz fr tmps ds (.inLoop b :: k)) hr.mode rfl
    refine R.wp_mono ?_ (ihB b st1 s1 ψ w1 (zAz fr tmps ds (.code b :: .inLoop b :: k)) k q1.rw (Nat.le_trans hB q1.fr.size) (q1.free hf) (hg.mono q1.le) (hr.of q1.le q2 q3) hfn hin rfl)
    intro p s2 hq hN2
    obtain ⟨χ, w2, tmps2, ds2, p1, p2, p3, p4⟩ := hq hN2
    exact ⟨χ, w2, tmps2, ds2, q1.trans p1 (hf.mono (Nat.le_refl _) hN1), p2, p3, .of_steps (q4.trans (.one hst)) p4⟩
   | exit id => exact zAh fun _ => ⟨ψ, w1, tmps, ds, q1, q2, q3, .frame.1 (.pass (by intro id; simp) (by simp) q4)⟩
   | ret => exact zAh fun _ => ⟨ψ, w1, tmps, ds, q1, q2, q3, .frame.1 (.pass (by intro id; simp) (by simp) q4)⟩
  refine ⟨?_, loopB⟩
  intro c st s φ w fr k h hB hf hg hr hfn hin ht
  have stay : ∀ e : Ex, Left P (lone fr cs w) (zAz fr fr.tmps fr.defers k) k cs w e → zIc P φ B N lo s w (lone fr cs w) fr k cs e st s := fun e he _ => ⟨φ, w, fr.tmps, fr.defers, Stp.refl h, hr.re, hr.ds, he⟩
  cases c with
  | skip => exact zAh (stay .normal (.one (st_skip hr.mode ht)))
  | label l => exact zAh (stay .normal (.one (st_label hr.mode ht)))
  | exit id => exact zAh (stay (.exit id) ⟨[], rfl, by
    have : ({ zAz fr fr.tmps fr.defers k with todo := .code (.exit id) :: ([] ++ k) } : Frame) = fr := by
     simp only [zAz, List.nil_append, ← ht]
    rw [this]; exact .refl P _⟩)
  | ret => exact zAh (stay .ret ⟨k, by
    have : ({ zAz fr fr.tmps fr.defers k with todo := .code .ret :: k } : Frame) = fr := by
     simp only [zAz, ← ht]
    rw [this]; exact .refl P _⟩)
  | goto l => unfold code; exact zAa
  | refuse y => unfold code; exact zAa
  | region id ops draw =>
   unfold code
   refine wp_bind (R.wp_mono ?_ (region_ok hc hd cs h hB hf hg hr ht))
   intro st1 s1 hq
   refine zAh fun hN => ?_
   obtain ⟨ψ, w1, tmps, ds, q1, q2, q3, q4⟩ := hq hN
   exact ⟨ψ, w1, tmps, ds, q1, q2, q3, q4⟩
  | seq a b =>
   unfold code
   have hst := st_seq (P := P) (cs := cs) (w := w) hr.mode ht
   refine zHt (tame _ _) (fun p => by obtain ⟨e, st1⟩ := p; cases e <;> first | exact tame _ _ | exact zAb.pure _) h.wf (ihA a st s φ w { fr with todo := .code a :: .code b :: k } (.code b :: k) h hB hf hg (hr.todo _) hfn (hin.to fun _ => .seqL) rfl) ?_
   rintro ⟨e, st1⟩ s1 ⟨ψ, w1, tmps, ds, q1, q2, q3, q4⟩ hN1 hup
   have q4 := Left.of_steps (.one hst) q4
   cases e with
   | normal =>
    refine R.wp_mono ?_ (ihA b st1 s1 ψ w1 (zAz fr tmps ds (.code b :: k)) k q1.rw (Nat.le_trans hB q1.fr.size) (q1.free hf) (hg.mono q1.le) (hr.of q1.le q2 q3) hfn (hin.to fun _ => .seqR) rfl)
    intro p s2 hq hN2
    obtain ⟨χ, w2, tmps2, ds2, p1, p2, p3, p4⟩ := hq hN2
    exact ⟨χ, w2, tmps2, ds2, q1.trans p1 (hf.mono (Nat.le_refl _) hN1), p2, p3, .of_steps q4 p4⟩
   | exit id => exact zAh fun _ => ⟨ψ, w1, tmps, ds, q1, q2, q3, .frame.1 (.pass (by intro id; simp) (by simp) q4)⟩
   | ret => exact zAh fun _ => ⟨ψ, w1, tmps, ds, q1, q2, q3, .frame.1 (.pass (by intro id; simp) (by simp) q4)⟩
  | cond o a b =>
   unfold code
   dsimp only
   cases ho : evA P.globals.size st.t o with
   | none => exact zAa
   | some v =>
    cases v <;> first | exact zAa | skip
    rename_i v
    cases v <;> first | exact zAa | skip
    rename_i t
    have he := (ev_ok (P := P) hr.re hg _ _ ho).bool_inv
    have hst := st_cond (P := P) (cs := cs) (w := w) hr.mode ht he
    cases t with
    | true =>
     refine R.wp_mono ?_ (ihA a st s φ w { fr with todo := .code a :: k } k h hB hf hg (hr.todo _) hfn (hin.to fun _ => .condL) rfl)
     intro p s2 hq hN2
     obtain ⟨χ, w2, tmps2, ds2, p1, p2, p3, p4⟩ := hq hN2
     exact ⟨χ, w2, tmps2, ds2, p1, p2, p3, .of_steps (.one hst) p4⟩
    | false =>
     refine R.wp_mono ?_ (ihA b st s φ w { fr with todo := .code b :: k } k h hB hf hg (hr.todo _) hfn (hin.to fun _ => .condR) rfl)
     intro p s2 hq hN2
     obtain ⟨χ, w2, tmps2, ds2, p1, p2, p3, p4⟩ := hq hN2
     exact ⟨χ, w2, tmps2, ds2, p1, p2, p3, .of_steps (.one hst) p4⟩
  | block id b =>
   unfold code
   have hst := st_block (P := P) (cs := cs) (w := w) hr.mode ht
   refine wp_bind (R.wp_mono ?_ (ihA b st s φ w { fr with todo := .code b :: .inBlock id :: k } (.inBlock id :: k) h hB hf hg (hr.todo _) hfn (hin.to fun _ => .block) rfl))
   rintro ⟨e, st1⟩ s1 hq
   cases e with
   | normal =>
    refine zAh fun hN => ?_
    obtain ⟨ψ, w1, tmps, ds, q1, q2, q3, q4⟩ := hq hN
    have q4 := Left.of_steps (.one hst) q4
    have hst2 := st_inBlock (P := P) (cs := cs) (w := w1) (fr := zAz fr tmps ds (.inBlock id :: k)) hr.mode rfl
    exact ⟨ψ, w1, tmps, ds, q1, q2, q3, q4.trans (.one hst2)⟩
   | exit i =>
    refine zAo (fun hi => zAh fun hN => ?_) (fun hi => zAh fun hN => ?_)
    ·have hi := Nat.eq_of_beq_eq_true hi
     subst hi
     obtain ⟨ψ, w1, tmps, ds, q1, q2, q3, q4⟩ := hq hN
     obtain ⟨j, e1, e2⟩ := Left.of_steps (.one hst) q4
     have hex : exitTo i (j ++ (.inBlock i :: k)) = some k := by rw [e1]; simp [exitTo]
     have hst2 := st_exit (P := P) (cs := cs) (w := w1) (fr := zAz fr tmps ds (.code (.exit i) :: (j ++ (.inBlock i :: k)))) hr.mode rfl hex
     exact ⟨ψ, w1, tmps, ds, q1, q2, q3, e2.trans (.one hst2)⟩
    ·obtain ⟨ψ, w1, tmps, ds, q1, q2, q3, q4⟩ := hq hN
     obtain ⟨j, e1, e2⟩ := Left.of_steps (.one hst) q4
     refine ⟨ψ, w1, tmps, ds, q1, q2, q3, j ++ [.inBlock id], ?_, by rw [List.append_assoc, List.singleton_append]; exact e2⟩
     rw [List.append_assoc, List.singleton_append, e1]
     have hne : (id == i) = false := by
      have : i ≠ id := fun e => by rw [e, Nat.beq_refl] at hi; cases hi
      simpa using fun e : id = i => this e.symm
     simp [exitTo, hne]
   | ret =>
    refine zAh fun hN => ?_
    obtain ⟨ψ, w1, tmps, ds, q1, q2, q3, q4⟩ := hq hN
    exact ⟨ψ, w1, tmps, ds, q1, q2, q3, Left.of_steps (.one hst) q4⟩
  | loop b =>
   have hst := st_loop (P := P) (cs := cs) (w := w) hr.mode ht
   refine R.wp_mono ?_ (loopB b st s φ w { fr with todo := .code b :: .inLoop b :: k } k h hB hf hg (hr.todo _) hfn hin rfl)
   intro p s2 hq hN2
   obtain ⟨χ, w2, tmps2, ds2, p1, p2, p3, p4⟩ := hq hN2
   exact ⟨χ, w2, tmps2, ds2, p1, p2, p3, .of_steps (.one hst) p4⟩
  | scope b =>
   unfold code
   have hst := st_scope (P := P) (cs := cs) (w := w) hr.mode ht
   refine R.wp_mono ?_ (ihA b st s φ w { fr with todo := .code b :: .inScope b :: k } (.inScope b :: k) h hB hf hg (hr.todo _) hfn (hin.to fun _ => .scope) rfl)
   intro p s2 hq hN2
   obtain ⟨χ, w2, tmps2, ds2, p1, p2, p3, p4⟩ := hq hN2
   refine ⟨χ, w2, tmps2, ds2, p1, p2, p3, .of_steps (.one hst) ?_⟩
   obtain ⟨e, st2⟩ := p
   cases e with
   | normal => exact p4.trans (.one (st_inScope (P := P) (cs := cs) (w := w2) (fr := zAz fr tmps2 ds2 (.inScope b :: k)) hr.mode rfl))
   | exit id => exact .frame.1 (.pass (by intro id; simp) (by simp) p4)
   | ret => exact .frame.1 (.pass (by intro id; simp) (by simp) p4)
  | rangeFunc f ps a b => exact rangeFunc_ok hc h hB hf hg hr hfn ht
end
end
end Go.Abs
namespace Go.Abs
noncomputable section
variable [Facts] [zAc]
section
variable {P : Program} {φ ψ : Phi} {B N : Nat} {s s' : HS} {w w' : World}
theorem delw_stp (h : RW φ B s w) {b t : Nat} {y : Blk} {a : Lc} (he : s.h.get b = some (t, y)) (hy : y.fixed = false) (hl : s.lim ≤ b) (ha : φ b = some a) (o' : Obj) :
  Stp φ B s w φ { s with h := s.h.del b, clk := s.clk + 1 } { w with heap := w.heap.setIfInBounds a.blk o' } := by
 have d := zJb h he hy hl
 have hh := fun r (hr : r ≠ a.blk) => zPa w a.blk r o' hr
 refine ⟨φ.le_refl, fun b h => (h rfl).elim, fun b a e e' => (by rw [e] at e'; cases e'), ?_, ?_, d.up⟩
 ·refine ⟨fun c t' z e => ?_, d.rw.inj, d.rw.lt⟩
  simp only [Tr.get_del] at e
  split at e
  ·cases e
  ·rename_i hcb
   obtain ⟨a1, p1, p2, p3⟩ := h.blk c t' z e
   exact ⟨a1, p1, p2.of_heap (hh _ (h.inj b c t t' y z a a1 he e hy (fun e => hcb e.symm) ha p1).symm), p3⟩
 ·exact ⟨rfl, rfl, rfl, by simp, fun r hr hno => hh r (fun e => hno b t y a he hy ha e.symm)⟩
theorem fixed_not_dfr {a : Lc} {x : Blk} (hfx : x.fixed = true) (k : RB φ w a x) : w.heap[a.blk]? ≠ some (.deferred (some [])) := by
 intro e
 cases x with
 | cells c n g => obtain ⟨arr, el, h1, _⟩ := k; rw [h1] at e; cases e
 | ro c n => obtain ⟨arr, el, fz, h1, _⟩ := k; rw [h1] at e; cases e
 | arr ks A n ro => obtain ⟨arr, el, fz, h1, _⟩ := k; rw [h1] at e; cases e
 | map es clock => cases hfx
 | miter m since seen st => cases hfx
 | siter s pos => cases hfx
 | loop st pend fn env nt ps assign body d => cases hfx
 | dfr => cases hfx
omit [Facts] [zAc] in
theorem zHw {w : World} {b r : Nat} (h : r ≠ b) : ({ w with heap := w.heap.setIfInBounds b (.deferred none) } : World).heap[r]? = w.heap[r]? := zPa w b r _ h
theorem many_ok (cs : List Frame) : ∀ (y : List Nat) (z : List Nat) (r : List Deferred) (s : HS) (φ : Phi) (w : World) (fr : Frame) {φ0 : Phi} {s0 : HS} {w0 : World},
  (y ++ z).Nodup → (∀ x ∈ y ++ z, Zn φ s w x ∧ w0.heap.size ≤ x) → fr.mode = .returning → fr.defers = y.map (fun b => { target := .collected b, args := #[] }) ++ r → Stp φ0 B s0 w0 φ s w →
  ∃ w', Stp φ0 B s0 w0 φ s w' ∧ (∀ x ∈ z, Zn φ s w' x ∧ w0.heap.size ≤ x) ∧ w.heap.size ≤ w'.heap.size ∧ Steps P (lone fr cs w) (lone { fr with defers := r } cs w') := by
 intro y
 induction y with
 | nil =>
  intro z r s φ w fr φ0 s0 w0 _ hz hm he h
  have : ({ fr with defers := r } : Frame) = fr := by cases fr; simp only [List.map_nil, List.nil_append] at he; subst he; rfl
  rw [this]
  exact ⟨w, h, fun x hx => hz x hx, Nat.le_refl _, .refl P _⟩
 | cons b y ih =>
  intro z r s φ w fr φ0 s0 w0 hnd hz hm he h
  obtain ⟨hb, hlo⟩ := hz b (.head _)
  have hnd' := List.nodup_cons.1 hnd
  have hrun : (Instr.takeDeferred b).run P w = .ok [] { w with heap := w.heap.setIfInBounds b (.deferred none) } := run_takeDeferred hb.obj
  have st1 := step_collected (P := P) (cs := cs) (fr := fr) (by rw [hm]; simp) he rfl hrun
  have hstp : Stp φ0 B s0 w0 φ s { w with heap := w.heap.setIfInBounds b (.deferred none) } := by
   refine ⟨h.le, h.rng, h.new, ⟨fun c t x e => ?_, h.rw.inj, h.rw.lt⟩, ⟨h.fr.os, h.fr.tape, h.fr.output, by have := h.fr.size; simp; omega, fun q hq hno => ?_⟩, h.up⟩
   ·obtain ⟨a, p1, p2, p3⟩ := h.rw.blk c t x e
    refine ⟨a, p1, p2.of_heap (zHw ?_), p3⟩
    intro hab
    cases hfx : x.fixed with
    | false => exact hb.out c t x a e hfx p1 hab
    | true => exact (fixed_not_dfr hfx p2) (by rw [hab]; exact hb.obj)
   ·rw [zHw (by omega)]
    exact h.fr.heap q hq hno
  obtain ⟨w', g1, g2, g3, g4⟩ := ih z r s φ _ { fr with defers := y.map (fun b => { target := .collected b, args := #[] }) ++ r } hnd'.2 (fun x hx => by
   obtain ⟨k1, k2⟩ := hz x (.tail _ hx)
   have hne : x ≠ b := fun e => hnd'.1 (by rw [← e]; exact hx)
   exact ⟨⟨(zHw hne).trans k1.obj, k1.out⟩, k2⟩) hm rfl hstp
  refine ⟨w', g1, g2, by simpa using g3, .head ?_ g4⟩
  simpa using st1
theorem defers_ok {call : Tgt → List AV → M AV} (hc : zCe P B call) (cs : List Frame) : ∀ (l : List ADef) (ds : List Deferred) (z : List Nat) (s : HS) (φ : Phi) (w : World) (fr : Frame) {φ0 : Phi} {s0 : HS} {w0 : World},
  RD P φ w0.heap.size l ds z → z.Nodup → (∀ x ∈ z, Zn φ s w x ∧ w0.heap.size ≤ x) → fr.mode = .returning → fr.defers = ds → Stp φ0 B s0 w0 φ s w → B ≤ w.heap.size → zEj φ s.n N → zEj φ0 s0.n N → s.n ≤ N → GOk P φ →
  (runDefers call l s).wp fun _ s' => s'.n ≤ N → ∃ ψ w', Stp φ0 B s0 w0 ψ s' w' ∧ φ.le ψ ∧ Steps P (lone fr cs w) (lone { fr with defers := [] } cs w') := by
 intro l
 induction l with
 | nil =>
  intro ds z s φ w fr φ0 s0 w0 hd hnd hz hm he h hB hf hf0 hN0 hg
  cases hd
  refine zAh fun _ => ⟨φ, w, h, φ.le_refl, ?_⟩
  have : ({ fr with defers := [] } : Frame) = fr := by cases fr; simp only at he; subst he; rfl
  rw [this]; exact .refl P _
 | cons d l ih =>
  intro ds z s φ w fr φ0 s0 w0 hd hnd hz hm he h hB hf hf0 hN0 hg
  cases hd with
  | @call g as xs d cap fv _ r _ hx hi hl =>
   unfold runDefers
   refine zHt (hc.tame _ _) (fun _ => zAb.runDefers hc.tame _) h.rw.wf (hc.d g as s N φ w xs .deferred ({ fr with defers := r } :: cs) rfl h.rw hB hf hg hx) ?_
   rintro v s1 ⟨ψ, w1, x, q1, q2, q3⟩ hN1 hup
   obtain ⟨fr', fn, e1, e2, e3, e4, e5, e6, _⟩ := q3.ret
   have st1 := step_defer (P := P) (cs := cs) (fr := fr) (w := w) (by rw [hm]; simp) he rfl ((hi w).trans (q3.run w))
   have st2 := zKt (c := { fr with defers := r }) (cs := cs) e2 e3 e4 e5 e6 hm
   refine R.wp_mono ?_ (ih r z s1 ψ w1 { fr with defers := r } (hl.mono q1.le) hnd (fun x hx => ⟨(hz x hx).1.step q1 (hf.mono (Nat.le_refl _) hN1), (hz x hx).2⟩) hm rfl (h.trans q1 (hf0.mono (Nat.le_refl _) hN0)) (Nat.le_trans hB q1.fr.size) (q1.free hf) hf0 hN1 (hg.mono q1.le))
   intro _ s2 hq hN2
   obtain ⟨χ, w2, p1, p3, p2⟩ := hq hN2
   exact ⟨χ, w2, p1, Phi.le_trans q1.le p3, .head st1 (e1.trans (.head st2 p2))⟩
  | rest _ => exact zAa
  | @many _ r y z' hl =>
   unfold runDefers
   obtain ⟨w1, g1, g2, g3, g4⟩ := many_ok (P := P) cs y z' r s φ w fr hnd hz hm he h
   refine R.wp_mono ?_ (ih r z' s φ w1 { fr with defers := r } hl (List.nodup_append.1 hnd).2.1 g2 hm rfl g1 (Nat.le_trans hB g3) hf hf0 hN0 hg)
   intro _ s2 hq hN2
   obtain ⟨χ, w2, p1, p3, p2⟩ := hq hN2
   exact ⟨χ, w2, p1, p3, g4.trans p2⟩
  | @coll b a _ r _ ha _ hl =>
   unfold runDefers
   refine wp_bind (zBo fun t y hy => ?_)
   obtain ⟨a', ha', hrb, hBy⟩ := h.rw.blk b t y hy
   rw [ha] at ha'; cases ha'
   cases y <;> first | exact zAa | skip
   refine wp_bind (zKb fun t' y' hy' hfx hlim => ?_)
   have hstp := delw_stp h.rw hy rfl hlim ha (.deferred none)
   have hrun : (Instr.takeDeferred a.blk).run P w = .ok [] { w with heap := w.heap.setIfInBounds a.blk (.deferred none) } := run_takeDeferred hrb
   have st1 := step_collected (P := P) (cs := cs) (fr := fr) (by rw [hm]; simp) he rfl hrun
   have hf1 : zEj φ s.n s.n := fun x hx hx' => by omega
   refine R.wp_mono ?_ (ih r z _ φ _ { fr with defers := [] ++ r } hl hnd (fun x hx => ⟨(hz x hx).1.step hstp hf1, (hz x hx).2⟩) hm rfl (h.trans hstp (hf0.mono (Nat.le_refl _) hN0)) (Nat.le_trans hB hstp.fr.size) (hstp.free hf) hf0 hN0 hg)
   intro _ s2 hq hN2
   obtain ⟨χ, w2, p1, p3, p2⟩ := hq hN2
   exact ⟨χ, w2, p1, p3, .head st1 p2⟩
def resF (tmps : Array Value) : ResultVar → Sem Value
 | .tmp t => pure (tmps.getD t undef)
 | .cell a t => do loadVar t (← asAddr (tmps.getD a undef))
omit [Facts] [zAc] in
theorem results_eq (fn : Func) (tmps : Array Value) : results fn tmps = (do let vs ← fn.results.mapM (resF tmps); pure (if h : vs.size = 1 then vs[0] else .tuple vs)) := by
 have : resF tmps = (fun | .tmp t => pure (tmps.getD t undef) | .cell a t => do loadVar t (← asAddr (tmps.getD a undef)) : ResultVar → Sem Value) := by
  funext r; cases r <;> rfl
 rw [this]; rfl
theorem resultsA_ok {t : Env} {nt : Nat} {tmps : Array Value} (h : RW φ B s w) (hr : RE φ t nt tmps) : ∀ l : List ResultVar, (resultsA P t l s).wp fun vs s' => s' = s ∧ ∃ xs, RL φ vs xs ∧
  (l.mapM (resF tmps)).run P w = .ok xs w := by
 intro l
 induction l with
 | nil => exact zAh ⟨rfl, [], .nil, by simp [Sem.run_pure]⟩
 | cons r l ih =>
  cases r with
  | tmp i =>
   unfold resultsA
   cases hi : t.get i with
   | none => exact zAa
   | some v =>
    refine wp_bind (R.wp_mono ?_ ih)
    rintro vs s' ⟨rfl, xs, h1, h2⟩
    refine zAh ⟨rfl, _, .cons (hr.some i v hi).2 h1, ?_⟩
    rw [List.mapM_cons]
    simp only [resF, Sem.run_bind, Sem.run_pure, Result.andThen_ok, h2]
  | cell a ty =>
   unfold resultsA
   cases hi : t.get a with
   | none => exact zAa
   | some v =>
    have hv := (hr.some a v hi).2
    refine wp_bind (R.wp_mono ?_ (load_ok (P := P) (t := ty) h hv))
    rintro y s1 ⟨rfl, Y, hY, hyv⟩
    refine wp_bind (R.wp_mono ?_ ih)
    rintro vs s' ⟨rfl, xs, h1, h2⟩
    refine zAh ⟨rfl, _, .cons hyv h1, ?_⟩
    rw [List.mapM_cons]
    have hrun : (resF tmps (.cell a ty)).run P w = .ok Y w := by
     simp only [resF]
     generalize tmps.getD a undef = X at hY
     have stuckN : ∀ m, ((do loadVar ty (← (stuck m : Sem Addr)) : Sem Value)).run P w ≠ .ok Y w := by intro m e; simp [Sem.run_bind, stuck, Sem.run, Result.andThen] at e
     cases X with
     | pointer p => cases p with
      | none => exact (stuckN _ hY).elim
      | some p => exact hY
     | _ => exact (stuckN _ hY).elim
    simp only [Sem.run_bind, Sem.run_pure, Result.andThen_ok] at hrun ⊢
    rw [hrun]
    simp only [Result.andThen_ok, h2]
omit [Facts] [zAc] in
theorem argsEnv_fill : ∀ (as : List AV) (i : Nat) (t : Env), zIa as i t = Tr.fill as i t := by
 intro as
 induction as with
 | nil => intro i t; rfl
 | cons a l ih => intro i t; simp only [zIa, Tr.fill, ih]
theorem argsEnv_ok {as : List AV} {xs : Array Value} {nt : Nat} (h : RL φ as xs.toList) (hn : as.length ≤ nt) : RE φ (zIa as 0 .lf) nt (xs ++ Array.replicate (nt - xs.size) undef) := by
 have hl : as.length = xs.size := by have := h.length; simpa using this
 rw [argsEnv_fill]
 refine ⟨by simp; omega, fun i v hv => ?_⟩
 ·rw [Tr.get_fill] at hv
  split at hv
  ·rename_i hlt
   obtain ⟨x, g1, g2⟩ := h.get hv
   have hix : i < xs.size := by omega
   refine ⟨by omega, ?_⟩
   simp only [Nat.sub_zero, Array.getElem?_toList] at g1
   rw [Array.getD_eq_getD_getElem?, Array.getElem?_append_left hix, g1]
   exact g2
  ·cases hv
theorem body_ok [zDa] [zGs] (hlo : zFu P B) {call : Tgt → List AV → M AV} (hc : zCe P B call) (hd : zFk P B call) {fuel : Nat} {g : FuncId} {fn : Func} {c : Code} {as : List AV} {xs : Array Value} {kind : CallKind} {cs : List Frame}
  (hfn : P.funcs[g]? = some fn) (hbody : fn.body = some c) (hname : fn.name ≠ "runtime.NumGoroutine") (hlen : as.length ≤ fn.ntmps)
  (h : RW φ B s w) (hB : B ≤ w.heap.size) (hf : zEj φ s.n N) (hg : GOk P φ) (hx : RL φ as xs.toList) :
  (bodyA P call fuel g fn c as s).wp fun v s' => s'.n ≤ N → ∃ ψ w' x, Stp φ B s w ψ s' w' ∧ RV ψ v x ∧ zKz P g xs w x w' kind cs := by
 have hent : Frame.enter P g xs kind = { fn := g, tmps := xs ++ Array.replicate (fn.ntmps - xs.size) undef, todo := [.code c], defers := [], mode := .run, kind := kind } := by
  simp [Frame.enter, hfn, hbody]
 have hrf : RF P φ s w w.heap.size none { t := zIa as 0 .lf, nt := fn.ntmps, ds := [] } (Frame.enter P g xs kind) := by
  rw [hent]
  exact ⟨rfl, argsEnv_ok hx hlen, .nil (Nat.le_refl _), rfl⟩
 unfold bodyA
 rw [runC_eq]
 refine zHt (zAb.code P hc.tame _ _ _ _ _) (fun p => ?_) h.wf ((code_ok hlo hc hd w.heap.size none g cs fuel).1 c _ s φ w (Frame.enter P g xs kind) [] h hB hf hg hrf (by rw [hent]) (fun _ => ⟨fn, c, hfn, hbody, .refl c⟩) (by rw [hent])) ?_
 ·obtain ⟨e, st⟩ := p
  repeat' (first | exact zAb.pure _ | exact zAb.fail _ | exact zAb.runDefers hc.tame _ | exact zAb.resultsA P _ _ | refine zAb.bind ?_ (fun _ => ?_) | split | dsimp only)
 rintro ⟨e, st1⟩ s1 ⟨ψ, w1, tmps, ds, q1, q2, q3, q4⟩ hN1 hup
 obtain ⟨_, z, qz, qn, qx⟩ := q3
 have fin : Steps P (lone (Frame.enter P g xs kind) cs w) (lone { zAz (Frame.enter P g xs kind) tmps ds [] with mode := .returning } cs w1) ∨ (∃ j, Steps P (lone (Frame.enter P g xs kind) cs w) (lone { zAz (Frame.enter P g xs kind) tmps ds (.code .ret :: j) with mode := .returning } cs w1)) →
   ((M.bind (runDefers call st1.ds) fun _ => M.bind (resultsA P st1.t fn.results.toList) fun l => match l with | [v] => M.pure v | l => M.pure (.tup l)) s1).wp fun v s' => s'.n ≤ N → ∃ ψ w' x, Stp φ B s w ψ s' w' ∧ RV ψ v x ∧ zKz P g xs w x w' kind cs := by
  intro hst
  have hst : ∃ todo, Steps P (lone (Frame.enter P g xs kind) cs w) (lone { zAz (Frame.enter P g xs kind) tmps ds todo with mode := .returning } cs w1) := by
   rcases hst with h | ⟨j, h⟩
   ·exact ⟨_, h⟩
   ·exact ⟨_, h⟩
  obtain ⟨todo, hst⟩ := hst
  refine zHt (zAb.runDefers hc.tame _) (fun _ => ?_) q1.rw.wf (defers_ok (N := N) hc cs st1.ds ds z s1 ψ w1 { zAz (Frame.enter P g xs kind) tmps ds todo with mode := .returning } qz qn qx rfl rfl q1 (Nat.le_trans hB q1.fr.size) (q1.free hf) hf hN1 (hg.mono q1.le)) ?_
  ·repeat' (first | exact zAb.pure _ | exact zAb.resultsA P _ _ | refine zAb.bind ?_ (fun _ => ?_) | split | dsimp only)
  rintro _ s2 ⟨χ, w2, stp, ple, p2⟩ hN2 hup2
  refine wp_bind (R.wp_mono ?_ (resultsA_ok (P := P) stp.rw (q2.mono ple) fn.results.toList))
  rintro vs s3 ⟨rfl, ys, h1, h2⟩
  have hres : ∀ v x, RV χ v x → (results fn tmps).run P w2 = .ok x w2 → (∃ ψ w' x, Stp φ B s w ψ s3 w' ∧ RV ψ v x ∧ zKz P g xs w x w' kind cs) := by
   intro v x hv hx
   refine ⟨χ, w2, x, stp, hv, ⟨fun w => ?_, _, fn, hst.trans p2, rfl, rfl, by rw [hent]; rfl, by rw [hent]; exact hfn, hx, by rw [hent]; rfl⟩⟩
   have hname' : (fn.name == "runtime.NumGoroutine") = false := by simpa using hname
   simp [callFunc, hfn, hname, hname', hbody, Sem.run_bind, run_program, Sem.run_pure]
  have hrr : (results fn tmps).run P w2 = .ok (if h : ys.toArray.size = 1 then ys.toArray[0] else .tuple ys.toArray) w2 := by
   rw [results_eq, Array.mapM_eq_mapM_toList]
   simp only [map_eq_pure_bind, Sem.run_bind, h2, Result.andThen_ok, Sem.run_pure]
  cases h1 with
  | nil => exact zAh fun _ => hres _ _ (.tup .nil) (by simpa using hrr)
  | cons hv hl =>
   cases hl with
   | nil => exact zAh fun _ => hres _ _ hv (by simpa using hrr)
   | cons hv2 hl2 => exact zAh fun _ => hres _ _ (.tup (.cons hv (.cons hv2 hl2))) (by simpa using hrr)
 have hmode : ∀ t d k, (zAz (Frame.enter P g xs kind) t d k).mode = .run := fun _ _ _ => by rw [hent]; rfl
 have hround : ∀ t d k, (zAz (Frame.enter P g xs kind) t d k).roundOf = none := fun _ _ _ => by rw [hent]; rfl
 cases e with
 | exit id => exact zAa
 | normal => exact fin (.inl (Steps.trans q4 (.one (st_end (hmode _ _ _) rfl (hround _ _ _)))))
 | ret =>
  obtain ⟨j, q4⟩ := q4
  exact fin (.inr ⟨j, Steps.trans q4 (.one (st_ret (k := j) (fr := zAz (Frame.enter P g xs kind) tmps ds (.code .ret :: j)) (hmode _ _ _) rfl (hround _ _ _)))⟩)
end
end
end Go.Abs
namespace Go.Abs
noncomputable section
variable [Facts] [zAc]
section
variable {P : Program} {φ ψ : Phi} {B N : Nat} {s s' : HS} {w w' : World}
theorem setParams_ok {nt : Nat} : ∀ (ps : List Tmp) (as : List AV) (t : Env) (tmps : Array Value) (xs : List Value), RL φ as xs → RE φ t nt tmps →
  RE φ (zJq nt ps as t) nt ((ps.zip xs).foldl (fun tmps x => tmps.setIfInBounds x.1 x.2) tmps) := by
 intro ps
 induction ps with
 | nil => intro as t tmps xs h hr; cases as <;> exact hr
 | cons p ps ih =>
  intro as t tmps xs h hr
  cases h with
  | nil => exact hr
  | cons hv hl => exact ih _ _ _ _ hl (hr.set hv)
theorem round_ok [zDa] [zGs] (hlo : zFu P B) {call : Tgt → List AV → M AV} (hc : zCe P B call) (hd : zFk P B call) {fuel l : Nat} {as : List AV} {xs : Array Value} (c : Frame) (cs : List Frame)
  (h : RW φ B s w) (hB : B ≤ w.heap.size) (hf : zEj φ s.n N) (hg : GOk P φ) (hx : RL φ as xs.toList) :
  (roundA P call fuel l as s).wp fun v s' => s'.n ≤ N → ∃ ψ w' x, Stp φ B s w ψ s' w' ∧ RV ψ v x ∧ ∀ a, φ l = some a → YlInv P a.blk xs w x w' c cs := by
 unfold roundA
 simp only [runC_eq]
 refine wp_bind (zBo fun t y hy => ?_)
 obtain ⟨al, hal, hrb, hBy⟩ := h.blk l t y hy
 cases y <;> first | exact zAa | skip
 rename_i sst pend fn env nt ps asg bd d
 obtain ⟨tm0, da, hda, hre0, hheap⟩ := hrb
 dsimp only
 refine zAo (fun hlen => ?_) (fun _ => zAa)
 have hlen := Nat.eq_of_beq_eq_true hlen
 have hl : as.length = xs.size := by have := hx.length; simpa using this
 have hyield : (Instr.yield al.blk xs).run P w = .ok (.round al.blk fn ((ps.zip xs).foldl (fun tmps (x : Tmp × Value) => tmps.setIfInBounds x.1 x.2) tm0) asg bd) w := by
  have hobj := zBl (P := P) hheap (by intros; simp)
  have hne : ¬ (xs.size ≠ ps.size) := by omega
  simp only [Instr.yield, Instr.getLoop, Sem.run_bind, hobj, Result.andThen_ok, Sem.run_pure]
  rw [if_neg hne]
  simp only [Sem.run_pure, Result.andThen_ok]
 have hre : RE φ (zJq nt ps.toList as env) nt ((ps.zip xs).foldl (fun tmps (x : Tmp × Value) => tmps.setIfInBounds x.1 x.2) tm0) := by
  have := setParams_ok ps.toList as env tm0 xs.toList hx hre0
  rw [← Array.foldl_toList, Array.toList_zip]
  exact this
 generalize (ps.zip xs).foldl (fun tmps (x : Tmp × Value) => tmps.setIfInBounds x.1 x.2) tm0 = tms at hyield hre
 have hrf : RF P φ s w w.heap.size (some l) { t := zJq nt ps.toList as env, nt := nt, ds := [] } (Frame.round al.blk fn tms asg bd .normal) := ⟨rfl, hre, .nil (Nat.le_refl _), al, hal, rfl⟩
 refine zHt (zAb.code P hc.tame _ _ _ _ _) (fun p => ?_) h.wf ((code_ok hlo hc hd w.heap.size (some l) fn (c :: cs) fuel).1 asg _ s φ w (Frame.round al.blk fn tms asg bd .normal) [.beginRound, .code bd] h hB hf hg hrf rfl (fun e => by cases e) rfl) ?_
 ·obtain ⟨e, st⟩ := p
  repeat' (first | exact zAb.pure _ | exact zAb.fail _ | exact zAb.getB _ | exact zAb.setB _ _ | exact zAb.code P hc.tame _ _ _ _ _ | refine zAb.bind ?_ (fun _ => ?_) | split | dsimp only)
 rintro ⟨e, st1⟩ s1 ⟨ψ, w1, tmps, ds, q1, q2, q3, q4⟩ hN1 hup
 cases e with
 | exit id => exact zAa
 | ret => exact zAa
 | normal =>
  dsimp only
  refine wp_bind (zBo fun t1 y1 hy1 => ?_)
  obtain ⟨al1, hal1, hrb1, hBy1⟩ := q1.rw.blk l t1 y1 hy1
  have := q1.le _ _ hal
  rw [hal1] at this; cases this
  cases y1 <;> first | exact zAa | skip
  rename_i sst1 pend1 fn1 env1 nt1 ps1 asg1 bd1 d1
  obtain ⟨tm1, da1, hda1, hre1, hheap1⟩ := hrb1
  cases sst1 <;> first | exact zAa | skip
  dsimp only
  refine wp_bind (zEe fun t2 y2 hy2 hfx2 _ hlim2 => ?_)
  have hlt1 := (Array.getElem?_eq_some_iff.1 hheap1).1
  have st2 := zHa (o' := .loop { state := .busy, pending := pend1, fn := fn1, tmps := tm1, params := ps1, assign := asg1, body := bd1, defers := da1.blk }) (x := .loop .busy pend1 fn1 env1 nt1 ps1 asg1 bd1 d1) q1.rw hy1 rfl rfl hlim2 hal1 ⟨tm1, da1, hda1, hre1, set_self hlt1 _⟩
  have stp2 := q1.trans st2 (hf.mono (Nat.le_refl _) hN1)
  have hst2 := st_beginRound (P := P) (cs := c :: cs) (w := w1) (k := [.code bd]) (l := al.blk) (fr := zAz (Frame.round al.blk fn tms asg bd .normal) tmps ds [.beginRound, .code bd]) rfl rfl rfl hheap1 rfl
  have hrf2 : RF P ψ _ _ w.heap.size (some l) st1 (zAz (Frame.round al.blk fn tms asg bd .normal) tmps ds [.code bd]) := ⟨rfl, q2, q3.step st2 ((q1.free hf).mono (Nat.le_refl _) hN1), al, hal1, rfl⟩
  refine zHt (zAb.code P hc.tame _ _ _ _ _) (fun p => ?_) stp2.rw.wf ((code_ok hlo hc hd w.heap.size (some l) fn (c :: cs) fuel).1 bd st1 _ ψ _ (zAz (Frame.round al.blk fn tms asg bd .normal) tmps ds [.code bd]) [] stp2.rw (Nat.le_trans hB stp2.fr.size) (stp2.free hf) (hg.mono stp2.le) hrf2 rfl (fun e => by cases e) rfl) ?_
  ·obtain ⟨e, st⟩ := p
   repeat' (first | exact zAb.pure _ | exact zAb.fail _ | exact zAb.getB _ | exact zAb.setB _ _ | refine zAb.bind ?_ (fun _ => ?_) | split | dsimp only)
  rintro ⟨e, st3⟩ s3 ⟨χ, w3, tmps3, ds3, p1, p2, p3, p4⟩ hN3 hup3
  have stp3 := stp2.trans p1 (hf.mono (Nat.le_refl _) (by exact hN1))
  dsimp only
  refine wp_bind (zBo fun t4 y4 hy4 => ?_)
  obtain ⟨al4, hal4, hrb4, hBy4⟩ := p1.rw.blk l t4 y4 hy4
  have := stp3.le _ _ hal
  rw [hal4] at this; cases this
  cases y4 <;> first | exact zAa | skip
  rename_i sst4 pend4 fn4 env4 nt4 ps4 asg4 bd4 d4
  obtain ⟨tm4, da4, hda4, hre4, hheap4⟩ := hrb4
  have hlt4 := (Array.getElem?_eq_some_iff.1 hheap4).1
  have all : ∀ (j : Option Code) (fr3 : Frame), Steps P (lone (zAz (Frame.round al.blk fn tms asg bd .normal) tmps ds [.code bd]) (c :: cs) { w1 with heap := w1.heap.setIfInBounds al.blk (.loop { state := .busy, pending := pend1, fn := fn1, tmps := tm1, params := ps1, assign := asg1, body := bd1, defers := da1.blk }) }) (lone fr3 (c :: cs) w3) →
    fr3.mode = .run → fr3.roundOf = some al.blk → fr3.kind = .normal → ((fr3.todo = [] ∧ j = none) ∨ (∃ k, fr3.todo = .code .ret :: k ∧ j = some .ret) ∨ (∃ id k, fr3.todo = .code (.exit id) :: k ∧ exitTo id k = none ∧ j = some (.exit id))) →
    (M.bind (setB l (.loop (if j.isNone then .ready else .done) j fn4 env4 nt4 ps4 asg4 bd4 d4)) (fun _ => M.pure (.val (.bool j.isNone))) s3).wp fun v s' => s'.n ≤ N → ∃ ψ w' x, Stp φ B s w ψ s' w' ∧ RV ψ v x ∧ ∀ a, φ l = some a → YlInv P a.blk xs w x w' c cs := by
   intro j fr3 hsteps hm hro hk htodo
   refine wp_bind (zEe fun t5 y5 hy5 hfx5 _ hlim5 => zAh fun hN => ?_)
   have st5 := zHa (o' := .loop { state := if j.isNone then .ready else .done, pending := j, fn := fn4, tmps := tm4, params := ps4, assign := asg4, body := bd4, defers := da4.blk }) (x := .loop (if j.isNone then .ready else .done) j fn4 env4 nt4 ps4 asg4 bd4 d4) p1.rw hy4 rfl rfl hlim5 hal4 ⟨tm4, da4, hda4, hre4, set_self hlt4 _⟩
   refine ⟨χ, _, .bool j.isNone, stp3.trans st5 (hf.mono (Nat.le_refl _) (by exact hN3)), .val _, fun a ha => ?_⟩
   rw [hal] at ha; cases ha
   exact ⟨fn, tms, asg, bd, hyield, Steps.trans q4 (.head hst2 (hsteps.trans (.one (st_endRound hm htodo hro hk hheap4))))⟩
  cases e with
  | normal => exact all none _ p4 rfl rfl rfl (.inl ⟨rfl, rfl⟩)
  | exit id =>
   obtain ⟨j, e1, e2⟩ := p4
   exact all (some (.exit id)) _ e2 rfl rfl rfl (.inr (.inr ⟨id, j ++ [], rfl, by rw [e1]; rfl, rfl⟩))
  | ret =>
   obtain ⟨j, e2⟩ := p4
   exact all (some .ret) _ e2 rfl rfl rfl (.inr (.inl ⟨j, rfl, rfl⟩))
end
end
end Go.Abs
namespace Go.Abs
noncomputable section
variable [Facts] [zAc]
section
variable {P : Program} {φ ψ : Phi} {B N : Nat} {s s' : HS} {w w' : World}
omit [Facts] [zAc] in
theorem valBeq_eq {a b : Value} (h : valBeq a b = true) : a = b := by
 unfold valBeq at h
 split at h <;> first | (cases h; done) | skip
 ·simp only [Bool.and_eq_true, decide_eq_true_eq, beq_iff_eq] at h; rw [h.1, h.2]
 ·simp only [beq_iff_eq] at h; rw [h]
 ·rename_i x y
  have : x.data.toList = y.data.toList := by simpa using h
  have e : x = y := ByteArray.ext (Array.ext' this)
  rw [e]
 ·rfl
 ·simp only [Bool.and_eq_true] at h; rw [Nat.eq_of_beq_eq_true h.1, Nat.eq_of_beq_eq_true h.2]
 ·rfl
 ·rfl
 ·rfl
omit [Facts] [zAc] in
mutual
theorem AV.beq_eq : ∀ {a b : AV}, AV.beq a b = true → a = b
 | .val a, .val b, h => by
  have e : valBeq a b = true := by simpa only [AV.beq] using h
  rw [valBeq_eq e]
 | .ptr a b, .ptr c d, h => by
  simp only [AV.beq, Bool.and_eq_true] at h
  rw [Nat.eq_of_beq_eq_true h.1, Nat.eq_of_beq_eq_true h.2]
 | .sl a b c d e, .sl a' b' c' d' e', h => by
  simp only [AV.beq, Bool.and_eq_true, beq_iff_eq] at h
  obtain ⟨⟨⟨⟨h1, h2⟩, h3⟩, h4⟩, h5⟩ := h
  rw [Nat.eq_of_beq_eq_true h1, Nat.eq_of_beq_eq_true h2, Nat.eq_of_beq_eq_true h3, Nat.eq_of_beq_eq_true h4, h5]
 | .mp a, .mp b, h => by
  simp only [AV.beq] at h
  rw [Nat.eq_of_beq_eq_true h]
 | .ifc t a, .ifc u b, h => by
  simp only [AV.beq, Bool.and_eq_true] at h
  rw [Nat.eq_of_beq_eq_true h.1, AV.beq_eq h.2]
 | .agg l, .agg m, h => by
  simp only [AV.beq] at h
  rw [AV.beqL_eq h]
 | .tup l, .tup m, h => by
  simp only [AV.beq] at h
  rw [AV.beqL_eq h]
 | .fn .., _, h => by simp [AV.beq] at h
 | .yl .., _, h => by simp [AV.beq] at h
 | .val _, .ptr .., h | .val _, .sl .., h | .val _, .mp .., h | .val _, .fn .., h | .val _, .yl .., h | .val _, .ifc .., h | .val _, .agg .., h | .val _, .tup .., h => by simp [AV.beq] at h
 | .ptr .., .val .., h | .ptr .., .sl .., h | .ptr .., .mp .., h | .ptr .., .fn .., h | .ptr .., .yl .., h | .ptr .., .ifc .., h | .ptr .., .agg .., h | .ptr .., .tup .., h => by simp [AV.beq] at h
 | .sl .., .val .., h | .sl .., .ptr .., h | .sl .., .mp .., h | .sl .., .fn .., h | .sl .., .yl .., h | .sl .., .ifc .., h | .sl .., .agg .., h | .sl .., .tup .., h => by simp [AV.beq] at h
 | .mp .., .val .., h | .mp .., .ptr .., h | .mp .., .sl .., h | .mp .., .fn .., h | .mp .., .yl .., h | .mp .., .ifc .., h | .mp .., .agg .., h | .mp .., .tup .., h => by simp [AV.beq] at h
 | .ifc .., .val .., h | .ifc .., .ptr .., h | .ifc .., .sl .., h | .ifc .., .fn .., h | .ifc .., .yl .., h | .ifc .., .mp .., h | .ifc .., .agg .., h | .ifc .., .tup .., h => by simp [AV.beq] at h
 | .agg .., .val .., h | .agg .., .ptr .., h | .agg .., .sl .., h | .agg .., .fn .., h | .agg .., .yl .., h | .agg .., .mp .., h | .agg .., .ifc .., h | .agg .., .tup .., h => by simp [AV.beq] at h
 | .tup .., .val .., h | .tup .., .ptr .., h | .tup .., .sl .., h | .tup .., .fn .., h | .tup .., .yl .., h | .tup .., .mp .., h | .tup .., .ifc .., h | .tup .., .agg .., h => by simp [AV.beq] at h
theorem AV.beqL_eq : ∀ {a b : List AV}, AV.beqL a b = true → a = b
 | [], [], _ => rfl
 | a :: l, b :: m, h => by
  simp only [AV.beqL, Bool.and_eq_true] at h
  rw [AV.beq_eq h.1, AV.beqL_eq h.2]
 | [], _ :: _, h => by simp [AV.beqL] at h
 | _ :: _, [], h => by simp [AV.beqL] at h
end
omit [Facts] [zAc] in
theorem takeA_get {c : Tr AV} : ∀ {k off : Nat} {l : List AV}, takeA c off k = some l → l.length = k ∧ ∀ i, i < k → l[i]? = c.get (off + i) := by
 intro k
 induction k with
 | zero => intro off l h; simp only [takeA] at h; cases h; exact ⟨rfl, fun i hi => by omega⟩
 | succ k ih =>
  intro off l h
  simp only [takeA] at h
  split at h
  ·rename_i x r hx hr
   cases h
   obtain ⟨h1, h2⟩ := ih hr
   refine ⟨by simp [h1], fun i hi => ?_⟩
   cases i with
   | zero => simp [hx]
   | succ i => rw [List.getElem?_cons_succ, h2 i (by omega)]; congr 1; omega
  ·cases h
omit [Facts] [zAc] in
theorem ownRow_eq {n z : Nat} {a : AV} {s : HS} {r : List AV} (h : ownRow n a s = some (z, r)) : ∃ b len t c, a = .sl b 0 z len none ∧ n ≤ b ∧ s.h.get b = some (t, .cells c r.length (some z)) ∧ r.length = len * z ∧ 1 ≤ z ∧ (∀ i, i < r.length → r[i]? = c.get i) := by
 unfold ownRow at h
 split at h
 ·rename_i b z' len
  cases hb : Nat.ble n b
  ·rw [hb] at h; cases h
  ·rw [hb] at h
   simp only [cond_true] at h
   split at h
   ·rename_i t c m g hg
    cases hc : (Nat.beq g z' && Nat.beq m (len * z') && Nat.ble 1 z')
    ·rw [hc] at h; cases h
    ·rw [hc] at h
     simp only [cond_true] at h
     simp only [Bool.and_eq_true] at hc
     split at h
     ·rename_i l hl
      cases hall : l.all plainV
      ·rw [hall] at h; cases h
      ·rw [hall] at h
       simp only [cond_true] at h
       cases h
       obtain ⟨g1, g2⟩ := takeA_get hl
       have e1 := Nat.eq_of_beq_eq_true hc.1.1
       have e2 := Nat.eq_of_beq_eq_true hc.1.2
       subst e1
       rw [← g1] at hg e2
       exact ⟨b, len, t, c, rfl, Nat.le_of_ble_eq_true hb, hg, e2, Nat.le_of_ble_eq_true hc.2, fun i hi => by rw [g2 i (by omega), Nat.zero_add]⟩
     ·cases h
   ·cases h
 ·cases h
theorem plain_stp {s1 : HS} {n : Nat} (h : RW φ B s w) (hs : Stp φ B { s with lim := s.n } w ψ s1 w') (hn : s1.n ≤ n) : Stp φ B s w ψ { s with n := n } w' := by
 have hk : ∀ {b t x}, s.h.get b = some (t, x) → s1.h.get b = some (t, x) := fun e => hs.up.kept _ _ _ e (.inl (h.lt _ _ _ e).1)
 have hsn : s.n ≤ s1.n := hs.up.n
 refine ⟨hs.le, fun b hb => ?_, hs.new, ⟨fun b t x e => hs.rw.blk b t x (hk e), fun b b' t t' x x' a a' e e' => hs.rw.inj b b' t t' x x' a a' (hk e) (hk e'), fun b t x e => ?_⟩, ⟨hs.fr.os, hs.fr.tape, hs.fr.output, hs.fr.size, hs.fr.heap⟩, ?_⟩
 ·have := hs.rng b hb
  simp only at this ⊢
  omega
 ·have := h.lt b t x e
  simp only; omega
 ·exact ⟨by simp only; omega, Nat.le_refl _, rfl, fun _ _ _ h _ => h, fun _ _ _ h _ => h, fun _ _ _ h _ => h, fun _ _ h => h, fun b t x e => by have := h.lt b t x e; simp only; omega⟩
theorem row_stp {s1 : HS} {n b z t : Nat} {c : Tr AV} {r : List AV} {ab : Lc} (h : RW φ B s w) (hf : zEj φ s.n N) (hs : Stp φ B { s with lim := s.n } w ψ s1 w') (hn : s1.n ≤ n) (hN : n + 1 ≤ N)
  (hb : s.n ≤ b) (he : s1.h.get b = some (t, .cells c r.length (some z))) (hr : ∀ i, i < r.length → r[i]? = c.get i) (hab : ψ b = some ab) :
  Stp φ B s w (ψ.put n ab) { s with h := s.h.set n (s.clk + 1, .cells (Tr.fill r 0 .lf) r.length (some z)), n := n + 1, clk := s.clk + 1 } w' := by
 have hk : ∀ {b t x}, s.h.get b = some (t, x) → s1.h.get b = some (t, x) := fun e => hs.up.kept _ _ _ e (.inl (h.lt _ _ _ e).1)
 have hsn : s.n ≤ s1.n := hs.up.n
 have hbn := (hs.rw.lt _ _ _ he).1
 have hφn : φ n = none := hf n (by omega) (by omega)
 have hψn : ψ n = none := by
  rw [← hφn]
  exact Classical.byContradiction fun hne => by have := (hs.rng n hne).2; omega
 have hφb : φ b = none := hf b hb (by omega)
 have hle := Phi.le_put hψn ab
 obtain ⟨ab', hab', hrb, hB⟩ := hs.rw.blk _ _ _ he
 rw [hab] at hab'; cases hab'
 have hput : ∀ d, d ≠ n → (ψ.put n ab) d = ψ d := fun d hd => by simp [Phi.put, hd]
 refine ⟨Phi.le_trans hs.le hle, fun d hd => ?_, fun d a e e' => ?_, ⟨fun d t' x e => ?_, fun d d' t1 t2 x1 x2 a1 a2 e1 e2 f1 hne p1 p2 => ?_, fun d t' x e => ?_⟩, ⟨hs.fr.os, hs.fr.tape, hs.fr.output, hs.fr.size, hs.fr.heap⟩, ?_⟩
 ·by_cases hdn : d = n
  ·subst hdn; simp only; omega
  ·rw [hput d hdn] at hd
   have := hs.rng d hd
   simp only at this ⊢; omega
 ·by_cases hdn : d = n
  ·subst hdn
   rw [Phi.put_self] at e; cases e
   exact hs.new b ab hab hφb
  ·rw [hput d hdn] at e
   exact hs.new d a e e'
 ·simp only [Tr.get_set] at e
  split at e
  ·rename_i hd; subst hd; cases e
   refine ⟨ab, Phi.put_self _ _ _, ?_, fun _ => hB rfl⟩
   obtain ⟨arr, el, g1, ⟨g2, g3⟩, g4⟩ := hrb
   refine ⟨arr, el, g1, ⟨g2, fun i v hi hv => ?_⟩, g4⟩
   rw [Tr.get_fill, if_pos (by omega)] at hv
   rw [Nat.sub_zero, hr i hi] at hv
   obtain ⟨x, k1, k2⟩ := g3 i v hi hv
   exact ⟨x, k1, k2.mono hle⟩
  ·obtain ⟨a, k1, k2, k3⟩ := hs.rw.blk d t' x (hk e)
   exact ⟨a, hle _ _ k1, k2.mono hle, k3⟩
 ·have hold : ∀ {d t x}, s.h.get d = some (t, x) → d ≠ n ∧ d ≠ b := fun e => by have := (h.lt _ _ _ e).1; omega
  simp only [Tr.get_set] at e1 e2
  split at e1
  ·rename_i hd; subst hd; cases e1
   rw [Phi.put_self] at p1; cases p1
   rw [if_neg (fun e => hne e.symm)] at e2
   rw [hput d' (fun e => hne e.symm)] at p2
   exact hs.rw.inj b d' _ _ _ _ _ _ he (hk e2) rfl (hold e2).2.symm hab p2
  ·rename_i hd
   rw [hput d hd] at p1
   split at e2
   ·rename_i hd'; subst hd'; cases e2
    rw [Phi.put_self] at p2; cases p2
    exact hs.rw.inj d b _ _ _ _ _ _ (hk e1) he f1 (hold e1).2 p1 hab
   ·rename_i hd'
    rw [hput d' hd'] at p2
    exact hs.rw.inj d d' _ _ _ _ _ _ (hk e1) (hk e2) f1 hne p1 p2
 ·simp only [Tr.get_set] at e
  split at e
  ·rename_i hd; subst hd; cases e; exact ⟨Nat.lt_succ_self _, Nat.le_refl _⟩
  ·have := h.lt d t' x e; simp only; omega
 ·refine ⟨by simp only; omega, Nat.le_succ _, rfl, ?_, ?_, ?_, ?_, ?_⟩
  ·intro c t' x' e le
   simp only [Tr.get_set] at e
   split at e
   ·cases e; omega
   ·exact e
  ·intro c t' x' e o
   simp only [Tr.get_set]
   rw [if_neg]; exact e
   rintro rfl
   have := (h.lt _ _ _ e).1; omega
  ·intro c t' x' e f
   simp only [Tr.get_set] at e
   split at e
   ·cases e; cases f
   ·exact e
  ·intro c hc e
   simp only [Tr.get_set]
   rw [if_neg (by omega)]; exact e
  ·intro c t' x' e
   simp only [Tr.get_set] at e
   split at e
   ·cases e; rename_i hc; subst hc; exact ⟨Nat.lt_succ_self _, Nat.le_refl _⟩
   ·have := h.lt _ _ _ e; exact ⟨by simp only; omega, Nat.le_succ_of_le this.2⟩
omit [Facts] [zAc] in
theorem beqV_eq : ∀ {a b : Tr AV}, Tr.beqV a b = true → a = b := by
 intro a
 induction a with
 | lf => intro b h; cases b with | lf => rfl | nd l v r => cases h
 | nd l v r ihl ihr =>
  intro b h
  cases b with
  | lf => cases h
  | nd l' v' r' =>
   simp only [Tr.beqV, Bool.and_eq_true] at h
   obtain ⟨h1, h2, h3⟩ := h
   rw [ihl h2, ihr h3]
   congr 1
   split at h1
   ·rfl
   ·rw [AV.beq_eq h1]
   ·cases h1
omit [Facts] [zAc] in
theorem beqE_eq : ∀ {a b : List (AV × AV × Nat)}, beqE a b = true → a = b := by
 intro a
 induction a with
 | nil => intro b h; cases b with | nil => rfl | cons y b => cases h
 | cons x a ih =>
  intro b h
  cases b with
  | nil => obtain ⟨_, _, _⟩ := x; cases h
  | cons y b =>
   obtain ⟨p, q, n⟩ := x
   obtain ⟨p', q', n'⟩ := y
   simp only [beqE, Bool.and_eq_true] at h
   obtain ⟨h1, h2, h3, h4⟩ := h
   rw [AV.beq_eq h1, AV.beq_eq h2, Nat.eq_of_beq_eq_true h3, ih h4]
omit [Facts] [zAc] in
theorem Blk.beq_eq {a b : Blk} (h : Blk.beq a b = true) : a = b := by
 unfold Blk.beq at h
 split at h
 ·simp only [Bool.and_eq_true, beq_iff_eq] at h
  rw [beqV_eq h.1, Nat.eq_of_beq_eq_true h.2.1, h.2.2]
 ·simp only [Bool.and_eq_true] at h
  rw [beqE_eq h.1, Nat.eq_of_beq_eq_true h.2]
 ·cases h
omit [Facts] [zAc] in
theorem sameT_ok (n clk : Nat) : ∀ (t t' : Tr (Nat × Blk)) (b st i : Nat), 1 ≤ st → sameT n clk t t' b st = true → b + st * i < n → ∀ c x, t.get i = some (c, x) → ∃ c' x', t'.get i = some (c', x') ∧ ((c ≤ clk ∧ c' ≤ clk) ∨ x = x') := by
 intro t
 induction t with
 | lf => intro t' b st i _ _ _ c x e; cases e
 | nd l v r ihl ihr =>
  intro t' b st i hst h hi c x e
  simp only [sameT] at h
  have hb : Nat.ble n b = false := by
   cases hb : Nat.ble n b
   ·rfl
   ·have := Nat.le_of_ble_eq_true hb; omega
  rw [hb, cond_false] at h
  simp only [Bool.and_eq_true] at h
  obtain ⟨h1, h2, h3⟩ := h
  have hget : ∀ i, t'.get i = if i = 0 then t'.top else if i % 2 = 1 then t'.left.get (i / 2) else t'.right.get (i / 2 - 1) := fun i => by
   cases t' with
   | lf => simp only [Tr.top, Tr.left, Tr.right, Tr.get]; repeat' split
           all_goals rfl
   | nd l' v' r' => rw [Tr.get_nd]; rfl
  rw [hget]
  rw [Tr.get_nd] at e
  by_cases h0 : i = 0
  ·rw [if_pos h0] at e ⊢
   subst e
   cases ht : t'.top with
   | none => rw [ht] at h1; cases h1
   | some p =>
    obtain ⟨t2, x2⟩ := p
    rw [ht] at h1
    refine ⟨_, _, rfl, ?_⟩
    have h1 : ((Nat.ble c clk && Nat.ble t2 clk) || Blk.beq x x2) = true := h1
    simp only [Bool.or_eq_true, Bool.and_eq_true] at h1
    rcases h1 with ⟨k1, k2⟩ | k
    ·exact .inl ⟨Nat.le_of_ble_eq_true k1, Nat.le_of_ble_eq_true k2⟩
    ·exact .inr (Blk.beq_eq k)
  ·rw [if_neg h0] at e ⊢
   by_cases hp : i % 2 = 1
   ·rw [if_pos hp] at e ⊢
    refine ihl _ _ _ _ (by omega) h2 ?_ _ _ e
    have : b + st + (st + st) * (i / 2) = b + st * i := by
     have : i = 2 * (i / 2) + 1 := by omega
     generalize i / 2 = j at *
     subst this
     rw [Nat.mul_add, Nat.mul_one, Nat.add_mul, ← Nat.mul_assoc, Nat.mul_comm st 2, Nat.two_mul, Nat.add_mul]
     omega
    omega
   ·rw [if_neg hp] at e ⊢
    refine ihr _ _ _ _ (by omega) h3 ?_ _ _ e
    have : b + (st + st) + (st + st) * (i / 2 - 1) = b + st * i := by
     have : i = 2 * (i / 2 - 1) + 2 := by omega
     generalize i / 2 - 1 = j at *
     subst this
     rw [Nat.mul_add, Nat.mul_comm st 2, Nat.add_mul, ← Nat.mul_assoc, Nat.mul_comm st 2, Nat.two_mul, Nat.add_mul]
     omega
    omega
theorem mergeW_ok {m : M AV} {Q : World → Value → World → Prop} (hm : zAb m) (h : RW φ B s w)
  (hw : (m s).wp fun v s' => s'.n ≤ N → ∃ ψ w' x, Stp φ B s w ψ s' w' ∧ RV ψ v x ∧ Q w x w') :
  (mergeW m s).wp fun v s' => s'.n ≤ N → ∃ ψ w' x, Stp φ B s w ψ s' w' ∧ RV ψ v x ∧ Q w x w' := by
 have ht := hm s h.lt
 unfold mergeW
 cases e : m s with
 | bad y => trivial
 | ok a s1 =>
  rw [e] at hw ht
  have u1 : Up s s1 := ht
  intro hN
  obtain ⟨ψ, w', x, q1, q2, q3⟩ := hw hN
  refine ⟨ψ, w', x, ?_, q2, q3⟩
  have get : ∀ b x, (Tr.downTo s.n s1.h 0 1).get b = some x → b < s.n ∧ s1.h.get b = some x := fun b x e => by
   rw [zEx _ _ _ _ _ (Nat.le_refl 1)] at e
   split at e
   ·exact ⟨by omega, e⟩
   ·cases e
  have put : ∀ b x, b < s.n → s1.h.get b = x → (Tr.downTo s.n s1.h 0 1).get b = x := fun b x hb e => by
   rw [zEx _ _ _ _ _ (Nat.le_refl 1), if_pos (by omega)]; exact e
  refine ⟨q1.le, q1.rng, q1.new, ⟨fun b c x e => q1.rw.blk b c x (get b _ e).2, fun b b' c c' x x' a a' e e' => q1.rw.inj b b' c c' x x' a a' (get b _ e).2 (get b' _ e').2, fun b c x e => q1.rw.lt b c x (get b _ e).2⟩, q1.fr, ?_⟩
  exact ⟨u1.n, u1.clk, u1.lim, fun b t x e le => u1.old b t x (get b _ e).2 le, fun b t x e o => put b _ (h.lt b t x e).1 (u1.kept b t x e o), fun b t x e f => u1.fixed b t x (get b _ e).2 f, fun b hb e => put b _ hb (u1.dead b hb e), fun b t x e => u1.wf b t x (get b _ e).2⟩
 | ask n k =>
  rw [e] at hw ht
  dsimp only
  cases he : (R.ask n k).ends with
  | none => trivial
  | some l =>
   have hall := R.All_ends ht he
   cases l with
   | nil => trivial
   | cons x l =>
    obtain ⟨a, s1⟩ := x
    have u1 : Up s s1 := hall (a, s1) (by simp)
    obtain ⟨⟨a2, s2⟩, hmem, hq⟩ := R.wp_ends hw he
    dsimp only at hq ⊢
    cases hme : zHc a s.n s.clk s1.h ((a, s1) :: l) s1.n s1.clk with
    | none => trivial
    | some p =>
     obtain ⟨N', C'⟩ := p
     dsimp only
     intro hN
     simp only at hN
     obtain ⟨g1, g2, g3⟩ := zOl hme
     obtain ⟨k1, k2, k3⟩ := g3 _ hmem
     simp only at k1 k2 k3
     have ha := AV.beq_eq k1
     subst ha
     obtain ⟨ψ, w', x, q1, q2, q3⟩ := hq (by omega)
     refine ⟨ψ, w', x, ?_, q2, q3⟩
     have u2 := q1.up
     have hn := u1.n
     have hc := u1.clk
     have get : ∀ b c x, (Tr.downTo s.n s1.h 0 1).get b = some (c, x) → b < s.n ∧ s1.h.get b = some (c, x) ∧ ∃ c', s2.h.get b = some (c', x) := fun b c x e => by
      rw [zEx _ _ _ _ _ (Nat.le_refl 1)] at e
      split at e
      ·rename_i hb
       obtain ⟨c', x', e2, e3⟩ := sameT_ok _ _ _ _ _ _ _ (Nat.le_refl 1) k2 hb _ _ e
       refine ⟨by omega, e, c', ?_⟩
       rcases e3 with ⟨d1, d2⟩ | rfl
       ·have o1 := u1.old b c x e d1
        have o2 := u2.old b c' x' e2 d2
        rw [o1] at o2; cases o2
        exact e2
       ·exact e2
      ·cases e
     have put : ∀ b x, b < s.n → s1.h.get b = x → (Tr.downTo s.n s1.h 0 1).get b = x := fun b x hb e => by
      rw [zEx _ _ _ _ _ (Nat.le_refl 1), if_pos (by omega)]; exact e
     refine ⟨q1.le, fun b hb => ?_, q1.new, ⟨fun b c x e => ?_, fun b b' c c' x x' a a' e e' => ?_, fun b c x e => ?_⟩, q1.fr, ?_⟩
     ·have := q1.rng b hb
      simp only; omega
     ·obtain ⟨_, _, c', e2⟩ := get b c x e
      exact q1.rw.blk b c' x e2
     ·obtain ⟨_, _, d, e2⟩ := get b c x e
      obtain ⟨_, _, d', e2'⟩ := get b' c' x' e'
      exact q1.rw.inj b b' d d' x x' a a' e2 e2'
     ·obtain ⟨hb, e1, _⟩ := get b c x e
      have := u1.wf b c x e1
      exact ⟨by simp only; omega, by simp only; omega⟩
     ·refine ⟨by simp only; omega, by simp only; omega, rfl, fun b t x e le => u1.old b t x (get b _ _ e).2.1 le, fun b t x e o => put b _ (h.lt b t x e).1 (u1.kept b t x e o), fun b t x e f => u1.fixed b t x (get b _ _ e).2.1 f, fun b hb e => put b _ hb (u1.dead b hb e), fun b t x e => ?_⟩
      obtain ⟨hb, e1, _⟩ := get b t x e
      have := u1.wf b t x e1
      exact ⟨by simp only; omega, by simp only; omega⟩
theorem merge_ok {m : M AV} {Q : World → Value → World → Prop} (hm : zAb m) (h : RW φ B s w) (hf : zEj φ s.n N)
  (hw : (m { s with lim := s.n }).wp fun v s' => s'.n ≤ N → ∃ ψ w' x, Stp φ B { s with lim := s.n } w ψ s' w' ∧ RV ψ v x ∧ Q w x w') :
  (mergeM m s).wp fun v s' => s'.n ≤ N → ∃ ψ w' x, Stp φ B s w ψ s' w' ∧ RV ψ v x ∧ Q w x w' := by
 unfold mergeM
 cases e : m { s with lim := s.n } with
 | bad y => trivial
 | ok a s1 =>
  rw [e] at hw
  intro hN
  obtain ⟨ψ, w', x, q1, q2, q3⟩ := hw hN
  have hu := q1.up
  refine ⟨ψ, w', x, ⟨q1.le, q1.rng, q1.new, ⟨q1.rw.blk, q1.rw.inj, q1.rw.lt⟩, ⟨q1.fr.os, q1.fr.tape, q1.fr.output, q1.fr.size, q1.fr.heap⟩, ?_⟩, q2, q3⟩
  exact ⟨hu.n, hu.clk, rfl, hu.old, fun b t x e o => hu.kept b t x e (o.imp (fun _ => (h.lt _ _ _ e).1) id), hu.fixed, hu.dead, hu.wf⟩
 | ask n k =>
  rw [e] at hw
  dsimp only
  cases he : (R.ask n k).ends with
  | none => trivial
  | some l =>
   cases l with
   | nil => trivial
   | cons x l =>
    obtain ⟨a, s1⟩ := x
    obtain ⟨⟨a2, s2⟩, hmem, hq⟩ := R.wp_ends hw he
    dsimp only at hq ⊢
    cases hp : plainV a with
    | true =>
     dsimp only [cond_true]
     cases hmg : zGu a l s1.n with
     | none => trivial
     | some n' =>
      intro hN
      obtain ⟨g1, g2⟩ := zMj hmg
      have hall : a = a2 ∧ s2.n ≤ n' := by
       rcases List.mem_cons.1 hmem with e | hmem
       ·cases e; exact ⟨rfl, g1⟩
       ·obtain ⟨k1, k2⟩ := g2 _ hmem; exact ⟨AV.beq_eq k1, k2⟩
      obtain ⟨rfl, hle⟩ := hall
      obtain ⟨ψ, w', x, q1, q2, q3⟩ := hq (Nat.le_trans hle hN)
      exact ⟨ψ, w', x, plain_stp h q1 hle, q2, q3⟩
    | false =>
     dsimp only [cond_false]
     cases ho : ownRow s.n a s1 with
     | none => trivial
     | some p =>
      obtain ⟨z, r⟩ := p
      dsimp only
      cases hmg : zKl s.n z r l s1.n with
      | none => cases a <;> trivial
      | some n' =>
       obtain ⟨b, len, t, c, rfl, hb, hgb, hlen, hz, hget⟩ := ownRow_eq ho
       dsimp only
       intro hN
       obtain ⟨g1, g2⟩ := mergeRow_le hmg
       have hall : ownRow s.n a2 s2 = some (z, r) ∧ s2.n ≤ n' := by
        rcases List.mem_cons.1 hmem with e | hmem
        ·cases e; exact ⟨ho, g1⟩
        ·obtain ⟨⟨r', k1, k2⟩, k3⟩ := g2 _ hmem
         rw [AV.beqL_eq k2]; exact ⟨k1, k3⟩
       obtain ⟨ho2, hle⟩ := hall
       obtain ⟨b2, len2, t2, c2, rfl, hb2, hgb2, hlen2, _, hget2⟩ := ownRow_eq ho2
       have hll : len2 = len := Nat.eq_of_mul_eq_mul_right hz (hlen2.symm.trans hlen)
       subst hll
       simp only at hN
       obtain ⟨ψ, w', x, q1, q2, q3⟩ := hq (by omega)
       cases q2 with | sl e0 hc hl' hof =>
       rename_i a0 o0 c0
       refine ⟨_, w', _, row_stp h hf q1 hle hN hb2 hgb2 hget2 e0, ?_, q3⟩
       exact .sl (Phi.put_self _ _ _) hc hl' hof
end
end
end Go.Abs
namespace Go.Abs
noncomputable section
variable [Facts] [zAc]
open Go.RowKit (Below)
section
variable {P : Program} {φ ψ : Phi} {B N : Nat} {s s' : HS} {w w' : World}
def KnownAs (P : Program) (B : Nat) (g : FuncId) (k : List AV → M AV) (ok : CallKind → Prop) : Prop :=
 (∀ as, zAb (k as)) ∧ ∀ as s N φ w (xs : Array Value) (kind : CallKind) (cs : List Frame), ok kind → RW φ B s w → B ≤ w.heap.size → zEj φ s.n N → GOk P φ → RL φ as xs.toList →
  (k as s).wp fun v s' => s'.n ≤ N → ∃ ψ w' x, Stp φ B s w ψ s' w' ∧ RV ψ v x ∧ zKz P g xs w x w' kind cs
def zJd [zDa] (P : Program) (B : Nat) (cfg : Cfg) : Prop :=
 zFu P B ∧ (∀ g k, cfg.known g = some k → KnownAs P B g k fun kind => kind = .normal ∨ kind = .deferred) ∧ ∀ g k, cfg.knownN g = some k → KnownAs P B g k fun kind => kind = .normal
theorem FnInv_merge {g : FuncId} {xs : Array Value} {kind : CallKind} {cs : List Frame} {m : M AV} (hm : zAb m) (h : RW φ B s w) (hf : zEj φ s.n N)
  (hw : (m { s with lim := s.n }).wp fun v s' => s'.n ≤ N → ∃ ψ w' x, Stp φ B { s with lim := s.n } w ψ s' w' ∧ RV ψ v x ∧ zKz P g xs w x w' kind cs) :
  (mergeM m s).wp fun v s' => s'.n ≤ N → ∃ ψ w' x, Stp φ B s w ψ s' w' ∧ RV ψ v x ∧ zKz P g xs w x w' kind cs :=
 merge_ok (Q := fun w x w' => zKz P g xs w x w' kind cs) hm h hf hw
theorem zKr [zDa] [zGs] {cfg : Cfg} (hk : zJd P B cfg) (hr : ∀ call, zCe P B call → zFk P B call) : ∀ n, zCe P B (callN P cfg n) := by
 have tame := fun n => zAb.callN P (cfg := cfg) (fun g k e => (hk.2.1 g k e).1) (fun g k e => (hk.2.2 g k e).1) n
 have body : ∀ call, zCe P B call → ∀ g as s N φ w (xs : Array Value) (kind : CallKind) (cs : List Frame), kind = .normal ∨ kind = .deferred → RW φ B s w → B ≤ w.heap.size → zEj φ s.n N → GOk P φ → RL φ as xs.toList → (callD P cfg call g as s).wp fun v s' => s'.n ≤ N → ∃ ψ w' x, Stp φ B s w ψ s' w' ∧ RV ψ v x ∧ zKz P g xs w x w' kind cs := by
  intro call ih g as s N φ w xs kind cs hkind h hB hf hg hx
  unfold callD
  cases hkn : cfg.known g with
  | some k => exact (hk.2.1 g k hkn).2 as s N φ w xs kind cs hkind h hB hf hg hx
  | none =>
   dsimp only
   cases hfn : P.funcs[g]? with
   | none => exact zAa
   | some fn =>
    dsimp only
    cases hb : fn.body with
    | none => exact zAa
    | some c =>
     dsimp only
     by_cases hname : (fn.name == "runtime.NumGoroutine") = true
     ·rw [if_pos hname]; exact zAa
     ·rw [if_neg hname]
      have hname' : fn.name ≠ "runtime.NumGoroutine" := fun e => hname (by rw [e]; rfl)
      refine zAo (fun hlen => ?_) (fun _ => zAa)
      have hlen := Nat.le_of_ble_eq_true hlen
      refine zAo (fun _ => ?_) (fun _ => zAo (fun _ => mergeW_ok (Q := fun w x w' => zKz P g xs w x w' kind cs) (zAb.bodyA P ih.tame _ _ _ _ _) h (body_ok hk.1 ih (hr _ ih) hfn hb hname' hlen h hB hf hg hx)) (fun _ => ?_))
      ·exact FnInv_merge (zAb.bodyA P ih.tame _ _ _ _ _) h hf (body_ok hk.1 ih (hr _ ih) hfn hb hname' hlen ⟨h.blk, h.inj, h.lt⟩ hB hf hg hx)
      ·exact body_ok hk.1 ih (hr _ ih) hfn hb hname' hlen h hB hf hg hx
 intro n
 induction n with
 | zero => exact ⟨tame 0, fun _ _ _ _ _ _ _ _ _ _ _ _ _ _ _ => zAa, fun _ _ _ _ _ _ _ _ _ _ _ _ _ _ _ => zAa, fun _ _ _ _ _ _ _ _ _ _ _ _ _ _ => zAa⟩
 | succ n ih =>
  refine ⟨tame (n + 1), ?_, ?_, ?_⟩
  ·intro g as s N φ w xs kind cs hkind h hB hf hg hx
   unfold callN
   cases hkn : cfg.knownN g with
   | some k => exact (hk.2.2 g k hkn).2 as s N φ w xs kind cs hkind h hB hf hg hx
   | none => exact body _ ih g as s N φ w xs kind cs (.inl hkind) h hB hf hg hx
  ·intro g as s N φ w xs kind cs hkind h hB hf hg hx
   unfold callN
   exact body _ ih g as s N φ w xs kind cs (.inr hkind) h hB hf hg hx
  ·intro l as s N φ w xs c cs h hB hf hg hx
   unfold callN
   exact round_ok hk.1 ih (hr _ ih) c cs h hB hf hg hx
omit [zAc] in
theorem callN_both {cfg : Cfg} [zDa] (h : ∀ g, cfg.knownN g = none) (n : Nat) (g : FuncId) (as : List AV) : callN P cfg n (.f g) as = callN P cfg n (.d g) as := by
 cases n with
 | zero => rfl
 | succ n => unfold callN; rw [h g]
theorem zCe.fd [zDa] {cfg : Cfg} {n : Nat} (hc : zCe P B (callN P cfg n)) (hN : ∀ g, cfg.knownN g = none) (g : FuncId) (as : List AV) (s : HS) (N : Nat) (φ : Phi) (w : World) (xs : Array Value) (kind : CallKind) (cs : List Frame) (hkind : kind = .normal ∨ kind = .deferred) (h : RW φ B s w) (hB : B ≤ w.heap.size) (hf : zEj φ s.n N) (hg : GOk P φ) (hx : RL φ as xs.toList) :
  (callN P cfg n (.f g) as s).wp fun v s' => s'.n ≤ N → ∃ ψ w' x, Stp φ B s w ψ s' w' ∧ RV ψ v x ∧ zKz P g xs w x w' kind cs := by
 rcases hkind with hk | hk
 ·exact hc.f g as s N φ w xs kind cs hk h hB hf hg hx
 ·rw [callN_both hN]
  exact hc.d g as s N φ w xs kind cs hk h hB hf hg hx
def phi0 (G : Nat) : Phi := fun b => if b < G then some ⟨b, 0, 0⟩ else none
def R.every {α : Type} (N : Nat) (p : α → HS → Bool) : R α → Bool
 | .ok a s => p a s && Nat.ble s.n N
 | .bad _ => false
 | .ask n k => Nat.blt 0 n && go n (fun i => (k i).every N p)
where
 go : Nat → (Nat → Bool) → Bool
  | 0, _ => true
  | n + 1, f => go n f && f n
omit [Facts] [zAc] in
theorem R.every_go {f : Nat → Bool} : ∀ {n : Nat}, R.every.go n f = true → ∀ i, i < n → f i = true := by
 intro n
 induction n with
 | zero => intro _ i hi; omega
 | succ n ih =>
  intro h i hi
  simp only [R.every.go, Bool.and_eq_true] at h
  by_cases hin : i = n
  ·subst hin; exact h.2
  ·exact ih h.1 i (by omega)
omit [Facts] [zAc] in
theorem R.every_wp {α : Type} {N : Nat} {p : α → HS → Bool} {Q : α → HS → Prop} : ∀ {r : R α}, r.every N p = true → r.wp Q → ∃ a s, p a s = true ∧ s.n ≤ N ∧ Q a s
 | .ok a s, h, hq => by
  simp only [R.every, Bool.and_eq_true] at h
  exact ⟨a, s, h.1, Nat.le_of_ble_eq_true h.2, hq⟩
 | .bad _, h, _ => by simp [R.every] at h
 | .ask n k, h, hq => by
  simp only [R.every, Bool.and_eq_true] at h
  rcases hq with h0 | ⟨i, hi, hq⟩
  ·subst h0; simp at h
  ·exact R.every_wp (R.every_go h.2 i hi) hq
def zGh (G : Nat) (tabs : List (Nat × List Value)) : HS :=
 { h := tabs.foldr (fun p t => t.set p.1 (0, .ro (Tr.fill (p.2.map .val) 0 .lf) p.2.length)) .lf, n := G, clk := 0, lim := 0 }
omit [Facts] [zAc] in
theorem zGt {G : Nat} {tabs : List (Nat × List Value)} {b t : Nat} {x : Blk} (e : (zGh G tabs).h.get b = some (t, x)) : ∃ p ∈ tabs, b = p.1 ∧ t = 0 ∧ x = .ro (Tr.fill (p.2.map .val) 0 .lf) p.2.length := by
 simp only [zGh] at e
 induction tabs with
 | nil => simp [Tr.get] at e
 | cons p l ih =>
  simp only [List.foldr_cons, Tr.get_set] at e
  split at e
  ·rename_i hb; cases e; exact ⟨p, by simp, hb, rfl, rfl⟩
  ·obtain ⟨q, hq, h⟩ := ih e
   exact ⟨q, by simp [hq], h⟩
theorem Stp.below {G : Nat} {tabs : List (Nat × List Value)} (h : Stp φ B (zGh G tabs) w ψ s' w') : Below w.heap.size w w' :=
 ⟨h.fr.os, h.fr.tape, h.fr.output, h.fr.size, fun k hk => h.fr.heap k hk (fun b t x a e hx => by
  obtain ⟨p, hp, rfl, rfl, rfl⟩ := zGt e
  cases hx)⟩
def isTrue : AV → HS → Bool
 | .val (.bool b), _ => b
 | _, _ => false
end
end
end Go.Abs
namespace Go.Abs
noncomputable section
open Go.ChangeShapes Go.WideShapes Go.RowKit
variable {H : Type} {enc : TypeId × Value → H} {P : Program}
theorem post_of_below {f : Func} {s : ChangeSpec} {apart fresh handsOn again : Bool} {W W' : World} {args : Array Value} {v : Value} {ds gs : List (DataW H)} {before pa pv : List MemPlace}
  (hW : DataW.Whole enc P f.params.toList s.vars apart W args.toList ds gs before)
  (hres : ∀ (b : Nat) (sp : Nat → Bool) (hd : Bool), DataW.TrodAll enc P W' b sp hd f.resultTypes.toList (v.resultList f.resultTypes.size) (s.fn H (ds ++ gs)).results [])
  (hargs : ∀ sp : Nat → Bool, (∀ p ∈ before, sp p.block = true) → DataW.TrodAll enc P W' 0 sp true f.params.toList args.toList (s.fn H (ds ++ gs)).args pa)
  (hvars : ∀ sp : Nat → Bool, (∀ p ∈ before, sp p.block = true) → DataW.TrodVars enc P W' sp s.vars (s.fn H (ds ++ gs)).vars pv)
  (hps : before = pa ++ pv) (hk : W.keptBut W' (· ∈ before)) (hfz : ∀ a : Addr, a.block < W.heap.size → W'.frozen? a = W.frozen? a)
  (hok : ∀ (j : Nat) (t : TypeId) (r : Value), f.resultTypes[j]? = some t → (v.resultList f.resultTypes.size)[j]? = some r → Value.okWide P W' .any 0 t r) :
  s.post enc P f apart fresh handsOn again W args v W' := by
 have hold : ∀ p ∈ before, (fun b => decide (b < W.heap.size)) p.block = true := fun p hp => by simpa using hW.lt p hp
 have hlt := hW.lt
 refine ⟨ds, gs, before, [], pa, pv, hW, hres _ _ _, hargs _ hold, hvars _ hold, World.keptBut_mono (fun p hp => ⟨hp, ?_⟩) hk, fun _ => ?_⟩
 ·rw [hps, List.mem_append] at hp
  exact Or.inr hp
 ·obtain ⟨_, _, _, _, _, hz, hn⟩ := hW
  refine ⟨hok, _, _, ([] ++ pa) ++ pv, ⟨[] ++ pa, pv, trodAll_append (hargs _ (fun _ _ => rfl)) (hres _ _ _), hvars _ (fun _ _ => rfl), rfl, ?_, ?_⟩, ?_⟩
  ·intro b off hp
   have hp : MemPlace.cell b off ∈ before := by rw [hps]; simpa using hp
   rw [hfz _ (hlt _ hp)]
   exact hz b off hp
  ·intro ha
   have := hn ha
   rw [hps] at this
   simpa using this
  ·intro p hp _
   rw [hps]
   simpa using hp
end
end Go.Abs
namespace Go.Abs
noncomputable section
open Go.ChangeShapes Go.WideShapes Go.ChangeAt Go.RowKit
variable {H : Type} {enc : TypeId × Value → H} {P : Program}
theorem trodAll_stay {W W' : World} {sp : Nat → Bool} (hl : laidOutB P = true) : ∀ {ts : List TypeId} {vs : List Value} {ds : List (DataW H)} {ps : List MemPlace}, (∀ t ∈ ts, P.readableRec t = true ∧ t < P.types.size) →
  DataW.TrodAll enc P W 0 (fun _ => true) true ts vs ds ps → (∀ p ∈ ps, W.sameAt W' p) → (∀ p ∈ ps, sp p.block = true) → DataW.TrodAll enc P W' 0 sp true ts vs ds ps := by
 intro ts
 induction ts with
 | nil =>
  intro vs ds ps _ h _ _
  obtain ⟨rfl, rfl, rfl⟩ := trodAll_nil h
  exact trodAll_mk0
 | cons t ts ih =>
  intro vs ds ps hr h hs hsp
  obtain ⟨v0, vs0, d0, ds0, p0, q0, rfl, rfl, rfl, h0, r0⟩ := trodAll_cons h
  have ht := hr t (by simp)
  exact trodAll_cons_mk (WideElems.Trod_stays hl ht.1 ht.2 h0 (fun p hp => hs p (by simp [hp])) (fun p hp => hsp p (by simp [hp])))
   (ih (fun u hu => hr u (by simp [hu])) r0 (fun p hp => hs p (by simp [hp])) (fun p hp => hsp p (by simp [hp])))
theorem post_true {f : Func} {s : ChangeSpec} {fresh handsOn again : Bool} {W W' : World} {args : Array Value} {ds gs : List (DataW H)} {before : List MemPlace} {tb : TypeId}
  (hW : DataW.Whole enc P f.params.toList s.vars false W args.toList ds gs before) (hv : s.vars = []) (hl : laidOutB P = true) (hr : ∀ t ∈ f.params.toList, P.readableRec t = true ∧ t < P.types.size)
  (hrt : f.resultTypes = #[tb]) (htb : P.underlying tb = some .bool)
  (hfn : (s.fn H ds).results = [.lit (.bool true)] ∧ (s.fn H ds).args = ds ∧ (s.fn H ds).vars = []) (hb : Below W.heap.size W W') :
  s.post enc P f false fresh handsOn again W args (.bool true) W' := by
 have hW' := hW
 have hlt := hW.lt
 obtain ⟨p, q, hA, hV, hpq, hfz, hnd⟩ := hW
 rw [hv] at hV
 obtain ⟨rfl, rfl⟩ := trodVars_none hV
 simp only [List.append_nil] at hpq
 subst hpq
 obtain ⟨f1, f2, f3⟩ := hfn
 have hr1 : f.resultTypes.toList = [tb] := by rw [hrt]
 have hr2 : (Value.bool true).resultList f.resultTypes.size = [.bool true] := by rw [hrt]; rfl
 refine post_of_below (pa := before) (pv := []) hW' (fun b sp hd => ?_) (fun sp hsp => ?_) (fun sp hsp => ?_) (by simp) (hb.frame _) (fun a ha => hb.frozen ha) ?_
 ·rw [List.append_nil, f1, hr1, hr2]
  exact trodAll_cons_mk (shut_bool htb _) trodAll_mk0
 ·rw [List.append_nil, f2]
  exact trodAll_stay hl hr hA (fun p hp => hb.same (hlt p hp)) hsp
 ·rw [List.append_nil, f3, hv]
  exact rfl
 ·exact ok_one hrt rfl (okWide_bool_mk htb _)
theorem cell_slice {W : World} {base : Nat} {u e : TypeId} {v : Value} (h : Cell.okWide P W .any base u v) (hu : P.underlying u = some (.slice e)) : ∃ p n c, v = .slice p n c := by
 unfold Cell.okWide at h
 rw [hu] at h
 cases v <;> simp [Cell.ok, hu] at h
 exact ⟨_, _, _, rfl⟩
end
end Go.Abs
namespace Go.Abs
noncomputable section
open Go.ChangeShapes Go.WideShapes Go.ChangeAt Go.RowKit
variable {H : Type} {enc : TypeId × Value → H} {P : Program} {w : World} {base : Nat} {spare : Nat → Bool} {held : Bool}
end
end Go.Abs
namespace Go.Abs
noncomputable section
open Go.ChangeShapes Go.WideShapes Go.ChangeAt Go.RowKit
variable {P : Program}
theorem mid_of {k : IntKind} {n : Int} (h : kmin k ≤ n ∧ n ≤ kmax k) : -9223372036854775808 ≤ n ∧ n ≤ 18446744073709551615 := by
 cases k <;> simp only [kmin, kmax] at h <;> omega
theorem mid_zero : -9223372036854775808 ≤ (0 : Int) ∧ (0 : Int) ≤ 18446744073709551615 := by omega
theorem has_mid {k : IntKind} {n : Int} (h : k.has n) : kmin k ≤ n ∧ n ≤ kmax k := by
 unfold IntKind.has at h
 cases k <;> simp [IntKind.min, IntKind.max, IntKind.signed, IntKind.bits] at h <;> simp only [kmin, kmax] <;> omega
theorem cell_mid {W : World} {base : Nat} {u : TypeId} {v : Value} {k : IntKind} (h : Cell.okWide P W .any base u v) (hu : P.underlying u = some (.int k)) : ∃ x, v = .int k x ∧ kmin k ≤ x ∧ x ≤ kmax k := by
 unfold Cell.okWide at h
 rw [hu] at h
 cases v <;> simp [Cell.ok, hu] at h
 obtain ⟨rfl, h⟩ := h
 exact ⟨_, rfl, has_mid h⟩
theorem arg_mid {W : World} {base : Nat} {u : TypeId} {v : Value} {k : IntKind} (h : Value.okWide P W .any base u v) (hu : P.underlying u = some (.int k)) : ∃ x, v = .int k x ∧ kmin k ≤ x ∧ x ≤ kmax k := by
 unfold Value.okWide at h
 rw [hu] at h
 exact cell_mid h hu
theorem trodAll_length {H : Type} {enc : TypeId × Value → H} {W : World} {b : Nat} {sp : Nat → Bool} {hd : Bool} : ∀ {ts : List TypeId} {vs : List Value} {ds : List (DataW H)} {ps : List MemPlace}, DataW.TrodAll enc P W b sp hd ts vs ds ps → vs.length = ts.length ∧ ds.length = ts.length := by
 intro ts
 induction ts with
 | nil =>
  intro vs ds ps h
  obtain ⟨rfl, rfl, rfl⟩ := trodAll_nil h
  exact ⟨rfl, rfl⟩
 | cons t ts ih =>
  intro vs ds ps h
  obtain ⟨v0, vs0, d0, ds0, p0, q0, rfl, rfl, rfl, h0, r0⟩ := trodAll_cons h
  have := ih r0
  exact ⟨by simp [this.1], by simp [this.2]⟩
theorem args_length {H : Type} {enc : TypeId × Value → H} {f : Func} {vars : List String} {W : World} {args : Array Value} {ds gs : List (DataW H)} {before : List MemPlace} {n : Nat} (hn : f.params.toList.length = n) (hW : DataW.Whole enc P f.params.toList vars false W args.toList ds gs before) :
  (∃ l : List Value, args = ⟨l⟩ ∧ l.length = n) ∧ ds.length = n := by
 obtain ⟨p, q, hA, _⟩ := hW
 have := trodAll_length hA
 exact ⟨⟨args.toList, rfl, by rw [this.1, hn]⟩, by rw [this.2, hn]⟩
end
end Go.Abs
namespace Go.Abs
noncomputable section
section
variable {P : Program}
def zMc (c : Tr AV) : Nat → List Value → Bool
 | _, [] => true
 | i, v :: l => (match c.get i with
  | some (.val x) => valBeq x v
  | _ => false) && zMc c (i + 1) l
def tabIn (s : HS) (p : Nat × List Value) : Bool :=
 match s.h.get p.1 with
 | some (_, .ro c n) => Nat.ble p.2.length n && zMc c 0 p.2
 | _ => false
def HasTabs' (G : Nat) (tabs : List (Nat × List Value)) (w : World) : Prop :=
 ∀ p ∈ tabs, p.1 < G ∧ ∃ arr el fz, w.heap[p.1]? = some (.cells arr el fz) ∧ ∀ (i : Nat) v, p.2[i]? = some v → arr[i]? = some v
theorem sameCells_ok {φ : Phi} [Facts] [zAc] {c : Tr AV} {n : Nat} {arr : Array Value} (hc : Cells φ c n 0 arr) : ∀ (l : List Value) (i : Nat), i + l.length ≤ n → zMc c i l = true → ∀ (j : Nat) v, l[j]? = some v → arr[i + j]? = some v := by
 intro l
 induction l with
 | nil => intro i _ _ j v h; simp at h
 | cons x l ih =>
  intro i hn h j v hj
  simp only [zMc, Bool.and_eq_true] at h
  simp only [List.length_cons] at hn
  cases j with
  | zero =>
   simp only [List.getElem?_cons_zero, Option.some.injEq] at hj
   subst hj
   cases hg : c.get i with
   | none => rw [hg] at h; simp at h
   | some y =>
    rw [hg] at h
    cases y <;> first | (simp at h; done) | skip
    rename_i y
    have := valBeq_eq h.1
    subst this
    obtain ⟨z, h1, h2⟩ := hc.2 i _ (by omega) hg
    cases h2
    simpa using h1
  | succ j =>
   have := ih (i + 1) (by omega) h.2 j v (by simpa using hj)
   rw [show i + (j + 1) = i + 1 + j by omega]
   exact this
theorem tabs_in {φ : Phi} [Facts] [zAc] {B : Nat} {s : HS} {w : World} {tabs : List (Nat × List Value)} (h : RW φ B s w) (hg : GOk P φ) (hlt : ∀ p ∈ tabs, p.1 < P.globals.size) (ht : tabs.all (tabIn s) = true) : HasTabs' P.globals.size tabs w := by
 intro p hp
 have := List.all_eq_true.1 ht p hp
 unfold tabIn at this
 split at this
 ·rename_i t c n e
  simp only [Bool.and_eq_true] at this
  obtain ⟨a, ha, ⟨arr, el, fz, h1, h2⟩, _⟩ := h.blk _ _ _ e
  have hpg := hg p.1 (hlt p hp)
  rw [ha] at hpg
  cases hpg
  refine ⟨hlt p hp, arr, el, fz, h1, fun i v hv => ?_⟩
  have := sameCells_ok h2 p.2 0 (by have := Nat.le_of_ble_eq_true this.1; omega) this.2 i v hv
  simpa using this
 ·cases this
theorem start_rw' [Facts] [zAc] {G : Nat} (B : Nat) {tabs : List (Nat × List Value)} {w : World} (h : HasTabs' G tabs w) : RW (phi0 G) B (zGh G tabs) w := by
 refine ⟨fun b t x e => ?_, fun b b' t t' x x' a a' e e' hx => ?_, fun b t x e => ?_⟩
 ·obtain ⟨p, hp, rfl, rfl, rfl⟩ := zGt e
  obtain ⟨hlt, arr, el, fz, h1, h2⟩ := h p hp
  have hsz : p.2.length ≤ arr.size := by
   rcases Nat.eq_zero_or_pos p.2.length with h0 | h0
   ·omega
   ·have := h2 (p.2.length - 1) p.2[p.2.length - 1] (List.getElem?_eq_getElem (by omega))
    have := (Array.getElem?_eq_some_iff.1 this).1
    omega
  refine ⟨⟨p.1, 0, 0⟩, by simp [phi0, hlt], ⟨arr, el, fz, h1, by simpa using hsz, fun i v hi hv => ?_⟩, fun hf => by cases hf⟩
  rw [Tr.get_fill, if_pos (by simp; exact hi)] at hv
  simp only [Nat.sub_zero, List.getElem?_map, Option.map_eq_some_iff] at hv
  obtain ⟨y, hy, rfl⟩ := hv
  exact ⟨y, by simpa using h2 i y hy, .val y⟩
 ·obtain ⟨p, hp, rfl, rfl, rfl⟩ := zGt e
  cases hx
 ·obtain ⟨p, hp, rfl, rfl, rfl⟩ := zGt e
  exact ⟨(h p hp).1, Nat.le_refl _⟩
def zMm (g : FuncId) (tabs : List (Nat × List Value)) (g' : FuncId) : Option (List AV → M AV) :=
 bif Nat.beq g' g then some (fun as s => match as with
  | [] => bif tabs.all (tabIn s) then .ok (.val (.bool true)) s else .bad "other tables"
  | _ => .bad "arguments") else none
def cfg0 (fuel : Nat) : Cfg := { mg := fun _ => false, known := fun _ => none, fuel := fuel }
theorem below_stp {φ : Phi} [Facts] [zAc] {B : Nat} {s : HS} {w w' : World} (h : RW φ B s w) (hb : RowKit.Below w.heap.size w w') : Stp φ B s w φ s w' := by
 have hkeep : ∀ r, r < w.heap.size → w'.heap[r]? = w.heap[r]? := fun r hr => hb.block r hr
 refine ⟨φ.le_refl, fun b hb => (hb rfl).elim, fun b a e e' => (by rw [e] at e'; cases e'), ⟨fun b t x e => ?_, h.inj, h.lt⟩, ⟨hb.os, hb.tape, hb.output, hb.size, fun r hr _ => hkeep r hr⟩, Up.refl h.wf⟩
 obtain ⟨a, ha, h1, h2⟩ := h.blk b t x e
 exact ⟨a, ha, h1.of_heap (hkeep _ h1.lt), h2⟩
instance noTame : @zGs noLoops := letI := noLoops; ⟨fun _ _ _ e => by cases e⟩
theorem zNt [Facts] [zAc] {P : Program} {B : Nat} : @zFu _ _ noLoops P B := fun _ _ _ e => by cases e
theorem closed_run {g : FuncId} {n N fuel : Nat} {tabs : List (Nat × List Value)} (hr : ∀ [Facts] [zAc] B call, zCe P B call → zFk P B call)
  (hrun : ((letI : Facts := ⟨[]⟩; letI := noLoops; callN P (cfg0 fuel) n (.f g) [] (zGh P.globals.size tabs)).every N isTrue) = true) {w : World} (hw : HasTabs' P.globals.size tabs w) {kind : CallKind} (hkind : kind = .normal ∨ kind = .deferred) (cs : List Frame) :
  ∃ w', RowKit.Below w.heap.size w w' ∧ zKz P g #[] w (.bool true) w' kind cs := by
 letI F : Facts := ⟨[]⟩
 letI := noLoops
 letI V : zAc := ⟨fun _ => 0, fun p hp => (List.not_mem_nil hp).elim, (fun i => ⟨by decide, by decide⟩), []⟩
 have hc := zKr (P := P) (B := w.heap.size) (cfg := cfg0 fuel) ⟨zNt, (fun g k e => by cases e), fun g k e => by cases e⟩ (hr w.heap.size) n
 have := hc.fd (fun _ => rfl) g [] (zGh P.globals.size tabs) N (phi0 P.globals.size) w #[] kind cs hkind (start_rw' _ hw) (Nat.le_refl _)
  (fun b hb _ => by simp only [zGh] at hb; simp [phi0]; omega) (fun g hg => by simp [phi0, hg]) .nil
 obtain ⟨v, s', hp, hN, hq⟩ := R.every_wp hrun this
 obtain ⟨ψ, w', x, q1, q2, q3⟩ := hq hN
 refine ⟨w', q1.below, ?_⟩
 unfold isTrue at hp
 split at hp
 ·cases q2; subst hp; exact q3
 ·cases hp
theorem know_ok [Facts] [zAc] [zDa] (hlo : ∀ B, zFu P B) {g : FuncId} {n N fuel : Nat} {tabs : List (Nat × List Value)} (hr : ∀ [Facts] [zAc] B call, zCe P B call → zFk P B call) (hlt : ∀ p ∈ tabs, p.1 < P.globals.size)
  (hrun : ((letI : Facts := ⟨[]⟩; letI := noLoops; callN P (cfg0 fuel) n (.f g) [] (zGh P.globals.size tabs)).every N isTrue) = true) (cfg : Cfg) (hk : cfg.known = zMm g tabs) (B : Nat) (hN : ∀ g, cfg.knownN g = none := by intro _; rfl) : zJd P B cfg := by
 refine ⟨hlo B, ?_, fun g' k e => by rw [hN] at e; cases e⟩
 intro g' k e
 rw [hk] at e
 unfold zMm at e
 rcases zDs e with ⟨hg, e⟩ | ⟨_, e⟩
 ·cases e
  have hg := Nat.eq_of_beq_eq_true hg
  subst hg
  refine ⟨fun as s hs => ?_, fun as s N' φ w xs kind cs hkind h hB hf hgo hx => ?_⟩
  ·cases as with
   | nil =>
    dsimp only
    cases (tabs.all (tabIn s))
    ·trivial
    ·exact Up.refl hs
   | cons _ _ => trivial
  ·cases as with
   | cons _ _ => trivial
   | nil =>
    dsimp only
    cases ht : tabs.all (tabIn s)
    ·trivial
    ·intro _
     have htab := tabs_in h hgo hlt ht
     have hxs : xs = #[] := by
      cases hx' : xs.toList with
      | nil => exact Array.toList_eq_nil_iff.1 hx'
      | cons _ _ => rw [hx'] at hx; cases hx
     subst hxs
     obtain ⟨w', h1, h2⟩ := closed_run (P := P) hr hrun htab hkind cs
     exact ⟨φ, w', .bool true, below_stp h h1, .val _, h2⟩
 ·cases e
end
end
end Go.Abs
namespace Go.Abs
noncomputable section
section
variable {P : Program}
theorem RW.retake {F : Facts} {V : @zAc F} {F' : Facts} {V' : @zAc F'} {φ φ' : Phi} {B : Nat} {s s' : HS} {w : World} (m : Nat → Nat) (h : @RW F V φ B s w)
  (hs : ∀ b t x', s'.h.get b = some (t, x') → b < s'.n ∧ t ≤ s'.clk ∧ ∃ t0 x, s.h.get (m b) = some (t0, x) ∧ φ' b = φ (m b) ∧ (x'.fixed = false → x.fixed = false) ∧ ∀ a, φ (m b) = some a → @RB F V φ w a x → @RB F' V' φ' w a x')
  (hinj : ∀ b b' t t' x x', s'.h.get b = some (t, x) → s'.h.get b' = some (t', x') → x.fixed = false → b ≠ b' → m b ≠ m b') :
  @RW F' V' φ' B s' w := by
 refine @RW.mk F' V' φ' B s' w (fun b t x' e => ?_) (fun b b' t t' x x' a a' e e' hx hne ha ha' => ?_) (fun b t x e => ?_)
 ·obtain ⟨_, _, t0, x, h1, h2, h3, h4⟩ := hs b t x' e
  obtain ⟨a, ha, hb, hB⟩ := @RW.blk F V φ B s w h (m b) t0 x h1
  exact ⟨a, by rw [h2]; exact ha, h4 a ha hb, fun hf => hB (h3 hf)⟩
 ·obtain ⟨_, _, t0, y, h1, h2, h3, _⟩ := hs b t x e
  obtain ⟨_, _, t0', y', h1', h2', h3', _⟩ := hs b' t' x' e'
  rw [h2] at ha
  rw [h2'] at ha'
  exact @RW.inj F V φ B s w h (m b) (m b') t0 t0' y y' a a' h1 h1' (h3 hx) (hinj b b' t t' x x' e e' hx hne) ha ha'
 ·obtain ⟨h1, h2, _⟩ := hs b t x e
  exact ⟨h1, h2⟩
end
end
end Go.Abs
namespace Go.Abs
noncomputable section
def subs : Code → List Code
 | .seq a b => .seq a b :: (subs a ++ subs b)
 | .cond o a b => .cond o a b :: (subs a ++ subs b)
 | .block id b => .block id b :: subs b
 | .loop b => .loop b :: subs b
 | .scope b => .scope b :: subs b
 | c => [c]
theorem zFy (c : Code) : c ∈ subs c := by
 cases c <;> simp [subs]
theorem zFn {c d : Code} : ∀ {e : Code}, c ∈ subs d → d ∈ subs e → c ∈ subs e := by
 intro e
 induction e with
 | seq a b iha ihb =>
  intro h1 h2
  simp only [subs, List.mem_cons, List.mem_append] at h2 ⊢
  rcases h2 with rfl | h2 | h2
  ·simpa only [subs, List.mem_cons, List.mem_append] using h1
  ·exact .inr (.inl (iha h1 h2))
  ·exact .inr (.inr (ihb h1 h2))
 | cond o a b iha ihb =>
  intro h1 h2
  simp only [subs, List.mem_cons, List.mem_append] at h2 ⊢
  rcases h2 with rfl | h2 | h2
  ·simpa only [subs, List.mem_cons, List.mem_append] using h1
  ·exact .inr (.inl (iha h1 h2))
  ·exact .inr (.inr (ihb h1 h2))
 | block id b ih | loop b ih | scope b ih =>
  intro h1 h2
  simp only [subs, List.mem_cons] at h2 ⊢
  rcases h2 with rfl | h2
  ·simpa only [subs, List.mem_cons] using h1
  ·exact .inr (ih h1 h2)
 | _ =>
  intro h1 h2
  simp only [subs, List.mem_singleton] at h2
  subst h2
  exact h1
theorem Sub.mem {c d : Code} (h : Sub c d) : c ∈ subs d := by
 induction h with
 | refl c => exact zFy c
 | seqL _ ih => exact zFn (by simp [subs, zFy]) ih
 | seqR _ ih => exact zFn (by simp [subs, zFy]) ih
 | condL _ ih => exact zFn (by simp [subs, zFy]) ih
 | condR _ ih => exact zFn (by simp [subs, zFy]) ih
 | block _ ih => exact zFn (by simp [subs, zFy]) ih
 | loop _ ih => exact zFn (by simp [subs, zFy]) ih
 | scope _ ih => exact zFn (by simp [subs, zFy]) ih
def zBm (key : Nat) : List Code → List Code
 | [] => []
 | .loop b :: l => bif Nat.beq (keyOf b) key then b :: zBm key l else zBm key l
 | _ :: l => zBm key l
theorem loopsKey_mem {key : Nat} {b : Code} (hk : keyOf b = key) : ∀ {l : List Code}, .loop b ∈ l → b ∈ zBm key l := by
 intro l
 induction l with
 | nil => intro h; cases h
 | cons c l ih =>
  intro h
  rcases List.mem_cons.1 h with rfl | h'
  ·simp only [zBm]
   rw [show Nat.beq (keyOf b) key = true by rw [hk]; exact Nat.beq_refl key]
   simp
  ·cases c <;> simp only [zBm] <;> first | exact ih h' | skip
   cases Nat.beq (keyOf _) key
   ·exact ih h'
   ·exact List.mem_cons_of_mem _ (ih h')
theorem loop_is {P : Program} {fn : FuncId} {func : Func} {body b b0 : Code} {key : Nat} (hf : P.funcs[fn]? = some func) (hb : func.body = some body)
  (h0 : ((P.funcs[fn]?).bind (·.body)).map (fun c => zBm key (subs c)) = some [b0]) (hs : Sub (.loop b) body) (hk : keyOf b = key) : b = b0 := by
 rw [hf] at h0
 simp only [Option.bind_some, hb, Option.map_some, Option.some.injEq] at h0
 have := loopsKey_mem hk hs.mem
 rw [h0, List.mem_singleton] at this
 exact this
section
variable [Facts] [zAc] [zDa] [zGs] {P : Program} {φ ψ : Phi} {B N : Nat} {s s' : HS} {w w' : World}
omit [zDa] [zGs] in
theorem Stp.belowB (h : RW φ B s w) (k : Stp φ B s w ψ s' w') (hB : B ≤ w.heap.size) : RowKit.Below B w w' :=
 ⟨k.fr.os, k.fr.tape, k.fr.output, k.fr.size, fun r hr => k.fr.heap r (by omega) (fun b t x a e hx ha => by
  obtain ⟨a', ha', _, h3⟩ := h.blk b t x e
  rw [ha] at ha'; cases ha'
  have := h3 hx
  omega)⟩
theorem round_run (hlo : zFu P B) {call : Tgt → List AV → M AV} (hc : zCe P B call) (hd : zFk P B call) {fn : FuncId} {b : Code} {fuel nt : Nat} {t0 : Env} {s0 : HS} {chk : Ex × St → HS → Bool}
  (hrun : ((code P call none fn fuel b ⟨t0, nt, [.rest]⟩ s0).every N chk) = true) (hds : ∀ p s, chk p s = true → p.2.ds = [.rest])
  (h : RW φ B s0 w) (hB : B ≤ w.heap.size) (hf : zEj φ s0.n N) (hg : GOk P φ) {fr : Frame} {cs : List Frame} {k : List Item} (hre : RE φ t0 nt fr.tmps)
  (hm : fr.mode = .run) (hr : fr.roundOf = none) (hfn : fr.fn = fn) (hdf : fr.defers = zAc.rest) (hin : InFn P none fn b) (ht : fr.todo = .code b :: .inLoop b :: k) :
  ∃ e st1 s1 ψ w1 tmps1, chk (e, st1) s1 = true ∧ Stp φ B s0 w ψ s1 w1 ∧ RE ψ st1.t st1.nt tmps1 ∧ s1.n ≤ N ∧ Left P (lone fr cs w) (zAz fr tmps1 fr.defers (.inLoop b :: k)) (.inLoop b :: k) cs w1 e := by
 have hrf : RF P φ s0 w w.heap.size none ⟨t0, nt, [.rest]⟩ fr := ⟨hm, hre, .rest (Nat.le_refl _) hdf, hr⟩
 have := (code_ok (N := N) hlo hc hd w.heap.size none fn cs fuel).1 b ⟨t0, nt, [.rest]⟩ s0 φ w fr (.inLoop b :: k) h hB hf hg hrf hfn hin ht
 obtain ⟨⟨e, st1⟩, s1, h1, h2, h3⟩ := R.every_wp hrun this
 obtain ⟨ψ, w1, tmps, ds, q1, q2, q3, q4⟩ := h3 h2
 have hd0 := hds _ _ h1
 simp only at hd0 q3
 rw [hd0] at q3
 have q3 := q3.rest_eq
 rw [← hdf] at q3
 subst q3
 exact ⟨e, st1, s1, ψ, w1, tmps, h1, q1, q2, h2, q4⟩
end
end
end Go.Abs
namespace Go.Abs
noncomputable section
section
variable [Facts] [zAc] {φ ψ : Phi} {B : Nat} {s s' : HS} {w w' : World}
theorem RV.of_se {b : AV} {k : IntKind} {y : SE} (h : zOq b = some (k, y)) : RV φ b (.int k (y.eval zAc.env)) := by
 unfold zOq at h
 split at h <;> cases h
 ·exact .val _
 ·exact .sx rfl
theorem yesEq {a b : SE} (h : zLu (mkEq a b) = true) : a.eval zAc.env = b.eval zAc.env := by
 have := yesS_ok h
 rw [zIx] at this
 exact of_decide_eq_true this
theorem RW.add (h : RW φ B s w) {a : Lc} {x : Blk} (hf : φ s.n = none) (hb : RB φ w a x) (hx : x.fixed = false → B ≤ a.blk ∧ ∀ c t y a', s.h.get c = some (t, y) → φ c = some a' → a'.blk ≠ a.blk)
  (hy : ∀ c t y a', s.h.get c = some (t, y) → y.fixed = false → φ c = some a' → a'.blk ≠ a.blk) :
  RW (φ.put s.n a) B { s with h := s.h.set s.n (s.clk, x), n := s.n + 1 } w := by
 have hle := Phi.le_put hf a
 have hput : ∀ c, c ≠ s.n → (φ.put s.n a) c = φ c := fun c hc => by unfold Phi.put; rw [if_neg hc]
 refine ⟨fun b t y e => ?_, fun b b' t t' y y' a1 a2 e e' hfx hne h1 h2 => ?_, fun b t y e => ?_⟩
 ·simp only [Tr.get_set] at e
  split at e
  ·rename_i hb'; subst hb'; cases e
   exact ⟨a, Phi.put_self _ _ _, hb.mono hle, fun h => (hx h).1⟩
  ·rename_i hb'
   obtain ⟨a', p1, p2, p3⟩ := h.blk b t y e
   exact ⟨a', hle _ _ p1, p2.mono hle, p3⟩
 ·simp only [Tr.get_set] at e e'
  split at e
  ·rename_i hb'; subst hb'; cases e
   rw [if_neg (fun h => hne h.symm)] at e'
   rw [Phi.put_self] at h1; cases h1
   rw [hput b' (fun h => hne h.symm)] at h2
   exact fun hh => (hx hfx).2 b' t' y' a2 e' h2 hh.symm
  ·rename_i hb'
   rw [hput b hb'] at h1
   split at e'
   ·rename_i hb2; subst hb2; cases e'
    rw [Phi.put_self] at h2; cases h2
    exact hy b t y a1 e hfx h1
   ·rename_i hb2
    rw [hput b' hb2] at h2
    exact h.inj b b' t t' y y' a1 a2 e e' hfx hne h1 h2
 ·simp only [Tr.get_set] at e
  simp only
  split at e
  ·rename_i hb'; subst hb'; cases e; exact ⟨Nat.lt_succ_self _, Nat.le_refl _⟩
  ·have := h.lt b t y e; omega
end
end
end Go.Abs
namespace Go.Abs
noncomputable section
open Go.ChangeShapes Go.WideShapes Go.ChangeAt Go.RowKit
def zIq (P : Program) (t : TypeId) : Option CK :=
 match P.underlying t with
 | some (.int k) => some (.i k)
 | some .bool => some .b
 | some (.slice _) => some .s
 | _ => none
def kindsF (P : Program) : List Field → Nat → Option (List CK)
 | [], _ => some []
 | f :: l, i => match zIq P f.type, kindsF P l (i + 1) with
  | some k, some r => bif Nat.beq f.offset i && Nat.beq (P.cellsOf f.type) 1 then some (k :: r) else none
  | _, _ => none
def kindsA (P : Program) (e : TypeId) : Option (List CK) :=
 match P.underlying e with
 | some (.struct fs) => kindsF P fs.toList 0
 | _ => match zIq P e with
  | some k => some [k]
  | none => none
section
variable {H : Type} {enc : TypeId × Value → H} {P : Program} {w : World} {base : Nat} {spare : Nat → Bool} {held : Bool}
def In64 (n : Int) : Prop := -9223372036854775808 ≤ n ∧ n ≤ 18446744073709551615
theorem scalar_trod {t : TypeId} {k : CK} {fuel : Nat} {cs : List Value} {y : DataW H × List MemPlace} (hk : zIq P t = some k) (h : DataW.trod enc P w base spare held fuel t cs = some y) : ∃ x n, cs = [x] ∧ CKv k n x ∧ In64 n := by
 unfold zIq at hk
 split at hk <;> cases hk
 ·rename_i k hu
  obtain ⟨n, rfl, _, hw⟩ := DataW.trod_int hu h
  simp only [Lit.wf, Bool.and_eq_true, decide_eq_true_eq] at hw
  exact ⟨_, n, rfl, rfl, mid_of (has_mid hw)⟩
 ·rename_i hu
  obtain ⟨b, rfl, _⟩ := DataW.trod_bool hu h
  cases b
  ·exact ⟨_, 0, rfl, rfl, mid_zero⟩
  ·exact ⟨_, 1, rfl, rfl, by unfold In64; omega⟩
 ·rename_i e hu
  rcases DataW.trod_slice hu h with ⟨rfl, _⟩ | ⟨a, len, cap, elems, rest, n, _, rfl, _, _, hl, hm, _⟩
  ·exact ⟨_, 0, rfl, ⟨Int.le_refl _, none, 0, rfl⟩, mid_zero⟩
  ·refine ⟨_, len, rfl, ⟨Int.natCast_nonneg _, some a, cap, by simp⟩, ?_⟩
   unfold maxLen at hm
   unfold In64
   omega
theorem kindsF_get : ∀ {l : List Field} {i : Nat} {ks : List CK}, kindsF P l i = some ks → ks.length = l.length ∧ ∀ (c : Nat) (k : CK), ks[c]? = some k → ∃ f, l[c]? = some f ∧ f.offset = i + c ∧ P.cellsOf f.type = 1 ∧ zIq P f.type = some k := by
 intro l
 induction l with
 | nil => intro i ks h; simp only [kindsF] at h; cases h; exact ⟨rfl, fun c k h => by simp at h⟩
 | cons f l ih =>
  intro i ks h
  simp only [kindsF] at h
  split at h
  ·rename_i k r hk hr
   rcases zDs h with ⟨hc, e⟩ | ⟨_, e⟩
   ·cases e
    simp only [Bool.and_eq_true] at hc
    obtain ⟨i1, i2⟩ := ih hr
    refine ⟨by simp [i1], fun c k' hc' => ?_⟩
    cases c with
    | zero =>
     simp only [List.getElem?_cons_zero, Option.some.injEq] at hc'
     subst hc'
     exact ⟨f, rfl, Nat.eq_of_beq_eq_true hc.1, Nat.eq_of_beq_eq_true hc.2, hk⟩
    | succ c =>
     obtain ⟨f', g1, g2, g3, g4⟩ := i2 c k' (by simpa using hc')
     exact ⟨f', by simpa using g1, by omega, g3, g4⟩
   ·cases e
  ·cases h
theorem kinds_trod {e : TypeId} {ks : List CK} {fuel : Nat} {cs : List Value} {y : DataW H × List MemPlace} (hk : kindsA P e = some ks) (h : DataW.trod enc P w base spare held fuel e cs = some y) :
  ∀ (c : Nat) (k : CK), ks[c]? = some k → ∃ x n, cs[c]? = some x ∧ CKv k n x ∧ In64 n := by
 unfold kindsA at hk
 split at hk
 ·rename_i fs hu
  obtain ⟨xs, m, _, _, _, hn, hel⟩ := DataW.trod_struct hu h
  obtain ⟨_, hg⟩ := kindsF_get hk
  intro c k hc
  obtain ⟨f, g1, g2, g3, g4⟩ := hg c k hc
  have hf : fs[c]? = some f := by simpa using g1
  have hx := hel c f hf
  have hlt : c < xs.length := by
   rw [hn]
   exact (Array.getElem?_eq_some_iff.1 hf).1
  rw [List.getElem?_eq_getElem hlt, g2, g3, Nat.zero_add] at hx
  obtain ⟨x, n, e1, e2, e3⟩ := scalar_trod g4 hx
  refine ⟨x, n, ?_, e2, e3⟩
  have := congrArg (fun l => l[0]?) e1
  simpa using this
 ·split at hk
  ·rename_i k hs
   cases hk
   obtain ⟨x, n, e1, e2, e3⟩ := scalar_trod hs h
   subst e1
   intro c k' hc
   cases c with
   | zero => simp only [List.getElem?_cons_zero, Option.some.injEq] at hc; subst hc; exact ⟨x, n, rfl, e2, e3⟩
   | succ c => simp at hc
  ·cases hk
theorem slice_rows {t e : TypeId} {ks : List CK} {fuel : Nat} {cs : List Value} {y : DataW H × List MemPlace} (ht : P.underlying t = some (.slice e)) (hk : kindsA P e = some ks) (hz : P.cellsOf e = ks.length) (h0 : 0 < ks.length)
  (h : DataW.trod enc P w base spare held fuel t cs = some y) :
  (∃ p c, cs = [.slice p 0 c]) ∨ ∃ (b o len cap : Nat) (row : Nat → Nat → Int) (arr : Array Value) (el : TypeId) (fz : Nat × Nat), cs = [.slice (some ⟨b, o, none⟩) len cap] ∧ 0 < len ∧ len ≤ cap ∧ (len : Int) ≤ 9223372036854775807 ∧
   w.heap[b]? = some (.cells arr el fz) ∧ o + len * ks.length ≤ arr.size ∧ (∀ (r c : Nat) (k : CK), r < len → ks[c]? = some k → ∃ x, arr[o + (r * ks.length + c)]? = some x ∧ CKv k (row r c) x) ∧ ∀ r c, In64 (row r c) := by
 rcases DataW.trod_slice ht h with ⟨rfl, _⟩ | ⟨a, len, cap, elems, rest, n, _, rfl, _, hb, hl, hm, hlen, hel, _, _⟩
 ·exact .inl ⟨none, 0, rfl⟩
 rcases Nat.eq_zero_or_pos len with h00 | hpos
 ·subst h00; exact .inl ⟨some a, cap, rfl⟩
 right
 have each : ∀ r, r < len → ∃ cs', w.cells? base (a.add (r * ks.length)) ks.length = some cs' ∧ ∀ (c : Nat) (k : CK), ks[c]? = some k → ∃ x n, cs'[c]? = some x ∧ CKv k n x ∧ In64 n := by
  intro r hr
  have := hel r hr
  rw [List.getElem?_eq_getElem (by omega), hz, Option.bind_eq_some_iff] at this
  obtain ⟨cs', h1, h2⟩ := this
  exact ⟨cs', h1, kinds_trod hk h2⟩
 have cell : ∀ (r c : Nat) (k : CK), r < len → ks[c]? = some k → ∃ x n, w.cell? ((a.add (r * ks.length)).add c) = some x ∧ CKv k n x ∧ In64 n := by
  intro r c k hr hc
  obtain ⟨cs', h1, h2⟩ := each r hr
  obtain ⟨x, n, h3, h4, h5⟩ := h2 c k hc
  have hclt := (List.getElem?_eq_some_iff.1 hc).1
  refine ⟨x, n, ?_, h4, h5⟩
  rw [(World.cells?_some h1).2.2 c hclt, h3]
 have first : ∃ arr el fz, w.heap[a.block]? = some (.cells arr el fz) ∧ a.spot = none := by
  obtain ⟨k, hk0⟩ : ∃ k, ks[0]? = some k := ⟨_, List.getElem?_eq_getElem h0⟩
  obtain ⟨x, n, h1, _⟩ := cell 0 0 k hpos hk0
  simp only [Nat.zero_mul, Addr.add, if_true] at h1
  unfold World.cell? at h1
  split at h1
  ·rename_i arr el fz e
   refine ⟨arr, el, fz, e, ?_⟩
   cases hs : a.spot with
   | none => rfl
   | some _ => rw [hs] at h1; simp at h1
  ·cases h1
 obtain ⟨arr, el, fz, harr, hspot⟩ := first
 obtain ⟨b, o, sp⟩ := a
 simp only at harr hspot
 subst hspot
 have cell' : ∀ (r c : Nat) (k : CK), r < len → ks[c]? = some k → ∃ x n, arr[o + (r * ks.length + c)]? = some x ∧ CKv k n x ∧ In64 n := by
  intro r c k hr hc
  obtain ⟨x, n, h1, h2, h3⟩ := cell r c k hr hc
  refine ⟨x, n, ?_, h2, h3⟩
  rw [zCd, zCd] at h1
  rw [cell_of harr] at h1
  rw [← Nat.add_assoc]; exact h1
 have key : ∀ (r c : Nat), ∃ n : Int, In64 n ∧ ∀ k, r < len → ks[c]? = some k → ∃ x, arr[o + (r * ks.length + c)]? = some x ∧ CKv k n x := by
  intro r c
  by_cases hr : r < len
  ·cases hc : ks[c]? with
   | none => exact ⟨0, mid_zero, fun k _ e => by cases e⟩
   | some k =>
    obtain ⟨x, n, h1, h2, h3⟩ := cell' r c k hr hc
    exact ⟨n, h3, fun k' _ e => by cases e; exact ⟨x, h1, h2⟩⟩
  ·exact ⟨0, mid_zero, fun k h => (hr h).elim⟩
 have hsize : o + len * ks.length ≤ arr.size := by
  obtain ⟨k, hk0⟩ : ∃ k, ks[ks.length - 1]? = some k := ⟨_, List.getElem?_eq_getElem (by omega)⟩
  obtain ⟨x, n, h1, _⟩ := cell' (len - 1) (ks.length - 1) k (by omega) hk0
  have := (Array.getElem?_eq_some_iff.1 h1).1
  have e : (len - 1) * ks.length + ks.length = len * ks.length := by rw [← Nat.succ_mul]; congr 1; omega
  omega
 exact ⟨b, o, len, cap, fun r c => (key r c).choose, arr, el, fz, rfl, hpos, hl, by unfold maxLen at hm; omega, harr, hsize, fun r c k hr hc => (key r c).choose_spec.2 k hr hc, fun r c => (key r c).choose_spec.1⟩
end
theorem rows_rb [Facts] [V : zAc] {φ : Phi} {w : World} {b o len : Nat} {ks : List CK} {row : Nat → Nat → Int} {arr : Array Value} {el : TypeId} {fz : Nat × Nat} {A n : SE} {cap : Nat} (harr : w.heap[b]? = some (.cells arr el fz)) (hs : o + len * ks.length ≤ arr.size)
  (hr : ∀ (r c : Nat) (k : CK), r < len → ks[c]? = some k → ∃ x, arr[o + (r * ks.length + c)]? = some x ∧ CKv k (row r c) x) (hn : n.eval V.env = len) (hA : ∀ (r : Nat) c, c < ks.length → A.row V.env r c = row r c) : RB φ w ⟨b, o, cap⟩ (.arr ks A n true) :=
 ⟨arr, el, fz, harr, (fun h => by cases h), len, hn, hs, fun r c k hlt hk => by rw [hA r c (List.getElem?_eq_some_iff.1 hk).1]; exact hr r c k hlt hk⟩
theorem calls_from [Facts] [zAc] [zDa] [zGs] {P : Program} {cfg : Cfg} {w : World} {φ : Phi} {s : HS} {n N : Nat} {g : FuncId} {as : List AV} {xs : Array Value} (hk : zJd P w.heap.size cfg) (hr : ∀ call, zCe P w.heap.size call → zFk P w.heap.size call)
  (hrw : RW φ w.heap.size s w) (hf : zEj φ s.n N) (hg : GOk P φ) (hx : RL φ as xs.toList) (hrun : ((callN P cfg n (.f g) as s).every N isTrue) = true) :
  Calls P g xs w fun e w' => e = .returned (.bool true) ∧ Below w.heap.size w w' := by
 intro cs
 have hc := zKr hk hr n
 have := hc.f g as s N φ w xs .normal cs rfl hrw (Nat.le_refl _) hf hg hx
 obtain ⟨v, s', hp, hN, hq⟩ := R.every_wp hrun this
 obtain ⟨ψ, w', x, q1, q2, q3⟩ := hq hN
 obtain ⟨fr, fn, e1, e2, e3, e4, e5, e6, e7⟩ := q3.ret
 have hx' : x = .bool true := by
  unfold isTrue at hp
  split at hp
  ·cases q2; subst hp; rfl
  ·cases hp
 subst hx'
 exact ⟨.returned (.bool true), w', fr, ⟨rfl, Stp.belowB hrw q1 (Nat.le_refl _)⟩, e1, e7, e2, e3, e4, fn, e5, e6⟩
def envT (sc : Nat → Int) (tabs : Nat → Nat → Nat → Int) (j : Nat) : Int :=
 if j % 256 < 128 then sc j else tabs (j % 256) (j / 16384) (j / 256 % 64)
theorem envT_cell {sc : Nat → Int} {tabs : Nat → Nat → Nat → Int} {a r c : Nat} (h1 : 128 ≤ a) (h2 : a < 256) (hc : c < 64) : envT sc tabs (zDj a (r : Int) c) = tabs a r c := by
 unfold envT zDj
 have e : ((r : Int).toNat * 64 + c) * 256 + a = r * 16384 + c * 256 + a := by simp; omega
 rw [e, if_neg (by omega)]
 congr 1 <;> omega
end
end Go.Abs
namespace Go.Abs
noncomputable section
structure zHi where
 F : Facts
 V : @zAc F
end
end Go.Abs
namespace Go.Abs
noncomputable section
def fnSame : Fn → Fn → Bool
 | .func f, .func g => Nat.beq f g
 | .via t p f b, .via u q g c => Nat.beq t u && Nat.beq p.size 0 && Nat.beq q.size 0 && Nat.beq f g && (b == c)
 | _, _ => false
def zHx {α : Type} (eq : α → α → Bool) : Option α → Option α → Bool
 | none, none => true
 | some a, some b => eq a b
 | _, _ => false
def zGk {α : Type} (eq : α → α → Bool) : List α → List α → Bool
 | [], [] => true
 | a :: l, b :: m => eq a b && zGk eq l m
 | _, _ => false
def intSame : Int → Int → Bool
 | .ofNat a, .ofNat b => Nat.beq a b
 | .negSucc a, .negSucc b => Nat.beq a b
 | _, _ => false
def kindSame : IntKind → IntKind → Bool
 | .i64, .i64 => true
 | a, b => decide (a = b)
def valSame : Value → Value → Bool
 | .int k a, .int k' b => intSame a b && kindSame k k'
 | .tuple a, .tuple b => Nat.beq a.size 0 && Nat.beq b.size 0
 | a, b => valBeq a b
def AV.same : Nat → AV → AV → Bool
 | 0, _, _ => false
 | n + 1, a, b => match a, b with
  | .val a, .val b => valSame a b
  | .sx k e, .sx k' e' => kindSame k k' && SE.beq e e'
  | .ptr b o, .ptr b' o' => Nat.beq b b' && Nat.beq o o'
  | .sl b i z l c, .sl b' i' z' l' c' => Nat.beq b b' && Nat.beq i i' && Nat.beq z z' && Nat.beq l l' && zHx Nat.beq c c'
  | .mp b, .mp b' => Nat.beq b b'
  | .fn f x c, .fn f' x' c' => fnSame f f' && zGk (AV.same n) x x' && zGk (AV.same n) c c'
  | .yl b, .yl b' => Nat.beq b b'
  | .ifc t a, .ifc t' b => Nat.beq t t' && AV.same n a b
  | .agg l, .agg l' => zGk (AV.same n) l l'
  | .tup l, .tup l' => zGk (AV.same n) l l'
  | _, _ => false
theorem fnSame_eq {a b : Fn} (h : fnSame a b = true) : a = b := by
 unfold fnSame at h
 split at h
 ·rw [Nat.eq_of_beq_eq_true h]
 ·rename_i t p f b u q g c
  simp only [Bool.and_eq_true, beq_iff_eq] at h
  obtain ⟨⟨⟨⟨h1, h2⟩, h3⟩, h4⟩, h5⟩ := h
  have h2 := Array.eq_empty_of_size_eq_zero (Nat.eq_of_beq_eq_true h2)
  have h3 := Array.eq_empty_of_size_eq_zero (Nat.eq_of_beq_eq_true h3)
  rw [Nat.eq_of_beq_eq_true h1, h2, h3, Nat.eq_of_beq_eq_true h4, h5]
 ·cases h
theorem zEv {α : Type} {eq : α → α → Bool} (he : ∀ a b, eq a b = true → a = b) {a b : Option α} (h : zHx eq a b = true) : a = b := by
 unfold zHx at h
 split at h
 ·rfl
 ·rw [he _ _ h]
 ·cases h
theorem zLo {α : Type} {eq : α → α → Bool} (he : ∀ a b, eq a b = true → a = b) : ∀ {a b : List α}, zGk eq a b = true → a = b := by
 intro a
 induction a with
 | nil => intro b h; cases b with | nil => rfl | cons _ _ => cases h
 | cons x l ih =>
  intro b h
  cases b with
  | nil => cases h
  | cons y m =>
   simp only [zGk, Bool.and_eq_true] at h
   rw [he _ _ h.1, ih h.2]
theorem intSame_eq {a b : Int} (h : intSame a b = true) : a = b := by
 unfold intSame at h
 split at h
 ·rw [Nat.eq_of_beq_eq_true h]
 ·rw [Nat.eq_of_beq_eq_true h]
 ·cases h
theorem kindSame_eq {a b : IntKind} (h : kindSame a b = true) : a = b := by
 unfold kindSame at h
 split at h
 ·rfl
 ·exact of_decide_eq_true h
theorem valSame_eq {a b : Value} (h : valSame a b = true) : a = b := by
 unfold valSame at h
 split at h
 ·simp only [Bool.and_eq_true] at h
  rw [intSame_eq h.1, kindSame_eq h.2]
 ·simp only [Bool.and_eq_true] at h
  rw [Array.eq_empty_of_size_eq_zero (Nat.eq_of_beq_eq_true h.1), Array.eq_empty_of_size_eq_zero (Nat.eq_of_beq_eq_true h.2)]
 ·exact valBeq_eq h
theorem zAr {a b : Nat} (h : Nat.beq a b = true) : a = b := Nat.eq_of_beq_eq_true h
theorem AV.same_eq : ∀ {n : Nat} {a b : AV}, AV.same n a b = true → a = b := by
 intro n
 induction n with
 | zero => intro a b h; cases h
 | succ n ih =>
  intro a b h
  have ihl := fun {l m : List AV} => zLo (eq := AV.same n) (fun _ _ => ih) (a := l) (b := m)
  cases a <;> cases b <;> simp only [AV.same, Bool.and_eq_true] at h <;> first | (cases h; done) | skip
  ·rw [valSame_eq h]
  ·rw [kindSame_eq h.1, SE.beq_eq h.2]
  ·rw [zAr h.1, zAr h.2]
  ·obtain ⟨⟨⟨⟨h1, h2⟩, h3⟩, h4⟩, h5⟩ := h
   rw [zAr h1, zAr h2, zAr h3, zAr h4, zEv (fun _ _ => zAr) h5]
  ·rw [zAr h]
  ·obtain ⟨⟨h1, h2⟩, h3⟩ := h
   rw [fnSame_eq h1, ihl h2, ihl h3]
  ·rw [zAr h]
  ·rw [zAr h.1, ih h.2]
  ·rw [ihl h]
  ·rw [ihl h]
end
end Go.Abs
namespace Go.Abs
noncomputable section
def exSame : Ex → Ex → Bool
 | .normal, .normal => true
 | .exit i, .exit j => Nat.beq i j
 | .ret, .ret => true
 | _, _ => false
theorem exSame_eq {a b : Ex} (h : exSame a b = true) : a = b := by
 unfold exSame at h
 split at h
 ·rfl
 ·rw [zAr h]
 ·rfl
 ·cases h
def zLx (t : Env) : List (Nat × AV) → Env
 | [] => t
 | (i, v) :: l => zLx (t.set i v) l
def tmps (l : List (Nat × AV)) : Env := zLx .lf l
end
end Go.Abs
