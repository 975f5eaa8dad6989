/- Closed facts of great programs: which functions a call can come to, gone through by a set that is a trie. No conditions. -/
import Derived.Test.YtcgdabiegpaadaaGreatDoorAbsA
import Derived.JoinedOf
import Derived.SevenTiedAt
namespace Go.Abs
noncomputable section
section
variable {P : Program} {LT : List (List Nat)}

def cloT (T : Tr (List Nat)) : Nat → List Nat → Tr Unit → List Nat → List Nat
  | 0, _, _, acc => acc.reverse
  | _ + 1, [], _, acc => acc.reverse
  | n + 1, f :: todo, seen, acc => match seen.get f with
    | some _ => cloT T n todo seen acc
    | none => cloT T n ((T.get f).getD [] ++ todo) (seen.set f ()) (f :: acc)

theorem leads_at (h : P.funcs.toList.map P.leadsTo = LT) (f : Nat) : (P.funcs[f]?).elim [] P.leadsTo = (LT[f]?).getD [] := by
  subst h
  rw [List.getElem?_map, Array.getElem?_toList]
  cases P.funcs[f]? <;> rfl

theorem fill_at (f : Nat) : ((Tr.fill LT 0 .lf).get f).getD [] = (LT[f]?).getD [] := by
  rw [Tr.get_fill]
  by_cases h : f < LT.length
  · rw [if_pos (by omega), Nat.sub_zero]
  · rw [if_neg (by omega), List.getElem?_eq_none (by omega)]
    rfl

theorem cloT_eq (h : P.funcs.toList.map P.leadsTo = LT) : ∀ (n : Nat) (todo : List Nat) (seen : Tr Unit) (acc : List Nat), (∀ f, (seen.get f).isSome = acc.contains f) → P.closureVia n todo acc = cloT (Tr.fill LT 0 .lf) n todo seen acc := by
  intro n
  induction n with
  | zero => intro todo seen acc _; rfl
  | succ n ih =>
    intro todo seen acc hs
    cases todo with
    | nil => rfl
    | cons f todo =>
      unfold Program.closureVia cloT
      have hf := hs f
      cases hg : seen.get f with
      | some _ =>
        rw [hg] at hf
        have hf : acc.contains f = true := hf.symm
        rw [if_pos hf]
        exact ih _ _ _ hs
      | none =>
        rw [hg] at hf
        have hf : acc.contains f = false := hf.symm
        rw [if_neg (by rw [hf]; exact Bool.false_ne_true)]
        dsimp only
        rw [leads_at h, fill_at]
        refine ih _ _ _ fun g => ?_
        rw [Tr.get_set, List.contains_cons, ← hs g]
        by_cases hgf : g = f
        · subst hgf; simp
        · rw [if_neg hgf, show (g == f) = false by simpa using hgf, Bool.false_or]

theorem closure_eq (h : P.funcs.toList.map P.leadsTo = LT) (f : Nat) : P.closure f = cloT (Tr.fill LT 0 .lf) (1 + (LT.map fun l => l.length + 1).sum) [f] .lf [] := by
  unfold Program.closure
  have e : (P.funcs.toList.map fun g => (P.leadsTo g).length + 1) = LT.map fun l => l.length + 1 := by
    subst h
    rw [List.map_map]
    rfl
  rw [e]
  exact cloT_eq h _ _ _ _ (fun f => by simp [Tr.get])

/-- The facts of a row but those of what a call can come to. -/
def joinedRest (P : Program) (fn : Func) (s : ChangeSpec) (c : OpenClaim) : Bool :=
  c.wf (OpenSpec.ofChange s) && laidOutB P && mapsRowed P &&
  fn.params.all (P.readableRec ·) && namedTie P c.named s.vars &&
  (c.stops == []) && (P.stops == []) && (c.knobs == []) && (P.stopKnobs == [])
def joinedRest2 (P : Program) (fn : Func) (s : ChangeSpec) (c : OpenClaim) : Bool :=
  (c.maps == (fn.params.toList ++ s.plain.varTypes P).any (P.mapsRec ·)) && (c.ifaces == (fn.params.toList ++ s.plain.varTypes P).any (P.ifacesRec ·)) && (c.mapsOut == P.mapsAmong fn.resultTypes.toList) &&
  (c.loops == (fn.params.toList ++ s.plain.varTypes P).any (P.loopsFrom ·)) && (c.wideKeys == (fn.params.toList ++ s.plain.varTypes P ++ fn.resultTypes.toList).any (P.wideKeysFrom ·)) &&
  s.vars.all (P.varReadable ·) && fn.resultTypes.all (fun t => P.readableRec t && decide (t < P.types.size)) && (c.ifacesOut == fn.resultTypes.toList.any (P.ifacesRec ·)) && (c.loopsOut == fn.resultTypes.toList.any (P.loopsFrom ·))
def joinedRest3 (P : Program) (fn : Func) (s : ChangeSpec) (c : OpenClaim) : Bool :=
  (c.plainKeys == P.plainKeys) && c.shortTexts.isNone && P.stopsHeard && P.mayEnter && (c.lifted == P.liftsFinal) && (P.make == some c.make) && (c.kinds == (if c.domain.isEmpty then [] else fn.params.toList.map fun t => match P.underlying t with | some (.int k) => some k | _ => none)) && (c.pinned == c.pinnedBy) &&
  (c.veiled == (fn.params.toList ++ s.plain.varTypes P ++ fn.resultTypes.toList).any (P.veiledRec ·)) && c.veiledFits P fn.params.toList (fn.params.toList ++ s.plain.varTypes P ++ fn.resultTypes.toList)

theorem joined_parts {f : FuncId} {fn : Func} {s : ChangeSpec} {c : OpenClaim} {CL : List Nat} (hc : P.closure f = CL)
    (h1 : (c.inPlace == CL.filterMap fun g => (P.funcs[g]?).bind fun fn => if fn.ours || fn.body.isNone || fn.name == "runtime.NumGoroutine" then some fn.name else none) = true)
    (h2 : (CL.any fun g => (P.funcs[g]?).any fun fn => match fn.body with | some c => c.unfollowed | none => entryCalls fn) = true) (hu : c.unfollowed = true) (hr : c.recurses = true)
    (h4 : (c.named == ((((CL.flatMap fun g => ((P.funcs[g]?).bind (·.body)).elim [] Code.globalsNamed).eraseDups).filterMap (fun g => (P.globals[g]?).map (·.name)) ++
      CL.filterMap fun g => (P.funcs[g]?).bind fun fn => if fn.body.isNone then entryReads.lookup fn.name else none).eraseDups)) = true)
    (r1 : joinedRest P fn s c = true) (r2 : joinedRest2 P fn s c = true) (r3 : joinedRest3 P fn s c = true) : joinedFacts P f fn s c = true := by
  have e1 : P.inPlace f = CL.filterMap fun g => (P.funcs[g]?).bind fun fn => if fn.ours || fn.body.isNone || fn.name == "runtime.NumGoroutine" then some fn.name else none := by unfold Program.inPlace; rw [hc]
  have e2 : P.unfollowed f = true := by unfold Program.unfollowed; rw [hc]; exact h2
  have e3 : P.recurses f = true := by unfold Program.recurses; rw [e2, Bool.true_or]
  have e4 : P.varsNamed f = ((((CL.flatMap fun g => ((P.funcs[g]?).bind (·.body)).elim [] Code.globalsNamed).eraseDups).filterMap (fun g => (P.globals[g]?).map (·.name)) ++
      CL.filterMap fun g => (P.funcs[g]?).bind fun fn => if fn.body.isNone then entryReads.lookup fn.name else none).eraseDups) := by unfold Program.varsNamed; rw [hc]
  rw [← e1] at h1
  rw [← e4] at h4
  unfold joinedRest at r1
  unfold joinedRest2 at r2
  unfold joinedRest3 at r3
  unfold joinedFacts
  simp only [Bool.and_eq_true] at r1 r2 r3 ⊢
  obtain ⟨⟨⟨⟨⟨⟨⟨⟨a0, a1⟩, a2⟩, a3⟩, a4⟩, a5⟩, a6⟩, a7⟩, a8⟩ := r1
  obtain ⟨⟨⟨⟨⟨⟨⟨⟨b0, b1⟩, b2⟩, b3⟩, b4⟩, b5⟩, b6⟩, b7⟩, b8⟩ := r2
  obtain ⟨⟨⟨⟨⟨⟨⟨⟨⟨c0, c1⟩, c2⟩, c3⟩, c4⟩, c5⟩, c6⟩, c7⟩, c8⟩, c9⟩ := r3
  have u2 : (c.unfollowed == P.unfollowed f) = true := by rw [e2, hu]; rfl
  have u3 : (c.recurses == P.recurses f) = true := by rw [e3, hr]; rfl
  exact ⟨⟨⟨⟨⟨⟨⟨⟨⟨⟨⟨⟨⟨⟨⟨⟨⟨⟨⟨⟨⟨⟨⟨⟨⟨⟨⟨⟨⟨⟨⟨a0, a1⟩, a2⟩, a3⟩, a4⟩, a5⟩, a6⟩, a7⟩, a8⟩, h1⟩, u2⟩, u3⟩, h4⟩, b0⟩, b1⟩, b2⟩, b3⟩, b4⟩, b5⟩, b6⟩, b7⟩, b8⟩, c0⟩, c1⟩, c2⟩, c3⟩, c4⟩, c5⟩, c6⟩, c7⟩, c8⟩, c9⟩

theorem goes_none {f : FuncId} (h : P.funcs.toList.any Func.goes = false) : P.goes f = false := by
  have each : ∀ g : Nat, (P.funcs[g]?).any Func.goes = false := fun g => by
    cases hg : P.funcs[g]? with
    | none => rfl
    | some fn =>
      have hm : fn ∈ P.funcs.toList := Array.mem_toList_iff.2 (Array.mem_of_getElem? hg)
      have := List.any_eq_false.1 h fn hm
      simpa using this
  unfold Program.goes
  have h2 : P.funcs.any Func.goes = false := by rw [← Array.any_toList]; exact h
  rw [h2, Bool.and_false, Bool.or_false]
  exact List.any_eq_false.2 fun g _ => by rw [each g]; simp

theorem goesBy_none {c : OpenClaim} (hs : c.start = .entering) (h : P.funcs.toList.any Func.goes = false) : false = c.goesBy P := by
  unfold OpenClaim.goesBy Program.goesAt Program.goesFrom
  rw [hs]
  cases P.funcNamed c.func with
  | none => rfl
  | some f => simp [goes_none h]
end
end
end Go.Abs
