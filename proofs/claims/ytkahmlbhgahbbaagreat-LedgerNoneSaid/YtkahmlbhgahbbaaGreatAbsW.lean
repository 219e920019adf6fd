/- Code: sound. -/
import Derived.Test.YtkahmlbhgahbbaaGreatAbsV
import Derived.RangeFuncLeaves
import Derived.LoopNIn
set_option linter.unusedSimpArgs false
set_option linter.unusedVariables false
set_option linter.unusedSectionVars false
set_option linter.constructorNameAsVariable false
namespace Go.Proofs.YtkahmlbhgahbbaaGreat.Abs

/-- The fence: all is let in; in a round, or not. -/
def fen (rb : Option Nat) : Fence := { Fence.wide with round := rb }
theorem fen_none : fen none = Fence.wide := rfl
theorem fen_in (rb : Option Nat) (l : Nat) : (fen rb).inRound l = fen (some l) := rfl

/-- What a call came to. -/
def CallOk (S : Sta) (w0 : World) (ρ : Ren) (h : AH) (w : World) (v : AV) (h' : AH) (e : Ending) (w' : World) : Prop :=
  ∃ ρ' c, e = .returned c ∧ Stp S w0 ρ h w ρ' h' w' ∧ VR S ρ' v c

structure CallerOk (S : Sta) (w0 : World) (call : Caller) : Prop where
  func : ∀ f args h v h', call (.func f) args h = .val v h' → h.next ≤ h'.next ∧ ∀ ρ w (cargs : Array Value), Rel S w0 ρ h w → Free ρ h.next h'.next → VRs S ρ args cargs.toList →
    (callFunc f cargs).run S.P w = .ok (.enter f cargs) w ∧ CallsIn Fence.wide 0 S.P f cargs w (CallOk S w0 ρ h w v h')
  yield : ∀ l args h v h', call (.yield l) args h = .val v h' → h.next ≤ h'.next ∧ ∀ ρ w (cargs : Array Value) lo, Rel S w0 ρ h w → Free ρ h.next h'.next → VRs S ρ args cargs.toList → ρ l = some lo →
    ∃ fn tmps asg body, (Instr.yield lo.b cargs).run S.P w = .ok (.round lo.b fn tmps asg body) w ∧ RoundIn Fence.wide 0 S.P lo.b fn tmps asg body w (CallOk S w0 ρ h w v h')

section code
variable {S : Sta} {w0 : World}

theorem CallsIn.any {P : Program} {f : FuncId} {args : Array Value} {w : World} {R : Ending → World → Prop} (rb : Option Nat) (h : CallsIn Fence.wide 0 P f args w R) : CallsIn (fen rb) 0 P f args w R := h
theorem RoundIn.any {P : Program} {l f : Nat} {tmps : Array Value} {asg body : Code} {w : World} {R : Ending → World → Prop} (rb : Option Nat) (h : RoundIn Fence.wide 0 P l f tmps asg body w R) : RoundIn (fen rb) 0 P l f tmps asg body w R := h

theorem cOpF_some {P : Program} {op : Op} {ao : AOp} (e : cOpF P op = ao) (hf : ao ≠ .fail) : cOp P op = some ao := by
  unfold cOpF at e
  split at e
  · rename_i a ha; rw [ha, e]
  · exact absurd e.symm hf

theorem cOp_no_defer {P : Program} {op : Op} {ao : AOp} (e : cOp P op = some ao) : ∀ c, op ≠ .defer c := by
  rintro c rfl
  simp [cOp] at e

/-- How a call is compiled. -/
theorem cOp_calls {P : Program} {op : Op} {ao : AOp} (e : cOp P op = some ao) : (∃ c, op = .call c ∧ cCall P c = some ao) ∨ ((∀ f args, ao ≠ .call f args) ∧ ∀ f args, ao ≠ .callv f args) := by
  cases op
  case call c => exact .inl ⟨c, rfl, e⟩
  case makeFunc fn x y =>
    right
    cases fn <;> simp only [cOp] at e
    repeat' (split at e)
    all_goals first
      | contradiction
      | (cases e; done)
      | (cases e; exact ⟨fun _ _ => by simp, fun _ _ => by simp⟩)
      | (obtain ⟨_, _, rfl⟩ := c1_some e; exact ⟨fun _ _ => by simp, fun _ _ => by simp⟩)
      | (obtain ⟨_, _, _, _, rfl⟩ := c2_some e; exact ⟨fun _ _ => by simp, fun _ _ => by simp⟩)
  case makeMap t x =>
    right
    cases x <;> simp only [cOp] at e
    repeat' (split at e)
    all_goals first
      | contradiction
      | (cases e; done)
      | (cases e; exact ⟨fun _ _ => by simp, fun _ _ => by simp⟩)
      | (obtain ⟨_, _, rfl⟩ := c1_some e; exact ⟨fun _ _ => by simp, fun _ _ => by simp⟩)
      | (obtain ⟨_, _, _, _, rfl⟩ := c2_some e; exact ⟨fun _ _ => by simp, fun _ _ => by simp⟩)
  case next x s =>
    right
    cases s <;> simp only [cOp] at e
    repeat' (split at e)
    all_goals first
      | contradiction
      | (cases e; done)
      | (cases e; exact ⟨fun _ _ => by simp, fun _ _ => by simp⟩)
      | (obtain ⟨_, _, rfl⟩ := c1_some e; exact ⟨fun _ _ => by simp, fun _ _ => by simp⟩)
      | (obtain ⟨_, _, _, _, rfl⟩ := c2_some e; exact ⟨fun _ _ => by simp, fun _ _ => by simp⟩)
  all_goals
    right
    simp only [cOp, cBin, cConv] at e
    repeat' (split at e)
    all_goals first
      | contradiction
      | (cases e; done)
      | (cases e; exact ⟨fun _ _ => by simp, fun _ _ => by simp⟩)
      | (obtain ⟨_, _, rfl⟩ := c1_some e; exact ⟨fun _ _ => by simp, fun _ _ => by simp⟩)
      | (obtain ⟨_, _, _, _, rfl⟩ := c2_some e; exact ⟨fun _ _ => by simp, fun _ _ => by simp⟩)

theorem cBuiltin_calls {P : Program} {b : Builtin} {as : Array Operand} {ts : Array TypeId} {ao : AOp} (e : cBuiltin P b as ts = some ao) : (∀ f args, ao ≠ .call f args) ∧ ∀ f args, ao ≠ .callv f args := by
  cases b
  all_goals
    simp only [cBuiltin] at e
    repeat' (split at e)
    all_goals first
      | contradiction
      | (cases e; done)
      | (cases e; exact ⟨fun _ _ => by simp, fun _ _ => by simp⟩)
      | (obtain ⟨_, _, rfl⟩ := c1_some e; exact ⟨fun _ _ => by simp, fun _ _ => by simp⟩)
      | (obtain ⟨_, _, _, _, rfl⟩ := c2_some e; exact ⟨fun _ _ => by simp, fun _ _ => by simp⟩)

theorem cOp_call {P : Program} {op : Op} {f : Nat} {args : List AO} (e : cOp P op = some (.call f args)) : ∃ as ts, op = .call ⟨.value (.func f), as, ts⟩ ∧ cAOs as = some args := by
  rcases cOp_calls e with ⟨⟨callee, as, ts⟩, rfl, e⟩ | ⟨h, _⟩
  · change cCall P _ = _ at e
    unfold cCall at e
    cases callee with
    | invoke rv nm => simp at e
    | builtin b => simp only at e; exact absurd rfl ((cBuiltin_calls e).1 _ _)
    | value x =>
      cases x with
      | tmp t => simp only at e; split at e <;> cases e
      | const c => simp at e
      | global g => simp at e
      | func g =>
        simp only at e
        split at e
        · rename_i l h
          split at e
          · cases e
          · cases e; exact ⟨as, ts, rfl, h⟩
        · cases e
  · exact absurd rfl (h _ _)
theorem cOp_callv {P : Program} {op : Op} {f : AO} {args : List AO} (e : cOp P op = some (.callv f args)) : ∃ t as ts, op = .call ⟨.value (.tmp t), as, ts⟩ ∧ f = .t t ∧ cAOs as = some args := by
  rcases cOp_calls e with ⟨⟨callee, as, ts⟩, rfl, e⟩ | ⟨_, h⟩
  · change cCall P _ = _ at e
    unfold cCall at e
    cases callee with
    | invoke rv nm => simp at e
    | builtin b => simp only at e; exact absurd rfl ((cBuiltin_calls e).2 _ _)
    | value x =>
      cases x with
      | tmp t => simp only at e; split at e <;> cases e; rename_i h; exact ⟨t, as, ts, rfl, rfl, h⟩
      | const c => simp at e
      | global g => simp at e
      | func g =>
        simp only at e
        split at e
        · split at e <;> cases e
        · cases e
  · exact absurd rfl (h _ _)

/-- An operation, calls among them. -/
theorem evOp_sound {call : Caller} (ro : RoOk S w0) (hcall : CallerOk S w0 call) {ρ : Ren} {h : AH} {w : World} (r : Rel S w0 ρ h w) {a : Act} {env : Tr AV} {nt : Nat} (henv : EnvR S ρ nt env a.tmps)
    {o : Oper} {v : AV} {h' : AH} (he : evOp S.B call (cOpF S.P o.op) env h = .val v h') (hf : Free ρ h.next h'.next) (rb : Option Nat) {next : Act → World → Prop} {Q : Exit → Act → World → Prop}
    (K : ∀ ρ' w' c, Stp S w0 ρ h w ρ' h' w' → VR S ρ' v c → next (a.put o.dst c) w') : o.wpIn (fen rb) 0 S.P a w next Q := by
  refine ⟨fun _ _ => trivial, ?_⟩
  by_cases hfail : cOpF S.P o.op = .fail
  · rw [hfail] at he; simp [evOp, aop] at he
  · obtain ⟨ao, hao⟩ : ∃ ao, cOpF S.P o.op = ao := ⟨_, rfl⟩
    rw [hao] at he hfail
    have hc := cOpF_some hao hfail
    rw [Oper.semAt_eq _ _ _ (cOp_no_defer hc)]
    by_cases hcl : ∃ f args, ao = .call f args
    · obtain ⟨f, args, rfl⟩ := hcl
      obtain ⟨as, ts, hop, has⟩ := cOp_call hc
      simp only [evOp] at he
      cases hr : rds env args with
      | none => simp [hr] at he
      | some vs =>
        simp only [hr] at he
        have hvs := rds_VRs henv has hr
        obtain ⟨q1, q2⟩ := (hcall.func f vs h v h' he).2 ρ w (as.map a.eval) r hf (by simpa using hvs)
        have hrun : (execOp a.eval o).run S.P w = .ok (.enter f (as.map a.eval)) w := by
          simp only [execOp, hop, resolve, Act.eval, Deferred.ofValue, Sem.run_bind, Sem.run_pure, Result.andThen_ok, invoke]
          simpa using q1
        rw [hrun]
        refine ⟨(fun e => by cases e), ?_⟩
        refine (CallsIn.any rb q2).mono ?_
        rintro e w' ⟨ρ', c, rfl, h1, h2⟩
        exact K ρ' w' c h1 h2
    · by_cases hcv : ∃ f args, ao = .callv f args
      · obtain ⟨f, args, rfl⟩ := hcv
        obtain ⟨t, as, ts, hop, rfl, has⟩ := cOp_callv hc
        simp only [evOp] at he
        cases hr0 : rd env (.t t) with
        | none => simp [hr0] at he
        | some fv =>
          have hfv := rd_VR (a := a) henv (x := .tmp t) rfl hr0
          cases fv <;> simp only [hr0] at he <;> try (cases he; done)
          rename_i g first cap
          cases hr : rds env args with
          | none => simp [hr] at he
          | some vs =>
            simp only [hr] at he
            have hvs := rds_VRs henv has hr
            obtain ⟨fn, x, y, e1, e2, e3, e4⟩ := hfv
            cases g with
            | func g =>
              simp only at he
              cases e2
              obtain ⟨q1, q2⟩ := (hcall.func g _ h v h' he).2 ρ w (x ++ as.map a.eval ++ y) r hf (by simpa using e3.append (hvs.append e4))
              have hrun : (execOp a.eval o).run S.P w = .ok (.enter g (x ++ as.map a.eval ++ y)) w := by
                simp only [execOp, hop, resolve, e1, Deferred.ofValue, Sem.run_bind, Sem.run_pure, Result.andThen_ok, invoke]
                exact q1
              rw [hrun]
              refine ⟨(fun e => by cases e), ?_⟩
              refine (CallsIn.any rb q2).mono ?_
              rintro e w' ⟨ρ', c, rfl, h1, h2⟩
              exact K ρ' w' c h1 h2
            | yield l =>
              simp only at he
              cases cap with
              | cons _ _ => simp at he
              | nil =>
                simp only at he
                obtain ⟨lo, hlo, rfl⟩ := e2
                obtain ⟨fn', tmps, asg, body, q1, q2⟩ := (hcall.yield l _ h v h' he).2 ρ w (x ++ as.map a.eval) lo r hf (by simpa using e3.append hvs) hlo
                have hrun : (execOp a.eval o).run S.P w = .ok (.round lo.b fn' tmps asg body) w := by
                  simp only [execOp, hop, resolve, e1, Deferred.ofValue, Sem.run_bind, Sem.run_pure, Result.andThen_ok, invoke]
                  exact q1
                rw [hrun]
                refine ⟨(fun e => by cases e), ?_⟩
                refine (RoundIn.any rb q2).mono ?_
                rintro e w' ⟨ρ', c, rfl, h1, h2⟩
                exact K ρ' w' c h1 h2
      · have he' : aop S.B ao env h = .val v h' := by
          cases ao <;> first | exact he | exact absurd ⟨_, _, rfl⟩ hcl | exact absurd ⟨_, _, rfl⟩ hcv
        obtain ⟨ρ', w', c, h1, h2, h3⟩ := aop_sound ro r henv hc (fun f args e => hcl ⟨f, args, e⟩) (fun f args e => hcv ⟨f, args, e⟩) he' hf
        rcases h3 with h3 | ⟨h3, rfl⟩
        · rw [h3]; exact K ρ' w' c h1 h2
        · rw [h3]; exact K ρ' w' undef h1 h2
end code
end Go.Proofs.YtkahmlbhgahbbaaGreat.Abs
