/- Functions and rounds: sound; the whole evaluator. -/
import Derived.Test.YtkahmlbhgahbbaaGreatAbsY
set_option linter.unusedSimpArgs false
set_option linter.unusedVariables false
set_option linter.unusedSectionVars false
set_option linter.constructorNameAsVariable false
namespace Go.Proofs.YtkahmlbhgahbbaaGreat.Abs
section fns
variable {S : Sta} {w0 : World}

theorem envOf_get : ∀ (l : List AV) (i : Nat) (env : Tr AV) (t : Nat), (envOf l i env).get t = if i ≤ t ∧ t < i + l.length then l[t - i]? else env.get t := by
  intro l
  induction l with
  | nil => intro i env t; simp only [envOf, List.length_nil]; rw [if_neg (by omega)]
  | cons v l ih =>
    intro i env t
    simp only [envOf, ih, List.length_cons]
    by_cases h1 : i + 1 ≤ t ∧ t < i + 1 + l.length
    · rw [if_pos h1, if_pos (by omega), show t - i = (t - (i + 1)) + 1 by omega, List.getElem?_cons_succ]
    · rw [if_neg h1]
      by_cases h2 : t = i
      · subst h2; rw [Tr.get_set_same, if_pos (by omega)]; simp
      · rw [Tr.get_set_ne _ _ h2, if_neg (by omega)]

theorem envOf_R {ρ : Ren} {args : List AV} {cargs : Array Value} (hv : VRs S ρ args cargs.toList) {nt : Nat} (hn : args.length ≤ nt) :
    EnvR S ρ nt (envOf args 0 .e) (cargs ++ Array.replicate (nt - cargs.size) undef) := by
  have hl : args.length = cargs.size := by rw [hv.length, Array.length_toList]
  refine ⟨by simp; omega, fun t v ht => ?_⟩
  rw [envOf_get] at ht
  split at ht
  · rename_i h1
    obtain ⟨c, q1, q2⟩ := hv.get ht
    refine ⟨c, ?_, q2⟩
    rw [Array.getElem?_append_left (by omega)]
    simpa using q1
  · simp at ht

theorem setPs_R {ρ : Ren} {nt : Nat} : ∀ (ps : List Nat) (vs : List AV) (env env' : Tr AV) (tmps : Array Value) (cs : List Value), setPs ps vs nt env = some env' → EnvR S ρ nt env tmps → VRs S ρ vs cs →
    ps.length = cs.length ∧ EnvR S ρ nt env' ((ps.zip cs).foldl (fun tmps (t, a) => tmps.setIfInBounds t a) tmps) := by
  intro ps
  induction ps with
  | nil =>
    intro vs env env' tmps cs h henv hv
    cases vs with
    | nil => cases cs with
      | nil => cases h; exact ⟨rfl, henv⟩
      | cons _ _ => exact hv.elim
    | cons _ _ => simp [setPs] at h
  | cons p ps ih =>
    intro vs env env' tmps cs h henv hv
    cases vs with
    | nil => simp [setPs] at h
    | cons v vs => cases cs with
      | nil => exact hv.elim
      | cons c cs =>
        simp only [setPs] at h
        split at h
        · rename_i hp
          obtain ⟨q1, q2⟩ := ih vs _ env' _ cs h (henv.set (by simpa [Nat.blt_eq] using hp) hv.1) hv.2
          exact ⟨by simp [q1], q2⟩
        · cases h

theorem results_sound (ro : RoOk S w0) {ρ : Ren} {h : AH} {w : World} (r : Rel S w0 ρ h w) {nt : Nat} {env : Tr AV} {tmps : Array Value} (henv : EnvR S ρ nt env tmps) :
    ∀ (rs : List ResultVar) (res : List ARes), mapO (cRes S.P) rs = some res → ∀ vs, results S.B env h res = some vs →
      ∃ cs : List Value, (rs.mapM (fun | .tmp t => pure (tmps.getD t undef) | .cell a t => do loadVar t (← asAddr (tmps.getD a undef)) : ResultVar → Sem Value)).run S.P w = .ok cs w ∧ VRs S ρ vs cs := by
  intro rs
  induction rs with
  | nil => intro res hm vs hv; simp [mapO] at hm; subst hm; simp only [results, Option.some.injEq] at hv; subst hv; exact ⟨[], by simp, trivial⟩
  | cons x rs ih =>
    intro res hm vs hv
    obtain ⟨b, t, hb, ht, rfl⟩ := mapO_cons hm
    simp only [results] at hv
    cases x with
    | tmp tt =>
      simp only [cRes, Option.some.injEq] at hb; subst hb
      simp only at hv
      cases hg : env.get tt with
      | none => simp [hg] at hv
      | some v =>
        cases hr : results S.B env h t with
        | none => simp [hg, hr] at hv
        | some l =>
          simp only [hg, hr, Option.some.injEq] at hv; subst hv
          obtain ⟨cs, q1, q2⟩ := ih t ht l hr
          obtain ⟨c, q3, q4⟩ := henv.2 tt v hg
          refine ⟨c :: cs, ?_, q4, q2⟩
          have : tmps.getD tt undef = c := by rw [Array.getD_eq_getD_getElem?, q3]; rfl
          simp only [List.mapM_cons, Sem.run_bind, this, Sem.run_pure, Result.andThen_ok]
          rw [q1]; rfl
    | cell aa tt =>
      simp only [cRes] at hb
      cases htv : tvar S.P tt with
      | none => simp [htv] at hb
      | some an =>
        obtain ⟨agg, n⟩ := an
        simp only [htv, Option.some.injEq] at hb; subst hb
        simp only at hv
        cases hg : env.get aa with
        | none => simp [hg] at hv
        | some v =>
          cases hld : ldVar S.B agg n v h with
          | none => simp [hg, hld] at hv
          | some u =>
            cases hr : results S.B env h t with
            | none => simp [hg, hld, hr] at hv
            | some l =>
              simp only [hg, hld, hr, Option.some.injEq] at hv; subst hv
              obtain ⟨cs, q1, q2⟩ := ih t ht l hr
              obtain ⟨c, q3, q4⟩ := henv.2 aa v hg
              obtain ⟨x', y, q5, q6, q7⟩ := run_ldVar ro r htv hld q4
              refine ⟨y :: cs, ?_, q7, q2⟩
              have : tmps.getD aa undef = .pointer (some x') := by rw [Array.getD_eq_getD_getElem?, q3, q5]; rfl
              simp only [List.mapM_cons, Sem.run_bind, this, Sem.run_pure, Result.andThen_ok, asAddr, q6]
              exact (congrArg (fun z => Result.andThen z _) q1).trans rfl

theorem tupOf_R {ρ : Ren} {vs : List AV} {cs : List Value} (hv : VRs S ρ vs cs) : VR S ρ (tupOf vs) (if h : cs.toArray.size = 1 then cs.toArray[0] else .tuple cs.toArray) := by
  cases vs with
  | nil => cases cs with
    | nil => exact ⟨_, rfl, trivial⟩
    | cons _ _ => exact hv.elim
  | cons v vs => cases cs with
    | nil => exact hv.elim
    | cons c cs =>
      cases vs with
      | nil => cases cs with
        | nil => exact hv.1
        | cons _ _ => exact hv.2.elim
      | cons v2 vs => cases cs with
        | nil => exact hv.2.elim
        | cons c2 cs => exact ⟨_, rfl, hv⟩

theorem run_takeDeferred {P : Program} {b : Nat} {w : World} (hb : w.heap[b]? = some (.deferred (some []))) :
    (Instr.takeDeferred b).run P w = .ok [] { w with heap := w.heap.setIfInBounds b (.deferred none) } := by
  have h1 := run_getObj (P := P) hb (by intros; simp)
  have h2 := run_setObj (P := P) (o' := .deferred none) hb (by intros; simp)
  simp [Instr.takeDeferred, h1, h2]

/-- A function's way out. -/
theorem leave_sound (ro : RoOk S w0) {fn : Func} {res : List ARes} (hres : mapO (cRes S.P) fn.results.toList = some res) {nt : Nat} {env : Tr AV} {R : Ending → World → Prop} :
    ∀ (defers : List Deferred) (ds : List Nat) {ρ : Ren} {h h' : AH} {w : World} {tmps : Array Value} {v : AV}, Rel S w0 ρ h w → EnvR S ρ nt env tmps → DefsR S.P ρ ds defers → leave S.B res env ds h = .val v h' →
      (∀ w' c, Stp S w0 ρ h w ρ h' w' → VR S ρ v c → R (.returned c) w') → LeavesInM Fence.wide 0 S.P fn tmps R defers .returning w := by
  intro defers
  induction defers with
  | nil =>
    intro ds ρ h h' w tmps v r henv hds he K
    have hds' : ds = [] := hds
    subst hds'
    simp only [leave, killAll] at he
    split at he
    · rename_i vs hvs
      cases he
      obtain ⟨cs, q1, q2⟩ := results_sound ro r henv _ _ hres _ hvs
      refine ⟨_, ?_, K w _ (Stp.refl r) (tupOf_R q2)⟩
      simp only [Go.results, Sem.run_bind]
      rw [Array.mapM_eq_mapM_toList, Sem.run_map]
      exact (congrArg (fun z => Result.andThen (Result.andThen z _) _) q1).trans rfl
    · cases he
  | cons x defers ih =>
    intro ds ρ h h' w tmps v r henv hds he K
    rcases hds with ⟨⟨g, cap, htar, hok⟩, hds⟩ | ⟨d, ds', rfl, ⟨l, hl, rfl⟩, hds⟩
    · refine ⟨by simp, .inr ⟨(fun e => by cases e), .func g, cap, g, x.args ++ cap, htar, ?_, fun _ _ => trivial, ?_⟩⟩
      · rw [htar]
        exact (guard_calls (w := w) (R := fun _ _ _ => True) (args := #[]) hok (fun _ => trivial)).2 _ _
      · exact (guard_calls hok (fun v' => ih ds r henv hds he K)).1
    · simp only [leave, killAll] at he
      cases hg : h.get d with
      | none => simp [hg] at he
      | some o =>
        cases o <;> simp only [hg] at he <;> try (cases he; done)
        obtain ⟨l', q1, _, q2⟩ := r.obj _ _ hg rfl
        rw [hl] at q1; cases q1
        have q2' : w.heap[l.b]? = some (.deferred (some [])) := q2
        have hlt : l.b < w.heap.size := (Array.getElem?_eq_some_iff.1 q2').1
        have s1 := setObj_stp (o' := .dead) (ob := .deferred none) r hg rfl hl hlt (fun e => by simp [AObj.live] at e)
        refine ⟨by simp, .inl ⟨l.b, _, rfl, run_takeDeferred q2', ?_⟩⟩
        exact ih ds' s1.rel henv hds he fun w' c s2 hv => K w' c (s1.trans s2) hv

/-- The table holds what the functions are compiled to. -/
def TabOk (P : Program) (T : Tr FnI) : Prop := ∀ f fi, T.get f = some fi → compFn P f = some fi

theorem compFn_some {P : Program} {f : FuncId} {fi : FnI} (h : compFn P f = some fi) : ∃ fn c, P.funcs[f]? = some fn ∧ fn.body = some c ∧ comp P fn.ntmps c = some fi.code ∧ mapO (cRes P) fn.results.toList = some fi.res ∧ fi.nt = fn.ntmps ∧ (fn.name == "runtime.NumGoroutine") = false := by
  unfold compFn at h
  split at h
  · cases h
  · rename_i fn hfn
    split at h
    · cases h
    · rename_i c hc
      split at h
      · cases h
      · rename_i code hcode
        split at h
        · cases h
        · rename_i res hres
          split at h
          · cases h
          · rename_i hname
            cases h
            exact ⟨fn, c, hfn, hc, hcode, hres, rfl, hname⟩

theorem leave_next {B : Nat → List AV} {res : List ARes} {env : Tr AV} {ds : List Nat} {h h' : AH} {v : AV} (e : leave B res env ds h = .val v h') : h'.next = h.next := by
  induction ds generalizing h with
  | nil =>
    simp only [leave, killAll] at e
    split at e <;> cases e
    rfl
  | cons d ds ih =>
    simp only [leave, killAll] at e
    cases hg : h.get d with
    | none => simp [hg] at e
    | some o =>
      cases o <;> simp only [hg] at e <;> try (cases e; done)
      have := ih (h := h.put d .dead) e
      simpa using this

theorem callFn_sound {call : Caller} (ro : RoOk S w0) (hcall : CallerOk S w0 call) {L f : Nat} {fi : FnI} (hfi : compFn S.P f = some fi) {args : List AV} {h : AH} {v : AV} {h' : AH} (he : callFn S.B call L fi args h = .val v h') :
    h.next ≤ h'.next ∧ ∀ ρ w (cargs : Array Value), Rel S w0 ρ h w → Free ρ h.next h'.next → VRs S ρ args cargs.toList →
      (callFunc f cargs).run S.P w = .ok (.enter f cargs) w ∧ CallsIn Fence.wide 0 S.P f cargs w (CallOk S w0 ρ h w v h') := by
  obtain ⟨fn, c, hfn, hb, hcode, hres, hnt, hname⟩ := compFn_some hfi
  simp only [callFn] at he
  split at he
  · cases he
  · rename_i hlen
    have hlen' : args.length ≤ fi.nt := by simpa using hlen
    split at he
    · cases he
    · rename_i ex env ds h1 hev
      have hleave : leave S.B fi.res env ds h1 = .val v h' ∧ (ex = .normal ∨ ex = .jump .ret) := by
        split at he
        · exact ⟨he, .inl rfl⟩
        · split at he
          · exact ⟨he, .inr rfl⟩
          · cases he
      obtain ⟨hl, hex⟩ := hleave
      have hn1 := evC_next hcall.le _ hev
      have hn2 := leave_next hl
      refine ⟨by omega, fun ρ w cargs r hf hv => ⟨?_, ?_⟩⟩
      · simp only [callFunc, Sem.run_bind, run_program, Result.andThen_ok, hfn]
        simp only [hname, Bool.false_eq_true, if_false, hb, Option.isNone_some]
        rfl
      · refine callsIn_of_wp_marks hfn hb trivial ?_ rfl
        have henv := envOf_R hv hlen'
        rw [hnt] at henv hev
        have : Free ρ h.next h1.next := by rw [← hn2]; exact hf
        refine evC_sound ro hcall (rdn := none) (rb := none) c fi.code hcode r (a := { tmps := cargs ++ Array.replicate (fn.ntmps - cargs.size) undef, defers := [] }) henv (show DefsR S.P ρ [] [] from rfl) (show RdR ρ none none from trivial) hev this ?_
        intro ρ1 a1 w1 s1 e1 d1
        have hgo : LeavesInM Fence.wide 0 S.P fn a1.tmps (CallOk S w0 ρ h w v h') a1.defers .returning w1 :=
          leave_sound ro hres a1.defers ds s1.rel e1 d1 hl fun w' c s2 hv => ⟨ρ1, c, rfl, s1.trans s2, hv⟩
        rcases hex with rfl | rfl
        · exact hgo
        · exact hgo

theorem run_yieldI {P : Program} {b : Nat} {L : Loop} {w : World} (hb : w.heap[b]? = some (.loop L)) {args : Array Value} (hs : args.size = L.params.size) :
    (Instr.yield b args).run P w = .ok (.round b L.fn ((L.params.zip args).foldl (fun tmps (t, a) => tmps.setIfInBounds t a) L.tmps) L.assign L.body) w := by
  have h1 := run_getObj (P := P) hb (by intros; simp)
  simp [Instr.yield, Instr.getLoop, h1, hs]

theorem endRound_sound {ρ : Ren} {h h' : AH} {w : World} {l : Nat} {lo : Loc} {v : AV} {j : Option AJump} (r : Rel S w0 ρ h w) (hl : ρ l = some lo) (he : endRound l j h = .val v h') :
    ∃ c w', (Instr.endRound lo.b (j.map AJump.code)).run S.P w = .ok c w' ∧ Stp S w0 ρ h w ρ h' w' ∧ VR S ρ v c := by
  unfold endRound at he
  split at he
  · rename_i st pend env nt ps asg body d hg
    obtain ⟨l', q1, _, Lp, q2, q3, q4, q5, q6, q7, q8, ld, q9, q10⟩ := r.obj _ _ hg rfl
    rw [hl] at q1; cases q1
    have hlt : lo.b < w.heap.size := (Array.getElem?_eq_some_iff.1 q2).1
    have h1 := run_getObj (P := S.P) q2 (by intros; simp)
    cases j with
    | none =>
      simp only at he
      cases he
      have h2 := run_setObj (P := S.P) (o' := .loop { Lp with state := .ready, pending := none }) q2 (by intros; simp)
      refine ⟨.bool true, _, ?_, setObj_stp r hg rfl hl hlt (ob := .loop { Lp with state := .ready, pending := none }) (fun _ => ⟨{ Lp with state := .ready, pending := none }, by simp [hlt], rfl, rfl, q5, q6, q7, q8, ld, q9, q10⟩), rfl⟩
      simp [Instr.endRound, Instr.getLoop, h1, h2]
    | some j =>
      simp only at he
      cases he
      have h2 := run_setObj (P := S.P) (o' := .loop { Lp with state := .done, pending := some j.code }) q2 (by intros; simp)
      refine ⟨.bool false, _, ?_, setObj_stp r hg rfl hl hlt (ob := .loop { Lp with state := .done, pending := some j.code }) (fun _ => ⟨{ Lp with state := .done, pending := some j.code }, by simp [hlt], rfl, rfl, q5, q6, q7, q8, ld, q9, q10⟩), rfl⟩
      simp [Instr.endRound, Instr.getLoop, h1, h2]
  · cases he

theorem endRound_next {l : Nat} {j : Option AJump} {h h' : AH} {v : AV} (he : endRound l j h = .val v h') : h'.next = h.next := by
  unfold endRound at he
  split at he
  · cases j <;> simp only at he <;> cases he <;> rfl
  · cases he

theorem callYield_sound {call : Caller} (ro : RoOk S w0) (hcall : CallerOk S w0 call) {L l : Nat} {args : List AV} {h : AH} {v : AV} {h' : AH} (he : callYield S.B call L l args h = .val v h') :
    h.next ≤ h'.next ∧ ∀ ρ w (cargs : Array Value) lo, Rel S w0 ρ h w → Free ρ h.next h'.next → VRs S ρ args cargs.toList → ρ l = some lo →
      ∃ fn tmps asg body, (Instr.yield lo.b cargs).run S.P w = .ok (.round lo.b fn tmps asg body) w ∧ RoundIn Fence.wide 0 S.P lo.b fn tmps asg body w (CallOk S w0 ρ h w v h') := by
  unfold callYield at he
  split at he
  · rename_i st0 pend0 env nt ps aasg abody d0 hg
    split at he
    · cases he
    · rename_i env1 hps
      split at he
      · cases he
      · rename_i ex env2 ds2 h2 hev1
        split at he
        · cases he
        · split at he
          · rename_i st pend env' nt' ps' asg' body' d' hg2
            split at he
            · split at he
              · cases he
              · rename_i ex3 env3 ds3 h3 hev2
                obtain ⟨j, hend, hj⟩ : ∃ j, endRound l j h3 = .val v h' ∧ ex3 = (match j with | none => .normal | some j => .jump j) := by
                  split at he
                  · exact ⟨none, he, rfl⟩
                  · exact ⟨some _, he, rfl⟩
                have n1 := evC_next hcall.le _ hev1
                have n2 := evC_next hcall.le _ hev2
                have n3 := endRound_next hend
                simp only [AH.next_put] at n2
                refine ⟨by omega, fun ρ w cargs lo r hf hv hlo => ?_⟩
                obtain ⟨l', q1, _, Lp, q2, q3, q4, q5, q6, q7, q8, ld, q9, q10⟩ := r.obj _ _ hg rfl
                rw [hlo] at q1; cases q1
                obtain ⟨p1, p2⟩ := setPs_R ps args env env1 Lp.tmps cargs.toList hps q5 hv
                have hsz : cargs.size = Lp.params.size := by rw [← q6] at p1; simpa using p1.symm
                refine ⟨Lp.fn, _, Lp.assign, Lp.body, run_yieldI q2 hsz, ?_⟩
                refine roundIn_of_wpIn trivial ?_
                have hfa : Free ρ h.next h2.next := hf.left (by omega)
                have hzip : ((Lp.params.zip cargs).foldl (fun tmps (x : Nat × Value) => tmps.setIfInBounds x.1 x.2) Lp.tmps) = ((ps.zip cargs.toList).foldl (fun tmps (x : Nat × Value) => tmps.setIfInBounds x.1 x.2) Lp.tmps) := by
                  rw [← Array.foldl_toList, Array.toList_zip, q6]
                have p2' : EnvR S ρ nt env1 ((Lp.params.zip cargs).foldl (fun tmps (x : Nat × Value) => tmps.setIfInBounds x.1 x.2) Lp.tmps) := by rw [hzip]; exact p2
                show Code.wpIn (fen (some lo.b)) 0 S.P _ _ _ _
                refine evC_sound ro hcall (rdn := some l) (rb := some lo.b) Lp.assign aasg q7 r (a := { tmps := _, defers := [] }) p2' (show DefsR S.P ρ [] [] from rfl) ⟨lo, hlo, rfl⟩ hev1 hfa ?_
                intro ρ1 a1 w1 s1 e1 d1
                have hlo1 : ρ1 l = some lo := s1.sub hfa _ _ hlo
                obtain ⟨l', q1, _, L2, t2, t3, t4, t5, t6, t7, t8, ld2, t9, t10⟩ := s1.rel.obj _ _ hg2 rfl
                rw [hlo1] at q1; cases q1
                have hlt : lo.b < w1.heap.size := (Array.getElem?_eq_some_iff.1 t2).1
                have g1 := run_getObj (P := S.P) t2 (by intros; simp)
                have g2 := run_setObj (P := S.P) (o' := .loop { L2 with state := .busy }) t2 (by intros; simp)
                have s2 := setObj_stp (o' := .loop .busy pend env' nt' ps' asg' body' d') (ob := .loop { L2 with state := .busy }) s1.rel hg2 rfl hlo1 hlt (fun _ => ⟨{ L2 with state := .busy }, by simp [hlt], rfl, t4, t5, t6, t7, t8, ld2, t9, t10⟩)
                refine ⟨{ w1 with heap := w1.heap.setIfInBounds lo.b (.loop { L2 with state := .busy }) }, ?_, ?_⟩
                · simp [Instr.beginRound, Instr.getLoop, g1, g2, t3]
                · have hf1 := s1.free hf
                  have hfb : Free ρ1 h2.next h3.next := hf1.left (by omega)
                  show Code.wpIn (fen (some lo.b)) 0 S.P _ _ _ _
                  refine evC_sound ro hcall (rdn := some l) (rb := some lo.b) Lp.body abody q8 s2.rel e1 d1 ⟨lo, hlo1, rfl⟩ hev2 (by simpa using hfb) ?_
                  intro ρ3 a3 w3 s3 e3 d3
                  have hlo3 : ρ3 l = some lo := s3.sub (by simpa using hfb) _ _ hlo1
                  obtain ⟨c, w4, k1, k2, k3⟩ := endRound_sound s3.rel hlo3 hend
                  have hok : CallOk S w0 ρ h w v h' (.returned c) w4 := ⟨ρ3, c, rfl, ((s1.trans s2).trans s3).trans k2, k3⟩
                  subst hj
                  cases j with
                  | none => exact ⟨c, w4, k1, hok⟩
                  | some j => cases j <;> exact ⟨c, w4, k1, hok⟩
            · cases he
          · cases he
  · cases he

/-- A function that gives a constant, whatever the heap. -/
def constFn (v : AV) : FnI := ⟨0, [.tmp 0], .reg [⟨some 0, .mov (.c v), none⟩]⟩
/-- What a constant function stands for. -/
def ConstOk (S : Sta) (w0 : World) (f : Nat) (v : AV) : Prop := ∀ ρ h w, Rel S w0 ρ h w →
  (callFunc f #[]).run S.P w = .ok (.enter f #[]) w ∧ CallsIn Fence.wide 0 S.P f #[] w (CallOk S w0 ρ h w v h)
/-- The table holds what the functions are compiled to, or constants. -/
def TabS (S : Sta) (w0 : World) (T : Tr FnI) : Prop := ∀ f fi, T.get f = some fi → compFn S.P f = some fi ∨ ∃ v, fi = constFn v ∧ ConstOk S w0 f v
theorem TabOk.s {T : Tr FnI} (h : TabOk S.P T) : TabS S w0 T := fun f fi e => .inl (h f fi e)

theorem callFn_const {B : Nat → List AV} {call : Caller} {L : Nat} {v v' : AV} {args : List AV} {h h' : AH} (e : callFn B call L (constFn v) args h = .val v' h') : args = [] ∧ v' = v ∧ h' = h := by
  cases args with
  | cons a l =>
    have hb : Nat.ble (a :: l).length (constFn v).nt = false := rfl
    simp only [callFn, hb] at e
    cases e
  | nil =>
    have hg : (Tr.e.set 0 v : Tr AV).get 0 = some v := Tr.get_set_same _ _ _
    simp only [callFn, constFn, evC, evOps, wanted, evOp, aop, rd, pure1, forceV_eq, setD, envOf, leave, killAll, results, hg, tupOf, List.length_nil, Nat.ble_eq_true_of_le (Nat.le_refl 0)] at e
    cases e
    exact ⟨rfl, rfl, rfl⟩

theorem run_sound (ro : RoOk S w0) {T : Tr FnI} (hT : TabS S w0 T) : ∀ n, CallerOk S w0 (run S.B T n) := by
  intro n
  induction n with
  | zero => exact ⟨fun f args h v h' e => (by cases e), fun l args h v h' e => (by cases e)⟩
  | succ n ih =>
    refine ⟨fun f args h v h' e => ?_, fun l args h v h' e => ?_⟩
    · simp only [run] at e
      split at e
      · rename_i fi hfi
        rcases hT f fi hfi with hc | ⟨v0, rfl, hk⟩
        · exact callFn_sound ro ih hc e
        · obtain ⟨rfl, rfl, rfl⟩ := callFn_const e
          refine ⟨Nat.le_refl _, fun ρ w cargs r _ hv => ?_⟩
          obtain rfl : cargs = #[] := by
            have hl := hv.length
            exact Array.eq_empty_of_size_eq_zero (by simpa using hl.symm)
          exact hk ρ _ w r
      · cases e
    · simp only [run] at e
      exact callYield_sound ro ih e

theorem Rel.later {ρ : Ren} {h : AH} {w w' : World} (r : Rel S w0 ρ h w) (hb : ∀ b, b < w.heap.size → w'.heap[b]? = w.heap[b]?) (hs : w.heap.size ≤ w'.heap.size) (eo : w'.os = w.os) (ep : w'.output = w.output) : Rel S w0 ρ h w' := by
  refine ⟨r.dom, fun id o h1 h2 => ?_, r.inj, fun b hb' => ?_, Nat.le_trans r.size hs, eo.trans r.os, ep.trans r.output⟩
  · obtain ⟨l, k1, k2, k3⟩ := r.obj id o h1 h2
    exact ⟨l, k1, k2, k3.heap (hb _ (k3.block_lt h2))⟩
  · rw [hb b (Nat.lt_of_lt_of_le hb' r.size)]; exact r.old b hb'
end fns
end Go.Proofs.YtkahmlbhgahbbaaGreat.Abs
