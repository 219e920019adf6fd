/- Code: sound (the third part). -/
import Derived.Test.YtkahmlbhgahbbaaGreatAbsX
import Derived.Test.YtkahmlbhgahbbaaGreatAbsD4
import Derived.Test.YtkahmlbhgahbbaaGreatAbsG
set_option linter.unusedSimpArgs false
set_option linter.unusedVariables false
set_option linter.unusedSectionVars false
set_option linter.constructorNameAsVariable false
namespace Go.Proofs.YtkahmlbhgahbbaaGreat.Abs

/-- Which round a frame is of. -/
def RdR (ρ : Ren) : Option Nat → Option Nat → Prop
  | none, none => True
  | some id, some b => ∃ l, ρ id = some l ∧ l.b = b
  | _, _ => False

/-- A frame's deferred calls: marks, and guards. -/
def DefsR (P : Program) (ρ : Ren) : List Nat → List Deferred → Prop
  | ds, [] => ds = []
  | ds, x :: xs => ((∃ g cap, x.target = .fn (.func g) cap ∧ guardOk P g = true) ∧ DefsR P ρ ds xs) ∨ ∃ d ds', ds = d :: ds' ∧ (∃ l, ρ d = some l ∧ x = { target := .collected l.b, args := #[] }) ∧ DefsR P ρ ds' xs

theorem RdR.mono {ρ ρ' : Ren} (h : Sub ρ ρ') {a b : Option Nat} (k : RdR ρ a b) : RdR ρ' a b := by
  cases a <;> cases b <;> first | exact k | (obtain ⟨l, h1, h2⟩ := k; exact ⟨l, h _ _ h1, h2⟩)
theorem DefsR.mono {P : Program} {ρ ρ' : Ren} (h : Sub ρ ρ') : ∀ {b : List Deferred} {a : List Nat}, DefsR P ρ a b → DefsR P ρ' a b
  | [], _, k => k
  | _ :: _, _, .inl ⟨g, k⟩ => .inl ⟨g, k.mono h⟩
  | _ :: _, _, .inr ⟨d, ds', e, ⟨l, h1, h2⟩, k⟩ => .inr ⟨d, ds', e, ⟨l, h _ _ h1, h2⟩, k.mono h⟩

def AExit.conc : AExit → Exit
  | .normal => .normal
  | .jump (.exit id) => .exit id
  | .jump .ret => .ret

theorem wpIn_scope {F : Fence} {n : Nat} {P : Program} {Q : Exit → Act → World → Prop} {a : Act} {w : World} {c : Code}
    (h : c.wpIn F n P (fun e a w => (∀ l, e ≠ .goto l) ∧ Q e a w) a w) : (Code.scope c).wpIn F n P Q a w := by
  intro b k cs hro hb hr
  have s1 : step P (lone (b.atR a (.code (.scope c) :: k)) cs w) = .next (lone (b.atR a (.code c :: .inScope c :: k)) cs w) := step_lone_go (by simp [stepG, stepG.exec, Frame.atR])
  have s2 : ∀ a w, step P (lone (b.atR a (.inScope c :: k)) cs w) = .next (lone (b.atR a k) cs w) := fun a w => step_lone_go (by simp [stepG, stepG.exec, Frame.atR])
  have h0 : (lone (b.atR a (.code (.scope c) :: k)) cs w).fenced P F := fenced_calm hb hr rfl
  obtain ⟨e, a₁, w₁, ⟨hng, hq⟩, harr⟩ := h b (.inScope c :: k) cs hro hb hr
  cases e with
  | normal => exact ⟨.normal, a₁, w₁, hq, .head h0 s1 (StepsIn.trans harr (.one (fenced_calm hb hr rfl) (s2 _ _)))⟩
  | exit id' =>
    have hx : exitTo id' (.inScope c :: k) = exitTo id' k := by simp [exitTo]
    exact ⟨.exit id', a₁, w₁, hq, fun k' hk => .head h0 s1 (harr.1 k' (by rw [hx]; exact hk)),
      fun hr' hk => let ⟨k₁, h1, h2⟩ := harr.2 hr' (by rw [hx]; exact hk); ⟨k₁, h1, .head h0 s1 h2⟩⟩
  | goto l => exact absurd rfl (hng l)
  | ret => exact ⟨_, a₁, w₁, hq, .of_steps (.one h0 s1) harr⟩
  | panic ch => exact ⟨_, a₁, w₁, hq, .of_steps (.one h0 s1) harr⟩
  | outgrown => exact ⟨_, a₁, w₁, hq, .of_steps (.one h0 s1) harr⟩

section code
variable {S : Sta} {w0 : World}

/-- What is asked behind a piece of code. -/
def After (S : Sta) (w0 : World) (nt : Nat) (ρ : Ren) (h : AH) (w : World) (ex : AExit) (env' : Tr AV) (ds' : List Nat) (h' : AH) (Q : Exit → Act → World → Prop) : Prop :=
  ∀ ρ' a' w', Stp S w0 ρ h w ρ' h' w' → EnvR S ρ' nt env' a'.tmps → DefsR S.P ρ' ds' a'.defers → Q ex.conc a' w'

theorem run_endLoop {P : Program} {b : Nat} {L : Loop} {w : World} (hb : w.heap[b]? = some (.loop L)) (hs : L.state ≠ .busy) :
    (Instr.endLoop b).run P w = .ok L.pending { w with heap := w.heap.setIfInBounds b (.loop { L with state := .exhausted }) } := by
  have h1 := run_getObj (P := P) hb (by intros; simp)
  have h2 := run_setObj (P := P) (o' := .loop { L with state := .exhausted }) hb (by intros; simp)
  simp [Instr.endLoop, Instr.getLoop, h1, h2]
  intro h
  exact absurd h hs

theorem dfr_sound {call : Caller} (ro : RoOk S w0) (hcall : CallerOk S w0 call) {L nt : Nat} {rdn rb : Option Nat} {id : Nat} {ops : Array Oper} {ac : AC} (hc : cDefer S.P nt ops = some ac) {ρ : Ren} {h : AH} {w : World} {a : Act} {env env' : Tr AV} {ds ds' : List Nat} {h' : AH} {ex : AExit} {Q : Exit → Act → World → Prop}
    (r : Rel S w0 ρ h w) (henv : EnvR S ρ nt env a.tmps) (hds : DefsR S.P ρ ds a.defers) (hrd : RdR ρ rdn rb) (he : evC S.B call L nt rdn ac env ds h = .out ex env' ds' h') (hf : Free ρ h.next h'.next)
    (K : After S w0 nt ρ h w ex env' ds' h' Q) : (Code.region id ops false).wpIn (fen rb) 0 S.P Q a w := by
  unfold cDefer at hc
  split at hc
  case h_2 => cases hc
  rename_i o pr hops
  split at hc
  case h_2 => cases hc
  rename_i t ags tys p1 p2 p3
  split at hc
  case h_2 => cases hc
  rename_i g hg
  split at hc
  case h_2 => cases hc
  rename_i hok
  split at hc
  case h_2 => cases hc
  rename_i pre hpre
  split at hc
  case h_2 => cases hc
  rename_i x hx
  cases hc
  simp only [evC] at he
  split at he
  · cases he
  rename_i hrn
  split at he
  case h_2 => cases he
  rename_i env1 h1 hev
  split at he
  case h_2 => cases he
  rename_i g' first cap hrx
  split at he
  case h_2 => cases he
  rename_i hgg
  cases he
  obtain rfl : g' = g := Nat.eq_of_beq_eq_true hgg
  cases rb with
  | some b => exact hrd.elim
  | none =>
  have hl : ops.toList = pr.reverse ++ [o] := by
    have := congrArg List.reverse hops
    rw [List.reverse_reverse, List.reverse_cons] at this
    exact this
  have hsz : ops.size = pr.length + 1 := by
    rw [← Array.length_toList, hl, List.length_append, List.length_reverse]; rfl
  obtain ⟨hlen, hi⟩ := mapO_some hpre
  rw [List.length_reverse] at hlen
  refine wpIn_region ?_
  rw [hsz, List.range_succ]
  refine evOps_sound' ro hcall none pre (List.range pr.length) (by simp [hlen]) (fun k ao hk => ?_) r henv hev hf (fun ρ1 a1 w1 s1 s2 s3 => ?_)
  · have hk' : k < pr.length := by have := (List.getElem?_eq_some_iff.1 hk).1; omega
    obtain ⟨b, e1, e2⟩ := hi k (pr.reverse[k]'(by rw [List.length_reverse]; exact hk')) (List.getElem?_eq_getElem _)
    rw [hk] at e1; cases e1
    refine ⟨k, _, by simp [hk'], ?_, e2⟩
    rw [← Array.getElem?_toList, hl, List.getElem?_append_left (by rw [List.length_reverse]; exact hk')]
    exact List.getElem?_eq_getElem _
  · have ho : ops[pr.length]? = some o := by
      rw [← Array.getElem?_toList, hl, List.getElem?_append_right (by rw [List.length_reverse]; exact Nat.le_refl _), List.length_reverse, Nat.sub_self]; rfl
    have hwt : Region.wanted o (yielded ops a1.tmps) = true := by simp [Region.wanted, p2]
    obtain ⟨fn0, x1, y1, e1, e2, e3, e4⟩ := rd_VR s2 hx hrx
    cases e2
    have hrun : (o.semAt none a1.eval).run S.P w1 = .ok (.defer { target := .fn (.func g') y1, args := x1 ++ ags.map a1.eval }) w1 := by
      rw [Oper.semAt_none]
      simp only [execOp, p1, resolve, e1, Deferred.ofValue, Sem.run_bind, Sem.run_pure, Result.andThen_ok]
    simp only [wpOpsIn, ho, hwt, if_true]
    refine ⟨fun _ _ => trivial, ?_⟩
    show o.uponIn (fen none) 0 S.P a1 _ Q ((o.semAt none a1.eval).run S.P w1)
    rw [hrun]
    show Q .normal _ w1
    rw [p3]
    refine K ρ1 _ w1 s1 s2 (.inl ⟨⟨g', y1, rfl, hok⟩, ?_⟩)
    show DefsR S.P ρ1 ds a1.defers
    rw [s3]
    exact hds.mono (s1.sub hf)

theorem evC_sound {call : Caller} (ro : RoOk S w0) (hcall : CallerOk S w0 call) {L nt : Nat} {rdn rb : Option Nat} :
    ∀ (c : Code) (ac : AC), comp S.P nt c = some ac → ∀ {ρ : Ren} {h : AH} {w : World} {a : Act} {env env' : Tr AV} {ds ds' : List Nat} {h' : AH} {ex : AExit} {Q : Exit → Act → World → Prop},
      Rel S w0 ρ h w → EnvR S ρ nt env a.tmps → DefsR S.P ρ ds a.defers → RdR ρ rdn rb → evC S.B call L nt rdn ac env ds h = .out ex env' ds' h' → Free ρ h.next h'.next →
      After S w0 nt ρ h w ex env' ds' h' Q → c.wpIn (fen rb) 0 S.P Q a w := by
  intro c
  induction c with
  | skip => intro ac hc ρ h w a env env' ds ds' h' ex Q r henv hds hrd he hf K; cases hc; cases he; exact wpIn_skip (K ρ a w (Stp.refl r) henv hds)
  | region id ops draw =>
    intro ac hc ρ h w a env env' ds ds' h' ex Q r henv hds hrd he hf K
    simp only [comp] at hc
    cases draw with
    | false =>
      simp only at hc
      cases hdf : cDefer S.P nt ops with
      | some c1 =>
        simp only [hdf, Option.some.injEq] at hc
        subst hc
        exact dfr_sound ro hcall hdf r henv hds hrd he hf K
      | none =>
      simp only [hdf] at hc
      cases hm : mapO (cOper S.P nt ops) ops.toList with
      | none => simp [hm] at hc
      | some l =>
        simp only [hm, Option.some.injEq] at hc
        subst hc
        simp only [evC] at he
        split at he
        · rename_i env1 h1 hev
          cases he
          obtain ⟨hlen, hi⟩ := mapO_some hm
          refine wpIn_region (evOps_sound ro hcall rb l (List.range ops.size) (by simp [hlen]) (fun k ao hk => ?_) r henv hev hf (fun ρ' a' w' s1 s2 s3 => K ρ' a' w' s1 s2 (by rw [s3]; exact hds.mono (s1.sub hf))))
          have hk' : k < ops.size := by have := (List.getElem?_eq_some_iff.1 hk).1; rw [hlen] at this; simpa using this
          obtain ⟨b, e1, e2⟩ := hi k ops[k] (by simp [hk'])
          rw [hk] at e1; cases e1
          exact ⟨k, ops[k], by simp [hk'], by simp [hk'], e2⟩
        · cases he
    | true =>
      simp only at hc
      cases hm : cDraw S.P nt ops with
      | none =>
        simp only [hm] at hc
        cases hm2 : cDraw2 S.P nt ops with
        | none => simp only [hm2, Option.some.injEq] at hc; subst hc; simp [evC] at he
        | some c2 =>
          simp only [hm2, Option.some.injEq] at hc; subst hc
          obtain ⟨rfl, rfl, snd⟩ := dreg2_sound ro hcall hm2 he
          exact wpIn_region_draw fun t => snd rb r henv hf t (fun ρ' a' w' s1 s2 s3 => K ρ' a' w' s1 s2 (by rw [s3]; exact hds.mono (s1.sub hf)))
      | some l =>
        simp only [hm, Option.some.injEq] at hc
        subst hc
        simp only [evC] at he
        split at he
        · rename_i env1 h1 hev
          cases he
          refine wpIn_region_draw fun t => evD_sound ro hcall rb hm r henv hev hf t (fun ρ' a' w' s1 s2 s3 => K ρ' a' w' s1 s2 (by rw [s3]; exact hds.mono (s1.sub hf)))
        · cases he
  | seq x y ihx ihy =>
    intro ac hc ρ h w a env env' ds ds' h' ex Q r henv hds hrd he hf K
    simp only [comp] at hc
    split at hc
    · cases hc
    · rename_i ax hx
      split at hc
      · cases hc
      · rename_i ay hy
        cases hc
        simp only [evC] at he
        split at he
        · cases he
        · rename_i ex1 env1 ds1 h1 hev
          split at he
          · have hn := evC_next hcall.le _ he
            refine wpIn_seq (ihx ax hx r henv hds hrd hev (hf.left hn) fun ρ1 a1 w1 s1 e1 d1 => ?_)
            exact ihy ay hy s1.rel e1 d1 (hrd.mono (s1.sub (hf.left hn))) he (s1.free hf) fun ρ2 a2 w2 s2 e2 d2 => K ρ2 a2 w2 (s1.trans s2) e2 d2
          · rename_i j
            cases he
            refine wpIn_seq (ihx ax hx r henv hds hrd hev hf fun ρ1 a1 w1 s1 e1 d1 => ?_)
            have := K ρ1 a1 w1 s1 e1 d1
            cases j <;> exact this
  | cond c x y ihx ihy =>
    intro ac hc ρ h w a env env' ds ds' h' ex Q r henv hds hrd he hf K
    simp only [comp] at hc
    split at hc
    · cases hc
    · rename_i cc hcc
      split at hc
      · cases hc
      · rename_i ax hx
        split at hc
        · cases hc
        · rename_i ay hy
          cases hc
          simp only [evC] at he
          split at he
          · rename_i b hb
            have hv := rd_VR henv hcc hb
            simp only [VR] at hv
            split at he
            · exact wpIn_cond_true hv (ihx ax hx r henv hds hrd he hf K)
            · exact wpIn_cond_false hv (ihy ay hy r henv hds hrd he hf K)
          · cases he
  | block id b ih =>
    intro ac hc ρ h w a env env' ds ds' h' ex Q r henv hds hrd he hf K
    simp only [comp] at hc
    split at hc
    · cases hc
    · rename_i ab hb
      cases hc
      simp only [evC] at he
      split at he
      · cases he
      · rename_i ex1 env1 ds1 h1 hev
        split at he
        · cases he
          exact wpIn_block (ih ab hb r henv hds hrd hev hf fun ρ1 a1 w1 s1 e1 d1 => K ρ1 a1 w1 s1 e1 d1)
        · split at he
          · cases he
            exact wpIn_block (ih ab hb r henv hds hrd hev hf fun ρ1 a1 w1 s1 e1 d1 => K ρ1 a1 w1 s1 e1 d1)
          · rename_i id'
            split at he
            · rename_i hid
              have hid' : id' = id := Nat.eq_of_beq_eq_true hid
              cases he
              refine wpIn_block (ih ab hb r henv hds hrd hev hf fun ρ1 a1 w1 s1 e1 d1 => ?_)
              show Exit.inBlock id Q (.exit id') a1 w1
              simp only [Exit.inBlock, hid', if_true]
              exact K ρ1 a1 w1 s1 e1 d1
            · rename_i hid
              have hid' : id' ≠ id := beq_f hid
              cases he
              refine wpIn_block (ih ab hb r henv hds hrd hev hf fun ρ1 a1 w1 s1 e1 d1 => ?_)
              show Exit.inBlock id Q (.exit id') a1 w1
              simp only [Exit.inBlock, if_neg hid']
              exact K ρ1 a1 w1 s1 e1 d1
  | loop b ih =>
    intro ac hc ρ h w a env env' ds ds' h' ex Q r henv hds hrd he hf K
    simp only [comp] at hc
    split at hc
    · cases hc
    · rename_i ab hb
      cases hc
      simp only [evC] at he
      refine wpIn_loop_rounds L ?_
      have key : ∀ m {ρ : Ren} {h : AH} {w : World} {a : Act} {env : Tr AV} {ds : List Nat}, Rel S w0 ρ h w → EnvR S ρ nt env a.tmps → DefsR S.P ρ ds a.defers → RdR ρ rdn rb →
          iter (evC S.B call L nt rdn ab) m env ds h = .out ex env' ds' h' → Free ρ h.next h'.next → After S w0 nt ρ h w ex env' ds' h' Q → Code.roundsIn (fen rb) 0 S.P b Q m a w := by
        intro m
        induction m with
        | zero => intro ρ h w a env ds r henv hds hrd he; cases he
        | succ m ihm =>
          intro ρ h w a env ds r henv hds hrd he hf K
          simp only [iter] at he
          rw [roundsIn_succ]
          split at he
          · cases he
          · rename_i ex1 env1 ds1 h1 hev
            split at he
            · have hn := iter_next (fun _ _ _ _ _ _ _ he => evC_next hcall.le _ he) _ he
              refine ih ab hb r henv hds hrd hev (hf.left hn) fun ρ1 a1 w1 s1 e1 d1 => ?_
              exact ihm s1.rel e1 d1 (hrd.mono (s1.sub (hf.left hn))) he (s1.free hf) fun ρ2 a2 w2 s2 e2 d2 => K ρ2 a2 w2 (s1.trans s2) e2 d2
            · rename_i j
              cases he
              refine ih ab hb r henv hds hrd hev hf fun ρ1 a1 w1 s1 e1 d1 => ?_
              have := K ρ1 a1 w1 s1 e1 d1
              cases j <;> exact this
      exact key L r henv hds hrd he hf K
  | rangeFunc f ps asg body iha ihb =>
    intro ac hc ρ h w a env env' ds ds' h' ex Q r henv hds hrd he hf K
    simp only [comp] at hc
    split at hc
    · cases hc
    · rename_i af haf
      split at hc
      · cases hc
      · rename_i aasg hasg
        split at hc
        · cases hc
        · rename_i abody hbody
          cases hc
          simp only [evC] at he
          split at he
          · rename_i g first cap hrf
            have hfv := rd_VR henv haf hrf
            obtain ⟨fn0, x, y, e1, e2, e3, e4⟩ := hfv
            split at he
            · rename_i g
              cases e2
              split at he
              · rename_i d ds1 h1 hdef
                split at he
                · cases he
                · rename_i v h3 hcl
                  obtain ⟨hn, hfun⟩ := hcall.func _ _ _ _ _ hcl
                  simp only [AH.next_new] at hn
                  have hend : h'.next = h3.next := by
                    unfold endRange at he
                    repeat' (split at he)
                    all_goals first | (cases he; done) | (cases he; rfl)
                  rw [hend] at hf
                  refine wpIn_rangeFunc ?_
                  intro fnid _
                  -- the record and the block
                  have hdef' : ∃ (D : Nat) (mark : List Deferred) (w1 : World) (ρ1 : Ren), Stp S w0 ρ h w ρ1 h1 w1 ∧ DefsR S.P ρ1 ds1 (mark ++ a.defers) ∧ (∃ ld, ρ1 d = some ld ∧ D = ld.b) ∧ h1.next ≤ h3.next ∧
                      (Instr.enterLoop fnid a.tmps ps asg body rb).run S.P w = .ok (w1.heap.size, mark) (w1.alloc (.loop { state := .ready, pending := none, fn := fnid, tmps := a.tmps, params := ps, assign := asg, body := body, defers := D })) := by
                    unfold defOf at hdef
                    split at hdef
                    · cases hdef
                      cases rb with
                      | some b => exact hrd.elim
                      | none =>
                        have hfr : ρ h.next = none := hf _ (Nat.le_refl _) (by simp at hn; omega)
                        have s1 := Stp.new (w' := w.alloc (.deferred (some []))) r .defd (.deferred (some [])) ⟨w.heap.size, 0, 0⟩ rfl hfr rfl rfl rfl (by show (w.heap.push _)[w.heap.size]? = _; simp)
                        refine ⟨w.heap.size, [{ target := .collected w.heap.size, args := #[] }], w.alloc (.deferred (some [])), _, s1, Or.inr ⟨_, _, rfl, ⟨_, Ren.put_same _ _ _, rfl⟩, hds.mono (Ren.sub_put _ hfr)⟩, ⟨_, Ren.put_same _ _ _, rfl⟩, by omega, ?_⟩
                        simp [Instr.enterLoop]
                    · rename_i id
                      cases rb with
                      | none => exact hrd.elim
                      | some b =>
                        obtain ⟨lb, hlb, rfl⟩ := hrd
                        split at hdef
                        · rename_i st pend env2 nt2 ps2 asg2 body2 d2 hg
                          cases hdef
                          obtain ⟨l', q1, _, Lp, q2, q3, q4, q5, q6, q7, q8, ld, q9, q10⟩ := r.obj _ _ hg rfl
                          rw [hlb] at q1; cases q1
                          refine ⟨Lp.defers, [], w, ρ, Stp.refl r, hds, ⟨ld, q9, q10⟩, by omega, ?_⟩
                          have hgo := run_getObj (P := S.P) q2 (by intros; simp)
                          simp [Instr.enterLoop, Instr.getLoop, hgo]
                        · cases hdef
                  obtain ⟨D, mark, w1, ρ1, s1, hds1, ⟨ld, hld, rfl⟩, hle1, hent⟩ := hdef'
                  have hf1 := s1.free hf
                  have hfr1 : ρ1 h1.next = none := hf1 _ (Nat.le_refl _) (by omega)
                  have henv1 := henv.mono (s1.sub (hf.left hle1))
                  have hsub2 := Ren.sub_put (⟨w1.heap.size, 0, 0⟩ : Loc) hfr1
                  have s2 := Stp.new (w' := w1.alloc (.loop { state := .ready, pending := none, fn := fnid, tmps := a.tmps, params := ps, assign := asg, body := body, defers := ld.b })) s1.rel (.loop .ready none env nt ps.toList aasg abody d)
                    (.loop { state := .ready, pending := none, fn := fnid, tmps := a.tmps, params := ps, assign := asg, body := body, defers := ld.b }) ⟨w1.heap.size, 0, 0⟩ rfl hfr1 rfl rfl rfl
                    ⟨{ state := .ready, pending := none, fn := fnid, tmps := a.tmps, params := ps, assign := asg, body := body, defers := ld.b }, by simp, rfl, rfl, henv1.mono hsub2, rfl, hasg, hbody, ld, hsub2 _ _ hld, rfl⟩
                  have s12 := s1.trans s2
                  have hf2 : Free (ρ1.put h1.next ⟨w1.heap.size, 0, 0⟩) (h1.new (.loop .ready none env nt ps.toList aasg abody d)).next h3.next := s2.free hf1
                  have hsub12 : Sub ρ (ρ1.put h1.next ⟨w1.heap.size, 0, 0⟩) := s12.sub (hf.left (by simp; omega))
                  have hargs : VRs S (ρ1.put h1.next ⟨w1.heap.size, 0, 0⟩) (first ++ (.fn (.yield h1.next) [] [] :: cap)) (x ++ #[Value.func (.yield w1.heap.size) #[] #[]] ++ y).toList := by
                    have : VRs S (ρ1.put h1.next ⟨w1.heap.size, 0, 0⟩) (.fn (.yield h1.next) [] [] :: cap) ((Value.func (.yield w1.heap.size) #[] #[]) :: y.toList) :=
                      ⟨⟨_, _, _, rfl, ⟨_, Ren.put_same _ _ _, rfl⟩, trivial, trivial⟩, VRs.mono hsub12 e4⟩
                    simpa using (VRs.mono hsub12 e3).append this
                  obtain ⟨hcf, hci⟩ := hfun _ _ _ s2.rel hf2 hargs
                  refine ⟨w1.heap.size, mark, (w1.alloc (.loop { state := .ready, pending := none, fn := fnid, tmps := a.tmps, params := ps, assign := asg, body := body, defers := ld.b })), { target := .fn (.func g) y, args := x ++ #[Value.func (.yield w1.heap.size) #[] #[]] }, (w1.alloc (.loop { state := .ready, pending := none, fn := fnid, tmps := a.tmps, params := ps, assign := asg, body := body, defers := ld.b })), g, x ++ #[Value.func (.yield w1.heap.size) #[] #[]] ++ y, (w1.alloc (.loop { state := .ready, pending := none, fn := fnid, tmps := a.tmps, params := ps, assign := asg, body := body, defers := ld.b })), hent, ?_, fun _ _ => trivial, ?_, (fun e => by cases e), ?_⟩
                  · simp [resolve, e1, Deferred.ofValue]; rfl
                  · simp only [invoke]; exact hcf
                  · refine (CallsIn.any rb hci).mono ?_
                    rintro e w3 ⟨ρ3, c, rfl, s3, _⟩
                    -- the end
                    have hsub3 := s3.sub hf2
                    have hl3 : ρ3 h1.next = some ⟨w1.heap.size, 0, 0⟩ := hsub3 _ _ (Ren.put_same _ _ _)
                    have s123 := s12.trans s3
                    have henv3 : EnvR S ρ3 nt env ({ a with defers := mark ++ a.defers } : Act).tmps := (henv1.mono hsub2).mono hsub3
                    have hds3 : DefsR S.P ρ3 ds1 (mark ++ a.defers) := (hds1.mono hsub2).mono hsub3
                    unfold endRange at he
                    split at he
                    · rename_i st pend env2 nt2 ps2 asg2 body2 d2 hg3
                      obtain ⟨l', q1, _, Lp, q2, q3, q4, q5, q6, q7, q8, ld2, q9, q10⟩ := s3.rel.obj _ _ hg3 rfl
                      rw [hl3] at q1; cases q1
                      have hlt : w1.heap.size < w3.heap.size := (Array.getElem?_eq_some_iff.1 q2).1
                      have hput : Stp S w0 ρ3 h3 w3 ρ3 (h3.put h1.next (.loop .exhausted pend env2 nt2 ps2 asg2 body2 d2)) { w3 with heap := w3.heap.setIfInBounds w1.heap.size (.loop { Lp with state := .exhausted }) } :=
                        setObj_stp s3.rel hg3 rfl hl3 hlt (ob := .loop { Lp with state := .exhausted }) (fun _ => ⟨{ Lp with state := .exhausted }, by simp [hlt], rfl, q4, q5, q6, q7, q8, ld2, q9, q10⟩)
                      split at he
                      · cases he
                      · rename_i hnb
                        have hel := run_endLoop (P := S.P) q2 (by rw [q3]; exact fun e => hnb e)
                        split at he
                        · cases he
                          simp only [Option.map_none] at q4
                          exact ⟨none, _, by rw [hel, q4], K ρ3 _ _ (s123.trans hput) henv3 hds3⟩
                        · rename_i j
                          cases he
                          simp only [Option.map_some] at q4
                          refine ⟨some j.code, _, hel.trans (congrArg (fun p => Result.ok p _) q4), ?_⟩
                          have := K ρ3 { a with defers := mark ++ a.defers } _ (s123.trans hput) henv3 hds3
                          cases j with
                          | exit id => exact wpIn_exit this
                          | ret => exact wpIn_ret this
                    · cases he
              · cases he
            · cases he
          · cases he
  | exit id => intro ac hc ρ h w a env env' ds ds' h' ex Q r henv hds hrd he hf K; cases hc; cases he; exact wpIn_exit (K ρ a w (Stp.refl r) henv hds)
  | scope b ih =>
    intro ac hc ρ h w a env env' ds ds' h' ex Q r henv hds hrd he hf K
    simp only [comp] at hc
    split at hc
    · cases hc
    · rename_i ab hb
      cases hc
      simp only [evC] at he
      refine wpIn_scope (ih ab hb r henv hds hrd he hf fun ρ1 a1 w1 s1 e1 d1 => ⟨?_, K ρ1 a1 w1 s1 e1 d1⟩)
      intro l
      cases ex with
      | normal => simp [AExit.conc]
      | jump j => cases j <;> simp [AExit.conc]
  | label l => intro ac hc ρ h w a env env' ds ds' h' ex Q r henv hds hrd he hf K; cases hc; cases he; exact wpIn_label (K ρ a w (Stp.refl r) henv hds)
  | goto l => intro ac hc ρ h w a env env' ds ds' h' ex Q r henv hds hrd he hf K; cases hc; simp [evC] at he
  | ret => intro ac hc ρ h w a env env' ds ds' h' ex Q r henv hds hrd he hf K; cases hc; cases he; exact wpIn_ret (K ρ a w (Stp.refl r) henv hds)
  | refuse why => intro ac hc ρ h w a env env' ds ds' h' ex Q r henv hds hrd he hf K; cases hc; simp [evC] at he
end code
end Go.Proofs.YtkahmlbhgahbbaaGreat.Abs
