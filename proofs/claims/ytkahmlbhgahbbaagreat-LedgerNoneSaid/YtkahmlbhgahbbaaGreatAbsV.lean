/- Every operation but a call of a function: sound. -/
import Derived.Test.YtkahmlbhgahbbaaGreatAbsE
set_option linter.unusedSimpArgs false
set_option linter.unusedVariables false
set_option linter.unusedSectionVars false
set_option linter.constructorNameAsVariable false
namespace Go.Proofs.YtkahmlbhgahbbaaGreat.Abs
section ops
variable {S : Sta} {w0 : World} {ρ : Ren} {h : AH} {w : World}

theorem fSizes_mapM {P : Program} (w : World) : ∀ (fs : List Field), fSizes P fs = true → (fs.mapM (fun f => do pure (f.offset, ← sizeOf f.type) : Field → Sem (Nat × Nat))).run P w = .ok (fs.map fun f => (f.offset, P.cellsOf f.type)) w := by
  intro fs
  induction fs with
  | nil => intro _; simp
  | cons f fs ih =>
    intro h
    simp only [fSizes] at h
    cases hs : tsize P f.type with
    | none => simp [hs] at h
    | some n =>
      simp only [hs] at h
      have hc : P.cellsOf f.type = n := by
        unfold tsize at hs
        simp [Program.cellsOf, hs]
      simp only [List.mapM_cons, Sem.run_bind, run_size w hs, Result.andThen_ok, Sem.run_pure, ih h, hc, List.map_cons]

/-- The parts of a literal, where they lie. -/
theorem build_sound {env : Tr AV} {nt : Nat} {a : Act} (henv : EnvR S ρ nt env a.tmps) {t : TypeId} {z : AV} {ps : Array (Nat × Operand)} {l : List (Nat × Nat × AO)} {cs : List AV}
    (hz : tzero S.P t = some z) (hp : places S.P t ps.toList = some l) (hfill : fillP env z.cells l = some cs) :
    ∃ cc : Array Value, (Instr.build t (ps.map fun (i, x) => (i, a.eval x))).run S.P w = .ok (.agg cc) w ∧ VRs S ρ cs cc.toList := by
  obtain ⟨zc, z1, z2⟩ := tzero_some (S := S) (ρ := ρ) w hz
  unfold places at hp
  split at hp
  · rename_i fs hu
    split at hp
    · rename_i hs
      obtain ⟨hlen, hi⟩ := mapO_some hp
      have key : ∀ (i : Nat) p, ps.toList[i]? = some p → ∃ off n x, l[i]? = some (off, n, x) ∧ ((fs.toList.map fun f => (f.offset, S.P.cellsOf f.type)).toArray[p.1]?) = some (off, n) ∧ cAO p.2 = some x := by
        intro i p hpi
        obtain ⟨b, hb, hf⟩ := hi i p hpi
        unfold fPart at hf
        split at hf
        · rename_i f hfi
          split at hf
          · rename_i x hx
            split at hf
            · rename_i n hn
              cases hf
              refine ⟨_, _, _, hb, ?_, hx⟩
              have hc : S.P.cellsOf f.type = n := by unfold tsize at hn; simp [Program.cellsOf, hn]
              simp [hfi, hc]
            · cases hf
          · cases hf
        · cases hf
      obtain ⟨cz', f1, f2, f3⟩ := fill_sound henv (fun i => (fs.toList.map fun f => (f.offset, S.P.cellsOf f.type)).toArray[i]?) ps.toList l z.cells cs zc.cells hlen key hfill z2.cells'
      refine ⟨cz', ?_, f2⟩
      have hm : (fs.mapM (fun f => do pure (f.offset, ← sizeOf f.type) : Field → Sem (Nat × Nat))).run S.P w = .ok (fs.toList.map fun f => (f.offset, S.P.cellsOf f.type)).toArray w := by
        rw [Array.mapM_eq_mapM_toList, Sem.run_map, fSizes_mapM w fs.toList hs]; rfl
      simp only [Instr.build, Sem.run_bind, z1, Result.andThen_ok, run_under w hu, hm]
      have : (ps.map fun (i, x) => (i, a.eval x)).toList = ps.toList.map fun p => (p.1, a.eval p.2) := by simp
      rw [this, f1]
      simp
    · cases hp
  · rename_i len e hu
    split at hp
    · rename_i n hn
      obtain ⟨hlen, hi⟩ := mapO_some hp
      have key : ∀ (i : Nat) p, ps.toList[i]? = some p → ∃ off n' x, l[i]? = some (off, n', x) ∧ (fun i : Nat => some (i * n, n)) p.1 = some (off, n') ∧ cAO p.2 = some x := by
        intro i p hpi
        obtain ⟨b, hb, hf⟩ := hi i p hpi
        unfold aPart at hf
        split at hf
        · rename_i x hx
          cases hf
          exact ⟨_, _, _, hb, rfl, hx⟩
        · cases hf
      obtain ⟨cz', f1, f2, f3⟩ := fill_sound henv (fun i : Nat => some (i * n, n)) ps.toList l z.cells cs zc.cells hlen key hfill z2.cells'
      refine ⟨cz', ?_, f2⟩
      simp only [Instr.build, Sem.run_bind, z1, Result.andThen_ok, run_under w hu, run_size w hn]
      have : (ps.map fun (i, x) => (i, a.eval x)).toList = ps.toList.map fun p => (p.1, a.eval p.2) := by simp
      rw [this, f1]
      simp
    · cases hp
  · cases hp

theorem sliceT_some {P : Program} {t e : TypeId} (h : sliceT P t = some e) : P.underlying t = some (.slice e) := by
  unfold sliceT at h
  split at h
  · rename_i hu; cases h; exact hu
  · cases h

theorem plan_agg {t : TypeId} {p : EqP} (hp : eqPlan S.P 6 t = some p) (hl : (∃ fs ps, p = .str0 fs ps) ∨ ∃ a b c d, p = .arr a b c d) : (∃ l, S.P.underlying t = some (.struct l)) ∨ ∃ n e, S.P.underlying t = some (.array n e) := by
  simp only [eqPlan] at hp
  split at hp
  case h_8 => rename_i fs hu; exact .inl ⟨_, hu⟩
  case h_9 => rename_i n e hu; exact .inr ⟨_, _, hu⟩
  all_goals first
    | (cases hp; rcases hl with ⟨_, _, h⟩ | ⟨_, _, _, _, h⟩ <;> cases h; done)
    | (split at hp <;> first | (cases hp; rcases hl with ⟨_, _, h⟩ | ⟨_, _, _, _, h⟩ <;> cases h; done) | (cases hp; done))
    | (cases hp; done)

/-- What two values that were compared look like. -/
theorem aEq_shape {p : EqP} {x y : AV} {q : Bool} (hq : aEq p x y = some q) {cx cy : Value} (hx : VR S ρ x cx) (hy : VR S ρ y cy) :
    (∃ a b, cx = .bool a ∧ cy = .bool b) ∨ (∃ k a b, cx = .int k a ∧ cy = .int k b ∧ q = (a == b)) ∨ (∃ a b, cx = .string a ∧ cy = .string b ∧ q = (a.toList == b.toList)) ∨ (∃ a b, cx = .pointer a ∧ cy = .pointer b) ∨
    (∃ a b c d e f, cx = .slice a b c ∧ cy = .slice d e f) ∨ (∃ a b, cx = .map a ∧ cy = .map b) ∨ ((cx = .nilFunc ∨ ∃ a b c, cx = .func a b c) ∧ (cy = .nilFunc ∨ ∃ a b c, cy = .func a b c)) ∨
    (∃ a b, cx = .agg a ∧ cy = .agg b ∧ ((∃ fs ps, p = .str0 fs ps) ∨ ∃ a b c d, p = .arr a b c d)) := by
  cases p <;> simp only [aEq] at hq
  case bool => unfold eqBool at hq; split at hq <;> cases hq; exact .inl ⟨_, _, hx, hy⟩
  case int =>
    unfold eqInt at hq
    split at hq
    · split at hq <;> cases hq
      rename_i hk; subst hk
      exact .inr (.inl ⟨_, _, _, hx, hy, rfl⟩)
    · cases hq
  case str =>
    unfold eqStr at hq
    split at hq <;> cases hq
    obtain ⟨sa, rfl, rfl⟩ := hx
    obtain ⟨sb, rfl, rfl⟩ := hy
    exact .inr (.inr (.inl ⟨_, _, rfl, rfl, strEq_bytes _ _⟩))
  case ptr =>
    refine .inr (.inr (.inr (.inl ?_)))
    unfold eqPtr at hq
    split at hq
    · exact ⟨_, _, hx, hy⟩
    · obtain ⟨b, rfl, _⟩ := hy; exact ⟨_, _, hx, rfl⟩
    · obtain ⟨b, rfl, _⟩ := hx; exact ⟨_, _, rfl, hy⟩
    · obtain ⟨b, rfl, _⟩ := hx; obtain ⟨c, rfl, _⟩ := hy; exact ⟨_, _, rfl, rfl⟩
    · cases hq
  case sl =>
    refine .inr (.inr (.inr (.inr (.inl ?_))))
    unfold eqSl at hq
    split at hq
    · exact ⟨_, _, _, _, _, _, hx, hy⟩
    · obtain ⟨b, cap, rfl, _⟩ := hy; exact ⟨_, _, _, _, _, _, hx, rfl⟩
    · obtain ⟨b, cap, rfl, _⟩ := hx; exact ⟨_, _, _, _, _, _, rfl, hy⟩
    · cases hq
  case map =>
    refine .inr (.inr (.inr (.inr (.inr (.inl ?_)))))
    unfold eqMap at hq
    split at hq
    · exact ⟨_, _, hx, hy⟩
    · obtain ⟨b, _, rfl⟩ := hy; exact ⟨_, _, hx, rfl⟩
    · obtain ⟨b, _, rfl⟩ := hx; exact ⟨_, _, rfl, hy⟩
    · cases hq
  case fn =>
    refine .inr (.inr (.inr (.inr (.inr (.inr (.inl ?_))))))
    unfold eqFn at hq
    split at hq
    · exact ⟨.inl hx, .inl hy⟩
    · obtain ⟨_, _, _, rfl, _⟩ := hy; exact ⟨.inl hx, .inr ⟨_, _, _, rfl⟩⟩
    · obtain ⟨_, _, _, rfl, _⟩ := hx; exact ⟨.inr ⟨_, _, _, rfl⟩, .inl hy⟩
    · cases hq
  case str0 fs ps =>
    obtain ⟨ax, ay, rfl, rfl, _⟩ := two_some hq
    obtain ⟨vx, rfl, _⟩ := hx
    obtain ⟨vy, rfl, _⟩ := hy
    exact .inr (.inr (.inr (.inr (.inr (.inr (.inr ⟨_, _, rfl, rfl, .inl ⟨_, _, rfl⟩⟩))))))
  case arr =>
    obtain ⟨ax, ay, rfl, rfl, _⟩ := two_some hq
    obtain ⟨vx, rfl, _⟩ := hx
    obtain ⟨vy, rfl, _⟩ := hy
    exact .inr (.inr (.inr (.inr (.inr (.inr (.inr ⟨_, _, rfl, rfl, .inr ⟨_, _, _, _, rfl⟩⟩))))))

theorem eqGuard_ok {t : TypeId} {p : EqP} (hp : eqPlan S.P 6 t = some p) {x y : AV} {q : Bool} (hq : aEq p x y = some q) {cx cy : Value} (hx : VR S ρ x cx) (hy : VR S ρ y cy)
    (hg : S.P.eqGuardType S.P.depth t = false ∨ ∀ l, S.P.underlying t ≠ some (.struct l) ∧ ∀ n e, S.P.underlying t ≠ some (.array n e)) {op : BinOp} (xo yo : Operand) :
    (eqGuard op t xo yo cx cy).run S.P w = .ok () w := by
  rcases aEq_shape hq hx hy with ⟨a, b, rfl, rfl⟩ | ⟨k, a, b, rfl, rfl, _⟩ | ⟨a, b, rfl, rfl, _⟩ | ⟨a, b, rfl, rfl⟩ | ⟨a, b, c, d, e, f, rfl, rfl⟩ | ⟨a, b, rfl, rfl⟩ | ⟨h1, h2⟩ | ⟨a, b, rfl, rfl, hs⟩
  · cases op <;> simp [eqGuard]
  · cases op <;> simp [eqGuard]
  · cases op <;> simp [eqGuard]
  · cases op <;> simp [eqGuard]
  · cases op <;> simp [eqGuard]
  · cases op <;> simp [eqGuard]
  · rcases h1 with rfl | ⟨_, _, _, rfl⟩ <;> rcases h2 with rfl | ⟨_, _, _, rfl⟩ <;> cases op <;> simp [eqGuard]
  · rcases hg with hg | hg
    · cases op <;> simp [eqGuard, hg]
    · rcases plan_agg hp hs with ⟨l, hu⟩ | ⟨n, e, hu⟩
      · exact absurd hu (hg l).1
      · exact absurd hu ((hg #[]).2 n e)

theorem binOp_eq {t : TypeId} {p : EqP} {x y : AV} {q : Bool} (hq : aEq p x y = some q) {cx cy : Value} (hx : VR S ρ x cx) (hy : VR S ρ y cy) {op : BinOp} (hop : op = .eql ∨ op = .neq)
    (e : (Op.equalIn Op.maxDepth t cx cy).run S.P w = .ok q w) : (binOp op t cx cy).run S.P w = .ok (.bool (if op = .neq then !q else q)) w := by
  have e' : (Op.equal t cx cy).run S.P w = .ok q w := e
  clear e
  rcases aEq_shape hq hx hy with ⟨a, b, rfl, rfl⟩ | ⟨k, a, b, rfl, rfl, rfl⟩ | ⟨a, b, rfl, rfl, rfl⟩ | ⟨a, b, rfl, rfl⟩ | ⟨a, b, c, d, e, f, rfl, rfl⟩ | ⟨a, b, rfl, rfl⟩ | ⟨h1, h2⟩ | ⟨a, b, rfl, rfl, hs⟩
  · rcases hop with rfl | rfl <;> simp [binOp, e']
  · rcases hop with rfl | rfl <;> simp [binOp, Op.intCmp, bne]
  · rcases hop with rfl | rfl <;> simp [binOp, Op.stringOp]
  · rcases hop with rfl | rfl <;> simp [binOp, e']
  · rcases hop with rfl | rfl <;> simp [binOp, e']
  · rcases hop with rfl | rfl <;> simp [binOp, e']
  · rcases h1 with rfl | ⟨_, _, _, rfl⟩ <;> rcases h2 with rfl | ⟨_, _, _, rfl⟩ <;> rcases hop with rfl | rfl <;> simp [binOp, e']
  · rcases hop with rfl | rfl <;> simp [binOp, e']

theorem wrap_small {n : Nat} (h : n < 9223372036854775808) : IntKind.i64.wrap (n : Int) = n := by
  have h1 : ((n : Int) % 2 ^ IntKind.i64.bits) = n := by
    have : (2 : Int) ^ IntKind.i64.bits = 18446744073709551616 := by decide
    rw [this]; omega
  have h2 : (2 : Int) ^ (IntKind.i64.bits - 1) = 9223372036854775808 := by decide
  unfold IntKind.wrap
  simp only [h1, h2]
  rw [if_neg]
  simp only [IntKind.signed, Bool.true_and, decide_eq_true_eq]
  omega

theorem aop_sound (ro : RoOk S w0) (r : Rel S w0 ρ h w) {a : Act} {env : Tr AV} {nt : Nat} (henv : EnvR S ρ nt env a.tmps) {o : Oper} {ao : AOp} (hc : cOp S.P o.op = some ao)
    (h1 : ∀ f args, ao ≠ .call f args) (h2 : ∀ f args, ao ≠ .callv f args) {v : AV} {h' : AH} (he : aop S.B ao env h = .val v h') (hf : Free ρ h.next h'.next) :
    OpRes S w0 ρ h w ((execOp a.eval o).run S.P w) v h' := by
  obtain ⟨dst, op, type, pos, after, guard⟩ := o
  simp only at hc
  cases op with
  | move x => obtain ⟨ax, hx, rfl⟩ := c1_some hc; exact mov_sound henv r hx he (by simp [execOp])
  | assign x => obtain ⟨ax, hx, rfl⟩ := c1_some hc; exact mov_sound henv r hx he (by simp [execOp])
  | pick c x y =>
    simp only [cOp] at hc
    split at hc
    · rename_i ac ax ay hcc hcx hcy
      cases hc
      simp only [aop] at he
      cases hrc : rd env ac with
      | none => simp [hrc] at he
      | some cv =>
        have hcv := rd_VR henv hcc hrc
        cases cv <;> simp only [hrc] at he <;> try (cases he; done)
        rename_i b
        simp only [VR] at hcv
        cases b with
        | true => obtain ⟨e1, rfl⟩ := pure1_val he; exact OpRes.val r (rd_VR henv hcx e1) (by simp [execOp, hcv, asBool])
        | false => obtain ⟨e1, rfl⟩ := pure1_val he; exact OpRes.val r (rd_VR henv hcy e1) (by simp [execOp, hcv, asBool])
    · cases hc
  | alloc t =>
    simp only [cOp] at hc
    split at hc
    · rename_i z hz
      cases hc
      simp only [aop] at he
      obtain ⟨c, e1, e2⟩ := tzero_some (S := S) (ρ := ρ) w hz
      exact newRow_op henv r he hf e2.cells' (res := _) (e := t) (by simp [execOp, Instr.alloc, e1, newVar, Go.newRow]) ⟨_, rfl, _, Ren.put_same _ _ _, rfl⟩
    · cases hc
  | box t x =>
    obtain ⟨ax, hx, rfl⟩ := c1_some hc
    simp only [aop] at he
    cases hr : rd env ax with
    | none => simp [hr] at he
    | some xv =>
      simp only [hr] at he
      exact newRow_op henv r he hf (rd_VR henv hx hr).cells' (e := t) (by simp [execOp, Instr.box, newVar, Go.newRow]) ⟨_, rfl, _, Ren.put_same _ _ _, rfl⟩
  | build t ps =>
    simp only [cOp] at hc
    split at hc
    · rename_i z hz
      split at hc
      · rename_i l hl
        cases hc
        simp only [aop] at he
        cases hfl : fillP env z.cells l with
        | none => simp [hfl] at he
        | some cs =>
          simp only [hfl, forceL_eq, VO.val.injEq] at he
          obtain ⟨rfl, rfl⟩ := he
          obtain ⟨cc, e1, e2⟩ := build_sound (w := w) henv hz hl hfl
          exact OpRes.val r (v := .agg cs) (c := .agg cc) ⟨cc, rfl, e2⟩ (by simp only [execOp, Sem.run_bind, e1, Result.andThen_ok, Sem.run_pure])
      · cases hc
    · cases hc
  | buildSlice t len ps =>
    simp only [cOp] at hc
    split at hc
    · rename_i e hst
      split at hc
      · rename_i z n hz hn
        split at hc
        · rename_i hb
          split at hc
          · rename_i l hl
            split at hc
            · rename_i hzl
              cases hc
              simp only [aop] at he
              cases hfl : fillP env (List.replicate len z.cells).flatten l with
              | none => simp [hfl] at he
              | some cs =>
                simp only [hfl] at he
                obtain ⟨zc, z1, z2⟩ := tzero_some (S := S) (ρ := ρ) w hz
                have hzl' : z.cells.length = n + 1 := Nat.eq_of_beq_eq_true hzl
                have hu := sliceT_some hst
                obtain ⟨hlen, hi⟩ := mapO_some hl
                have key : ∀ (i : Nat) p, ps.toList[i]? = some p → ∃ off n' x, l[i]? = some (off, n', x) ∧ (fun i : Nat => some (i * (n + 1), n + 1)) p.1 = some (off, n') ∧ cAO p.2 = some x := by
                  intro i p hpi
                  obtain ⟨b, hb, hf⟩ := hi i p hpi
                  unfold aPart at hf
                  split at hf
                  · rename_i x hx
                    cases hf
                    exact ⟨_, _, _, hb, rfl, hx⟩
                  · cases hf
                have hrep := repl_VRs z2.cells' (by omega) len
                rw [hzl'] at hrep
                obtain ⟨cz', f1, f2, f3⟩ := fill_sound henv (fun i : Nat => some (i * (n + 1), n + 1)) ps.toList l _ cs ((Array.range (len * (n + 1))).map (zc.cells[· % zc.cells.size]!)) hlen key hfl (by simpa using hrep)
                have hps : (ps.map fun (i, x) => (i, a.eval x)).toList = ps.toList.map fun p => (p.1, a.eval p.2) := by simp
                have hle : ¬ (16777216 < len * (n + 1)) := by have : len * (n + 1) ≤ 16777216 := by simpa using hb
                                                              omega
                refine newRow_op henv r he hf f2 (e := e) (c := .slice (some ⟨w.heap.size, 0, none⟩) len len) ?_ ⟨_, len, rfl, .inr ⟨⟨_, Ren.put_same _ _ _, rfl⟩, Nat.le_refl _, fun _ l0 hl0 => ?_⟩⟩
                · simp only [execOp, Instr.buildSlice, Sem.run_bind, run_under w hu, Result.andThen_ok, run_size w hn]
                  rw [show (2 : Nat) ^ 24 = 16777216 from rfl, if_neg hle]
                  by_cases h0 : len * (n + 1) = 0
                  · rw [if_pos h0]
                    have hlen0 : len = 0 := by rcases Nat.mul_eq_zero.1 h0 with h | h <;> omega
                    subst hlen0
                    simp only [Sem.run_bind, Sem.run_pure, Result.andThen_ok, hps]
                    have e0 : ((Array.range (0 * (n + 1))).map ((#[] : Array Value)[· % (#[] : Array Value).size]!)) = ((Array.range (0 * (n + 1))).map (zc.cells[· % zc.cells.size]!)) := by simp
                    rw [e0, f1]
                    simp [Go.newRow]
                  · rw [if_neg h0]
                    simp only [Sem.run_bind, Sem.run_pure, Result.andThen_ok, z1, hps, f1]
                    simp [Go.newRow]
                · have e9 := (Ren.put_same ρ h.next _).symm.trans hl0; cases e9
                  simp [f3]
            · cases hc
          · cases hc
        · cases hc
      · cases hc
    · cases hc
  | load t x =>
    simp only [cOp] at hc
    split at hc
    · rename_i agg n ht
      obtain ⟨ax, hx, rfl⟩ := c1_some hc
      simp only [aop] at he
      cases hr : rd env ax with
      | none => simp [hr] at he
      | some xv =>
        simp only [hr] at he
        obtain ⟨e1, rfl⟩ := pure1_val he
        obtain ⟨x', y, e2, e3, e4⟩ := run_ldVar ro r ht e1 (rd_VR henv hx hr)
        exact OpRes.val r e4 (by simp [execOp, Instr.loadAt, Instr.sureAddr, e2, e3])
    · cases hc
  | store t p x =>
    simp only [cOp] at hc
    split at hc
    · rename_i n ht
      obtain ⟨ap, ax, hp, hx, rfl⟩ := c2_some hc
      simp only [aop] at he
      cases hr : rd env ap with
      | none => simp [hr] at he
      | some pv =>
        cases hr2 : rd env ax with
        | none => simp [hr, hr2] at he
        | some xv =>
          simp only [hr, hr2] at he
          have hpv := rd_VR henv hp hr
          have hxv := rd_VR henv hx hr2
          unfold aStore at he
          split at he
          · rename_i q
            split at he
            · cases he
            · rename_i hro
              split at he
              · rename_i cs hg
                split at he
                · cases he
                · rename_i hlen
                  split at he
                  · cases he
                  · rename_i hall
                    split at he
                    · cases he
                    · rename_i cs' hput
                      simp only [forceL_eq, VO.val.injEq] at he
                      obtain ⟨rfl, rfl⟩ := he
                      obtain ⟨x', e1, e2⟩ := hpv
                      unfold AddrR at e2
                      rw [hro] at e2
                      obtain ⟨l, hl, rfl⟩ := e2
                      obtain ⟨w', q1, q2⟩ := put_stp r hg hl hput ((allCell_iff _).1 hall) hxv.cells'
                      have hn : xv.cells.length = n := Nat.eq_of_beq_eq_true hlen
                      have hsz : (a.eval x).cells.size = n := by rw [← hxv.cells_length, hn]
                      refine ⟨ρ, w', undef, q2, ⟨_, rfl, trivial⟩, .inr ⟨?_, rfl⟩⟩
                      simp [execOp, Instr.storeAt, Instr.sureAddr, e1, storeVar, run_size w ht, hsz, q1]
              · cases he
          · cases he
    · cases hc
  | ready g => simp [cOp] at hc
  | waits g => simp [cOp] at hc
  | nilCheck x =>
    obtain ⟨ax, hx, rfl⟩ := c1_some hc
    simp only [aop] at he
    cases hr : rd env ax with
    | none => simp [hr] at he
    | some xv =>
      have hxv := rd_VR henv hx hr
      cases xv <;> simp only [hr] at he <;> try (cases he; done)
      · rename_i q
        cases he
        obtain ⟨x', e1, e2⟩ := hxv
        exact OpRes.val r (v := .ptr q) (c := .pointer (some x')) ⟨x', rfl, e2⟩ (by simp [execOp, e1])
      · rename_i f fa fb
        cases he
        obtain ⟨fn, x1, x2, e1, e2, e3, e4⟩ := hxv
        refine OpRes.val r (v := .fn f fa fb) (c := .func fn x1 x2) ⟨fn, x1, x2, rfl, e2, e3, e4⟩ ?_
        cases f with
        | func n => cases e2; simp [execOp, e1]
        | yield l => obtain ⟨lo, _, rfl⟩ := e2; simp [execOp, e1]
  | binOp op t x y yt =>
    have hbin : ∀ {ax ay}, cAO x = some ax → cAO y = some ay → aop S.B (.bin op ax ay) env h = .val v h' → OpRes S w0 ρ h w ((execOp a.eval ⟨dst, .binOp op t x y yt, type, pos, after, guard⟩).run S.P w) v h' := by
      intro ax ay hx hy he
      simp only [aop] at he
      cases hr : rd env ax with
      | none => simp [hr] at he
      | some xv =>
        cases hr2 : rd env ay with
        | none => simp [hr, hr2] at he
        | some yv =>
          simp only [hr, hr2] at he
          obtain ⟨e1, rfl⟩ := pure1_val he
          obtain ⟨c, e2, e3⟩ := aBin_sound (w := w) e1 (rd_VR henv hx hr) (rd_VR henv hy hr2) t x y
          exact OpRes.val r e3 (by simp only [execOp, Sem.run_bind] at e2 ⊢; rw [e2]; rfl)
    have heq : ∀ {ax ay p}, (op = .eql ∨ op = .neq) → cAO x = some ax → cAO y = some ay → eqPlan S.P 6 t = some p → (S.P.eqGuardType S.P.depth t = false ∨ ∀ l, S.P.underlying t ≠ some (.struct l) ∧ ∀ n e, S.P.underlying t ≠ some (.array n e)) →
        aop S.B (.eq (op == .neq) p ax ay) env h = .val v h' → OpRes S w0 ρ h w ((execOp a.eval ⟨dst, .binOp op t x y yt, type, pos, after, guard⟩).run S.P w) v h' := by
      intro ax ay p hop hx hy hp hg he
      simp only [aop] at he
      cases hr : rd env ax with
      | none => simp [hr] at he
      | some xv =>
        cases hr2 : rd env ay with
        | none => simp [hr, hr2] at he
        | some yv =>
          simp only [hr, hr2] at he
          cases hq : aEq p xv yv with
          | none => simp [hq] at he
          | some q =>
            simp only [hq] at he
            have hxv := rd_VR henv hx hr
            have hyv := rd_VR henv hy hr2
            have e := aEq_sound (w := w) 6 t p hp xv yv q hq _ _ hxv hyv Op.maxDepth (by decide)
            have hgd : (eqGuard op t x y (a.eval x) (a.eval y)).run S.P w = .ok () w := eqGuard_ok hp hq hxv hyv hg x y
            have hb : (binOp op t (a.eval x) (a.eval y)).run S.P w = .ok (.bool (if op = .neq then !q else q)) w := binOp_eq hq hxv hyv hop e
            rcases hop with rfl | rfl
            · simp only [show (BinOp.eql == BinOp.neq) = false from rfl, VO.val.injEq] at he
              obtain ⟨rfl, rfl⟩ := he
              exact OpRes.val r (v := .bool q) (c := .bool q) rfl (by simp only [execOp, Sem.run_bind, hgd, Result.andThen_ok, hb]; rfl)
            · simp only [show (BinOp.neq == BinOp.neq) = true from rfl, VO.val.injEq] at he
              obtain ⟨rfl, rfl⟩ := he
              exact OpRes.val r (v := .bool !q) (c := .bool !q) rfl (by simp only [execOp, Sem.run_bind, hgd, Result.andThen_ok, hb]; rfl)
    simp only [cOp, cBin] at hc
    split at hc
    · split at hc
      · obtain ⟨ax, ay, hx, hy, rfl⟩ := c2_some hc; exact hbin hx hy he
      · obtain ⟨ax, ay, hx, hy, rfl⟩ := c2_some hc; exact hbin hx hy he
      · split at hc
        · cases hc
        · rename_i hg
          split at hc
          · rename_i p hp; obtain ⟨ax, ay, hx, hy, rfl⟩ := c2_some hc; exact heq (.inl rfl) hx hy hp (.inl hg) he
          · cases hc
      · split at hc
        · cases hc
        · rename_i hg
          split at hc
          · rename_i p hp; obtain ⟨ax, ay, hx, hy, rfl⟩ := c2_some hc; exact heq (.inl rfl) hx hy hp (.inl hg) he
          · cases hc
      all_goals first
        | (cases hc; done)
        | (rename_i hu
           split at hc
           · rename_i p hp; obtain ⟨ax, ay, hx, hy, rfl⟩ := c2_some hc; exact heq (.inl rfl) hx hy hp (.inr (by simp [hu])) he
           · cases hc)
    · split at hc
      · obtain ⟨ax, ay, hx, hy, rfl⟩ := c2_some hc; exact hbin hx hy he
      · obtain ⟨ax, ay, hx, hy, rfl⟩ := c2_some hc; exact hbin hx hy he
      · split at hc
        · cases hc
        · rename_i hg
          split at hc
          · rename_i p hp; obtain ⟨ax, ay, hx, hy, rfl⟩ := c2_some hc; exact heq (.inr rfl) hx hy hp (.inl hg) he
          · cases hc
      · split at hc
        · cases hc
        · rename_i hg
          split at hc
          · rename_i p hp; obtain ⟨ax, ay, hx, hy, rfl⟩ := c2_some hc; exact heq (.inr rfl) hx hy hp (.inl hg) he
          · cases hc
      all_goals first
        | (cases hc; done)
        | (rename_i hu
           split at hc
           · rename_i p hp; obtain ⟨ax, ay, hx, hy, rfl⟩ := c2_some hc; exact heq (.inr rfl) hx hy hp (.inr (by simp [hu])) he
           · cases hc)
    · split at hc
      · obtain ⟨ax, ay, hx, hy, rfl⟩ := c2_some hc; exact hbin hx hy he
      · obtain ⟨ax, ay, hx, hy, rfl⟩ := c2_some hc; exact hbin hx hy he
      · cases hc
  | unOp op t x =>
    obtain ⟨ax, hx, rfl⟩ := c1_some hc
    simp only [aop] at he
    cases hr : rd env ax with
    | none => simp [hr] at he
    | some xv =>
      simp only [hr] at he
      obtain ⟨e1, rfl⟩ := pure1_val he
      obtain ⟨c, e2, e3⟩ := aUn_sound (w := w) e1 (rd_VR henv hx hr)
      exact OpRes.val r e3 (by simp [execOp, e2])
  | convert src dt x =>
    simp only [cOp, cConv] at hc
    split at hc
    · rename_i k' k hs hd
      obtain ⟨ax, hx, rfl⟩ := c1_some hc
      simp only [aop] at he
      cases hr : rd env ax with
      | none => simp [hr] at he
      | some xv =>
        have hxv := rd_VR henv hx hr
        cases xv <;> simp only [hr] at he <;> try (cases he; done)
        rename_i k2 n
        cases he
        simp only [VR] at hxv
        refine OpRes.val r (v := .int k (k.wrap n)) (c := .int k (k.wrap n)) rfl ?_
        simp [execOp, convert, run_under w hs, run_under w hd, hxv, Conv.intToInt]
    · rename_i hs hd
      obtain ⟨ax, hx, rfl⟩ := c1_some hc
      simp only [aop] at he
      cases hr : rd env ax with
      | none => simp [hr] at he
      | some xv =>
        have hxv := rd_VR henv hx hr
        cases xv <;> simp only [hr] at he <;> try (cases he; done)
        rename_i s
        have hb : bounds s.length none none none = some (0, s.length, s.length) := rfl
        simp only [rdo, hb, VO.val.injEq, List.drop_zero, Nat.sub_zero, List.take_length] at he
        obtain ⟨rfl, rfl⟩ := he
        obtain ⟨b, e1, e2⟩ := hxv
        exact OpRes.val r (v := .str s) (c := .string b) ⟨b, rfl, e2⟩ (by simp [execOp, convert, run_under w hs, run_under w hd, e1])
    · rename_i e hs hd
      split at hc
      · rename_i hu8
        obtain ⟨ax, hx, rfl⟩ := c1_some hc
        simp only [aop] at he
        cases hr : rd env ax with
        | none => simp [hr] at he
        | some xv =>
          have hxv := rd_VR henv hx hr
          cases xv <;> simp only [hr] at he <;> try (cases he; done)
          · rename_i q len e0
            obtain ⟨x', cap, e1, hsl⟩ := hxv
            split at he
            · cases he
            · rename_i hb1
              have := Nat.eq_of_beq_eq_true hb1; subst this
              split at he
              · cases he
                refine OpRes.val r (v := .str []) (c := .string .empty) ⟨_, rfl, rfl⟩ ?_
                have h0 : (loadCells x' 0).run S.P w = .ok (([] : List Int).map (Value.int .u8)).toArray w := by simp [loadCells, loadCellsFrom]
                have := run_bytesToString w x' 0 cap [] h0
                simp only [execOp, Sem.run_bind, e1, run_convert_bytes_string w src dt e (some x') 0 cap hs hu8 hd, this, Result.andThen_ok, Sem.run_pure]
                rfl
              · rename_i len'
                cases hld : ldCells S.B h q (len' + 1) with
                | none => simp [hld] at he
                | some cs =>
                  simp only [hld] at he
                  cases hbo : bytesOf cs with
                  | none => simp [hbo] at he
                  | some s =>
                    simp only [hbo, VO.val.injEq] at he
                    obtain ⟨rfl, rfl⟩ := he
                    rcases hsl with ⟨h0, _⟩ | ⟨hadr, _, _⟩
                    · omega
                    · obtain ⟨ccs, q1, q2, _⟩ := run_ldCells ro r hld hadr
                      obtain ⟨ns, n1, n2, n3⟩ := bytesOf_sound _ _ hbo _ q2
                      rw [n1] at q1
                      have hb2 := run_bytesToString w x' (len' + 1) cap ns q1
                      have hl : (s.map fun n => UInt8.ofNat n).map (fun b => (b.toNat : Int)) = ns := by
                        rw [n2, List.map_map]
                        apply List.map_congr_left
                        intro n hn
                        have := n3 n hn
                        simp [Nat.mod_eq_of_lt this]
                      rw [← hl, foldl_push_byteCells] at hb2
                      refine OpRes.val r (v := .str s) (c := .string ⟨ByteArray.empty.data ++ (List.map (fun n => UInt8.ofNat n) s).toArray⟩) ⟨_, rfl, ?_⟩ (by simp only [execOp, Sem.run_bind, e1, run_convert_bytes_string w src dt e (some x') (len' + 1) cap hs hu8 hd, hb2, Result.andThen_ok, Sem.run_pure])
                      simp only [byteL_eq, Array.toList_append, List.map_append]
                      have h3 : (s.map fun n => UInt8.ofNat n).map UInt8.toNat = s := by
                        rw [List.map_map]
                        conv => rhs; rw [← List.map_id s]
                        apply List.map_congr_left
                        intro n hn
                        have := n3 n hn
                        simp [Nat.mod_eq_of_lt this]
                      rw [h3]
                      rfl
          · cases he
            simp only [VR] at hxv
            refine OpRes.val r (v := .str []) (c := .string .empty) ⟨_, rfl, rfl⟩ ?_
            simp [execOp, hxv, run_convert_bytes_string w src dt e none 0 0 hs hu8 hd, Conv.bytesToString]
      · cases hc
    · rename_i e hs hd
      split at hc
      · rename_i hu8
        obtain ⟨ax, hx, rfl⟩ := c1_some hc
        simp only [aop] at he
        cases hr : rd env ax with
        | none => simp [hr] at he
        | some xv =>
          have hxv := rd_VR henv hx hr
          cases xv <;> simp only [hr] at he <;> try (cases he; done)
          rename_i s
          obtain ⟨hcell, rfl, rfl⟩ := newRow_val he
          obtain ⟨b, e1, e2⟩ := hxv
          have hfr : ρ h.next = none := hf _ (Nat.le_refl _) (by simp)
          have hrun := run_bytes_of_string w src dt e b hs hd hu8
          have hge := grownCap_ge w b.size 0 e
          have hsz : (bytesRow b (grownCap w b.size 0 e)).size = grownCap w b.size 0 e := by
            simp only [bytesRow, Array.size_append, Array.size_map, Array.size_replicate]
            have : b.data.size = b.size := rfl
            omega
          have hlen : s.length = b.size := by rw [← e2, byteL_length, Array.length_toList]; rfl
          have hst := newRow_stp' r.drew (e := e) (fz := ((bytesRow b (grownCap w b.size 0 e)).size, (bytesRow b (grownCap w b.size 0 e)).size + 1)) (cells := bytesRow b (grownCap w b.size 0 e)) (cs := cellsOfStr s) (ccs := b.data.toList.map fun b => .int .u8 (b.toNat : Int))
            hcell (by rw [← e2]; exact cellsOfStr_VRs _) (fun j c hc => by
              have hj : j < b.data.size := by have := (List.getElem?_eq_some_iff.1 hc).1; simpa using this
              rw [bytesRow_at b _ j hj]
              simp only [List.getElem?_map, List.getElem?_eq_getElem (show j < b.data.toList.length by simpa using hj), Option.map_some, Option.some.injEq] at hc
              rw [← hc]; simp) hfr (fun i hi => by simp only; omega)
          refine ⟨_, _, .slice (some ⟨w.heap.size, 0, none⟩) b.size (grownCap w b.size 0 e), (Stp.same (w' := w.drew) r rfl rfl rfl).trans hst, ?_, .inl ?_⟩
          · rw [hlen]
            refine ⟨_, _, rfl, .inr ⟨⟨_, Ren.put_same _ _ _, rfl⟩, hge, fun _ l hl => ?_⟩⟩
            have e9 := (Ren.put_same ρ h.next _).symm.trans hl; cases e9
            simp [hsz]
          · simp only [execOp, Sem.run_bind, e1, hrun, Result.andThen_ok, Sem.run_pure]
      · cases hc
    · cases hc
  | sliceToArrayPointer t x => simp [cOp] at hc
  | makeInterface t x =>
    simp only [cOp] at hc
    split at hc
    · cases hc
    · rename_i d hni hu
      obtain ⟨ax, hx, rfl⟩ := c1_some hc
      simp only [aop] at he
      cases hr : rd env ax with
      | none => simp [hr] at he
      | some xv =>
        simp only [hr, VO.val.injEq] at he
        obtain ⟨rfl, rfl⟩ := he
        refine OpRes.val r (v := .iface t xv) (c := .iface t (a.eval x)) ⟨_, rfl, rd_VR henv hx hr⟩ ?_
        simp only [execOp, Instr.makeInterface, Sem.run_bind, run_under w hu, Result.andThen_ok]
        cases d <;> first | rfl | (exact absurd hu (hni _))
    · cases hc
  | makeFunc fn first captured =>
    cases fn <;> simp only [cOp] at hc <;> try (cases hc; done)
    rename_i f
    split at hc
    · rename_i l1 l2 hl1 hl2
      cases hc
      simp only [aop] at he
      cases hr1 : rds env l1 with
      | none => simp [hr1] at he
      | some v1 =>
        cases hr2 : rds env l2 with
        | none => simp [hr1, hr2] at he
        | some v2 =>
          simp only [hr1, hr2, VO.val.injEq] at he
          obtain ⟨rfl, rfl⟩ := he
          have q1 := rds_VRs henv hl1 hr1
          have q2 := rds_VRs henv hl2 hr2
          exact OpRes.val r (v := .fn (.func f) v1 v2) (c := .func (.func f) (first.map a.eval) (captured.map a.eval)) ⟨_, _, _, rfl, rfl, by simpa using q1, by simpa using q2⟩ (by simp [execOp, Instr.makeFunc])
    · cases hc
  | makeMap t reserve =>
    cases reserve <;> simp only [cOp] at hc <;> try (cases hc; done)
    cases hc
    simp only [aop, VO.val.injEq] at he
    obtain ⟨rfl, rfl⟩ := he
    have hfr : ρ h.next = none := hf _ (Nat.le_refl _) (by simp)
    refine ⟨_, w.alloc (.map #[] 0), .map (some w.heap.size), Stp.new r (.map [] 0) (.map #[] 0) ⟨w.heap.size, 0, 0⟩ rfl hfr rfl rfl rfl ⟨#[], by simp, trivial⟩, ⟨_, Ren.put_same _ _ _, rfl⟩, .inl ?_⟩
    simp [execOp, Instr.makeMap]
  | makeChan t s => simp [cOp] at hc
  | makeSlice t l c =>
    simp only [cOp] at hc
    split at hc
    · rename_i e hst
      split at hc
      · rename_i i hi
        split at hc
        · rename_i z hz
          split at hc
          · rename_i hcond
            obtain ⟨al, ac, hl, hcc, rfl⟩ := c2_some hc
            simp only [Bool.and_eq_true, Nat.blt_eq] at hcond
            have hzl : z.cells.length = i.size := Nat.eq_of_beq_eq_true hcond.2
            simp only [aop] at he
            cases hr : rd env al with
            | none => simp [hr] at he
            | some lv =>
              cases hr2 : rd env ac with
              | none => simp [hr, hr2] at he
              | some cv =>
                have hlv := rd_VR henv hl hr
                have hcv := rd_VR henv hcc hr2
                cases cv <;> simp only [hr, hr2] at he <;> try (cases he; done)
                rename_i kc ci
                split at he
                · rename_i cn
                  split at he
                  · rename_i ln hbd
                    split at he
                    · rename_i hroom
                      obtain ⟨hle, kl, el⟩ := asBound_some hbd hlv
                      simp only [VR] at hcv
                      have hbytes := roomOk_le hroom
                      obtain ⟨zc, z1, z2⟩ := tzero_some (S := S) (ρ := ρ) w hz
                      have hrep := repl_VRs z2.cells' (by omega) cn
                      rw [hzl] at hrep
                      have hu := sliceT_some hst
                      have hsz : (sizeOf e).run S.P w = .ok i.size w := by simp [sizeOf, run_info w hi]
                      have hcn : cn ≤ cn * i.bytes := Nat.le_mul_of_pos_right _ hcond.1.2
                      have hw1 : IntKind.i64.wrap (cn : Int) = cn := wrap_small (by omega)
                      have hw2 : IntKind.i64.wrap (ln : Int) = ln := wrap_small (by omega)
                      have hgood : ¬ ((decide ((cn : Int) < 0) || decide ((i.bytes : Int) * (cn : Int) > 2 ^ 48) || decide ((ln : Int) < 0) || decide ((ln : Int) > (cn : Int))) = true) := by
                        have e3 : (i.bytes : Int) * (cn : Int) = ((cn * i.bytes : Nat) : Int) := by push_cast; exact Int.mul_comm _ _
                        simp only [e3, Bool.or_eq_true, decide_eq_true_eq]
                        have : (2 : Int) ^ 48 = 281474976710656 := by decide
                        omega
                      refine newRow_op henv r he hf (cells := (Array.range (cn * i.size)).map (zc.cells[· % zc.cells.size]!)) hrep (e := e) (c := .slice (some ⟨w.heap.size, 0, none⟩) ln cn) ?_ ⟨_, cn, rfl, .inr ⟨⟨_, Ren.put_same _ _ _, rfl⟩, hle, fun _ l0 hl0 => ?_⟩⟩
                      · simp only [execOp, Instr.makeSlice, Sem.run_bind, run_under w hu, Result.andThen_ok, el, hcv, asInt, asIntOf, Sem.run_pure, run_info w hi, Int.ofNat_eq_natCast, hw1, hw2]
                        rw [Sem.run_ite, if_neg hgood]
                        simp only [Sem.run_bind, Sem.run_pure, Result.andThen_ok, run_askRoom, hsz, Int.toNat_natCast]
                        by_cases h0 : cn * i.size = 0
                        · rw [if_pos h0]
                          have e0 : ((Array.range (cn * i.size)).map ((#[] : Array Value)[· % (#[] : Array Value).size]!)) = ((Array.range (cn * i.size)).map (zc.cells[· % zc.cells.size]!)) := by rw [h0]; simp
                          simp only [Sem.run_bind, Sem.run_pure, Result.andThen_ok]
                          rw [e0]
                          simp [Go.newRow]
                        · rw [if_neg h0]
                          simp only [Sem.run_bind, Sem.run_pure, Result.andThen_ok, z1]
                          simp [Go.newRow]
                      · have e9 := (Ren.put_same ρ h.next _).symm.trans hl0; cases e9
                        simp
                    · cases he
                  · cases he
                · cases he
          · cases hc
        · cases hc
      · cases hc
    · cases hc
  | slice t x lo hi mx =>
    simp only [cOp] at hc
    split at hc
    · rename_i ax alo ahi amx hx hlo hhi hmx
      split at hc
      · rename_i hu
        split at hc
        · cases hc
          simp only [aop] at he
          cases hr : rd env ax with
          | none => simp [hr] at he
          | some xv =>
            have hxv := rd_VR henv hx hr
            cases xv <;> simp only [hr] at he <;> try (cases he; done)
            rename_i s
            cases hr1 : rdo env alo with
            | none => simp [hr1] at he
            | some lov =>
              cases hr2 : rdo env ahi with
              | none => simp [hr1, hr2] at he
              | some hiv =>
                simp only [hr1, hr2] at he
                cases hb : bounds s.length lov hiv none with
                | none => simp [hb] at he
                | some lhm =>
                  obtain ⟨l, h'', m⟩ := lhm
                  simp only [hb, VO.val.injEq] at he
                  obtain ⟨rfl, rfl⟩ := he
                  obtain ⟨b, e1, e2⟩ := hxv
                  have hlen : s.length = b.size := by rw [← e2, byteL_length, Array.length_toList]; rfl
                  have hmx0 : mx = none := by cases mx with
                    | none => rfl
                    | some y => simp only [cAOo] at hmx; split at hmx <;> cases hmx
                  subst hmx0
                  rw [hlen] at hb
                  obtain ⟨b1, b2, m', b3, b4, b5⟩ := bounds_sound (w := w) hb (rdo_VR henv hlo hr1) (rdo_VR henv hhi hr2) (cmx := none) trivial false (Nat.le_refl _)
                  refine OpRes.val r (v := .str ((s.drop l).take (h'' - l))) (c := .string (b.extract l h'')) ⟨_, rfl, ?_⟩ ?_
                  · rw [← e2]
                    simp only [byteL_eq, ByteArray.data_extract, Array.toList_extract, List.extract_eq_take_drop, List.map_take, List.map_drop]
                  · simp [execOp, Instr.sliceAt, Instr.slice, run_under w hu, e1, b3]
        · cases hc
      · rename_i e hu
        split at hc
        · rename_i n hn
          cases hc
          simp only [aop] at he
          cases hr : rd env ax with
          | none => simp [hr] at he
          | some xv =>
            cases hr1 : rdo env alo with
            | none => simp [hr, hr1] at he
            | some lov =>
              cases hr2 : rdo env ahi with
              | none => simp [hr, hr1, hr2] at he
              | some hiv =>
                cases hr3 : rdo env amx with
                | none => simp [hr, hr1, hr2, hr3] at he
                | some mxv =>
                  simp only [hr, hr1, hr2, hr3] at he
                  have hxv := rd_VR henv hx hr
                  split at he
                  · rename_i q len e0
                    split at he
                    · cases he
                    · rename_i hb0
                      have := Nat.eq_of_beq_eq_true hb0; subst this
                      cases hb : bounds len lov hiv mxv with
                      | none => simp [hb] at he
                      | some lhm =>
                        obtain ⟨l, h'', m⟩ := lhm
                        simp only [hb, VO.val.injEq] at he
                        obtain ⟨rfl, rfl⟩ := he
                        obtain ⟨x', cap, e1, hsl⟩ := hxv
                        have hcap : len ≤ cap := by rcases hsl with ⟨q1, q2⟩ | ⟨_, q2, _⟩ <;> omega
                        obtain ⟨b1, b2, m', b3, b4, b5⟩ := bounds_sound (w := w) hb (rdo_VR henv hlo hr1) (rdo_VR henv hhi hr2) (rdo_VR henv hmx hr3) true hcap
                        refine OpRes.val r (v := .sl ⟨q.ro, q.id, q.off + l * (n + 1)⟩ (h'' - l) (n + 1)) (c := .slice (some (if m' = l then x' else x'.add (l * (n + 1)))) (h'' - l) (m' - l)) ⟨_, _, rfl, ?_⟩ ?_
                        · rcases hsl with ⟨q1, q2⟩ | ⟨q1, q2, q3⟩
                          · exact .inl ⟨by omega, by omega⟩
                          · by_cases hml : m' = l
                            · exact .inl ⟨by omega, by omega⟩
                            · rw [if_neg hml]
                              refine .inr ⟨q1.add _, by omega, fun hro lo0 hlo0 => ?_⟩
                              have := q3 hro lo0 hlo0
                              have e5 : l * (n + 1) + (m' - l) * (n + 1) ≤ cap * (n + 1) := by rw [← Nat.add_mul]; exact Nat.mul_le_mul_right _ (by omega)
                              simp only; omega
                        · simp [execOp, Instr.sliceAt, Instr.slice, run_under w hu, e1, b3, run_size w hn]
                          split <;> rfl
                  · cases hb : bounds 0 lov hiv mxv with
                    | none => simp [hb] at he
                    | some lhm =>
                      obtain ⟨l, h'', m⟩ := lhm
                      simp only [hb, VO.val.injEq] at he
                      obtain ⟨rfl, rfl⟩ := he
                      simp only [VR] at hxv
                      obtain ⟨b1, b2, m', b3, b4, b5⟩ := bounds_sound (w := w) hb (rdo_VR henv hlo hr1) (rdo_VR henv hhi hr2) (rdo_VR henv hmx hr3) true (Nat.le_refl _)
                      have hm0 : m' = 0 := by omega
                      have hl0 : l = 0 := by omega
                      have hh0 : h'' = 0 := by omega
                      subst hm0; subst hl0; subst hh0
                      refine OpRes.val r (v := .nilsl) (c := .slice none 0 0) rfl ?_
                      simp [execOp, Instr.sliceAt, Instr.slice, run_under w hu, hxv, b3, run_size w hn]
                  · cases he
        · cases hc
      · rename_i len e hu
        split at hc
        · rename_i n hn
          cases hc
          simp only [aop] at he
          cases hr : rd env ax with
          | none => simp [hr] at he
          | some xv =>
            have hxv := rd_VR henv hx hr
            cases xv <;> simp only [hr] at he <;> try (cases he; done)
            rename_i q
            cases hr1 : rdo env alo with
            | none => simp [hr1] at he
            | some lov =>
              cases hr2 : rdo env ahi with
              | none => simp [hr1, hr2] at he
              | some hiv =>
                cases hr3 : rdo env amx with
                | none => simp [hr1, hr2, hr3] at he
                | some mxv =>
                  simp only [hr1, hr2, hr3] at he
                  cases hb : bounds len lov hiv mxv with
                  | none => simp [hb] at he
                  | some lhm =>
                    obtain ⟨l, h'', m⟩ := lhm
                    simp only [hb] at he
                    cases hrow : rowAt S.B h q with
                    | none => simp [hrow] at he
                    | some cs =>
                      simp only [hrow] at he
                      split at he
                      · rename_i hfit
                        cases he
                        have hfit' : q.off + len * (n + 1) ≤ cs.length := by simpa using hfit
                        obtain ⟨x', e1, e2⟩ := hxv
                        obtain ⟨b1, b2, m', b3, b4, b5⟩ := bounds_sound (w := w) hb (rdo_VR henv hlo hr1) (rdo_VR henv hhi hr2) (rdo_VR henv hmx hr3) false (Nat.le_refl _)
                        refine OpRes.val r (v := .sl ⟨q.ro, q.id, q.off + l * (n + 1)⟩ (h'' - l) (n + 1)) (c := .slice (some (if m' = l then x' else x'.add (l * (n + 1)))) (h'' - l) (m' - l)) ⟨_, _, rfl, ?_⟩ ?_
                        · by_cases hml : m' = l
                          · exact .inl ⟨by omega, by omega⟩
                          · rw [if_neg hml]
                            refine .inr ⟨e2.add _, by omega, fun hro lo0 hlo0 => ?_⟩
                            simp only at hro hlo0
                            unfold rowAt at hrow
                            rw [hro] at hrow
                            simp only at hrow
                            cases hg : h.get q.id with
                            | none => simp [hg] at hrow
                            | some ob =>
                              cases ob <;> simp only [hg] at hrow <;> try (cases hrow; done)
                              cases hrow
                              obtain ⟨l', e5, _, c0, e6, fz, e7, e8, e9, _⟩ := r.obj _ _ hg rfl
                              rw [hlo0] at e5; cases e5
                              have e5 : l * (n + 1) + (m' - l) * (n + 1) ≤ len * (n + 1) := by rw [← Nat.add_mul]; exact Nat.mul_le_mul_right _ (by omega)
                              simp only; omega
                        · simp [execOp, Instr.sliceAt, run_under w hu, Instr.sureAddr, e1, b3, run_size w hn]
                      · cases he
        · cases hc
      · cases hc
    · cases hc
  | fieldAddr t x i =>
    simp only [cOp] at hc
    split at hc
    · rename_i fs hu
      split at hc
      · rename_i f hfi
        split at hc
        · rename_i n hn
          obtain ⟨ax, hx, rfl⟩ := c1_some hc
          simp only [aop] at he
          cases hr : rd env ax with
          | none => simp [hr] at he
          | some xv =>
            have hxv := rd_VR henv hx hr
            cases xv <;> simp only [hr] at he <;> try (cases he; done)
            rename_i q
            cases he
            obtain ⟨x', e1, e2⟩ := hxv
            refine OpRes.val r (v := .ptr ⟨q.ro, q.id, q.off + f.offset⟩) (c := .pointer (some (x'.add f.offset))) ⟨_, rfl, e2.add _⟩ ?_
            simp [execOp, Instr.fieldAt, run_under w hu, hfi, Instr.sureAddr, e1, fieldPlace, run_size w hn]
        · cases hc
      · cases hc
    · cases hc
  | field t x i =>
    simp only [cOp] at hc
    split at hc
    · rename_i fs hu
      split at hc
      · rename_i f hfi
        split at hc
        · rename_i agg n hn
          obtain ⟨ax, hx, rfl⟩ := c1_some hc
          simp only [aop] at he
          cases hr : rd env ax with
          | none => simp [hr] at he
          | some xv =>
            have hxv := rd_VR henv hx hr
            cases xv <;> simp only [hr] at he <;> try (cases he; done)
            rename_i cs
            obtain ⟨e1, rfl⟩ := pure1_val he
            obtain ⟨y, e2, e3⟩ := hxv
            obtain ⟨c, e4, e5⟩ := part_sound (w := w) e1 hn e3
            exact OpRes.val r e5 (by simp [execOp, Instr.field, run_under w hu, hfi, e2, asAgg, e4])
        · cases hc
      · cases hc
    · cases hc
  | indexAddr t x i =>
    simp only [cOp] at hc
    split at hc
    · rename_i len e hu
      split at hc
      · rename_i n hn
        obtain ⟨ax, ai, hx, hi, rfl⟩ := c2_some hc
        simp only [aop] at he
        cases hr : rd env ax with
        | none => simp [hr] at he
        | some xv =>
          have hxv := rd_VR henv hx hr
          cases xv <;> simp only [hr] at he <;> try (cases he; done)
          rename_i q
          cases hr2 : rd env ai with
          | none => simp [hr2] at he
          | some iv =>
            simp only [hr2] at he
            cases hix : asIdx iv len with
            | none => simp [hix] at he
            | some m =>
              simp only [hix, VO.val.injEq] at he
              obtain ⟨rfl, rfl⟩ := he
              obtain ⟨hlt, k, ek⟩ := asIdx_some hix (rd_VR henv hi hr2)
              obtain ⟨x', e1, e2⟩ := hxv
              refine OpRes.val r (v := .ptr ⟨q.ro, q.id, q.off + m * (n + 1)⟩) (c := .pointer (some (x'.add (m * (n + 1))))) ⟨_, rfl, e2.add _⟩ ?_
              simp [execOp, Instr.indexAt, run_under w hu, ek, asIntOf, Instr.sureAddr, e1, run_size w hn, hlt]
      · cases hc
    · rename_i e hu
      split at hc
      · rename_i n hn
        obtain ⟨ax, ai, hx, hi, rfl⟩ := c2_some hc
        simp only [aop] at he
        cases hr : rd env ax with
        | none => simp [hr] at he
        | some xv =>
          have hxv := rd_VR henv hx hr
          cases xv <;> simp only [hr] at he <;> try (cases he; done)
          rename_i q len e0
          split at he
          · cases he
          · rename_i hb0
            have := Nat.eq_of_beq_eq_true hb0; subst this
            cases hr2 : rd env ai with
            | none => simp [hr2] at he
            | some iv =>
              simp only [hr2] at he
              cases hix : asIdx iv len with
              | none => simp [hix] at he
              | some m =>
                simp only [hix, VO.val.injEq] at he
                obtain ⟨rfl, rfl⟩ := he
                obtain ⟨hlt, k, ek⟩ := asIdx_some hix (rd_VR henv hi hr2)
                obtain ⟨x', cap, e1, hsl⟩ := hxv
                rcases hsl with ⟨q1, _⟩ | ⟨e2, _, _⟩
                · omega
                · refine OpRes.val r (v := .ptr ⟨q.ro, q.id, q.off + m * (n + 1)⟩) (c := .pointer (some (x'.add (m * (n + 1))))) ⟨_, rfl, e2.add _⟩ ?_
                  simp [execOp, Instr.indexAt, run_under w hu, ek, asIntOf, Instr.sureAddr, e1, run_size w hn, hlt]
      · cases hc
    · cases hc
  | index t x i =>
    simp only [cOp] at hc
    split at hc
    · rename_i len e hu
      split at hc
      · rename_i agg n hn
        obtain ⟨ax, ai, hx, hi, rfl⟩ := c2_some hc
        simp only [aop] at he
        cases hr : rd env ax with
        | none => simp [hr] at he
        | some xv =>
          have hxv := rd_VR henv hx hr
          cases xv <;> simp only [hr] at he <;> try (cases he; done)
          rename_i cs
          cases hr2 : rd env ai with
          | none => simp [hr2] at he
          | some iv =>
            simp only [hr2] at he
            cases hix : asIdx iv len with
            | none => simp [hix] at he
            | some m =>
              simp only [hix] at he
              obtain ⟨e0, rfl⟩ := pure1_val he
              obtain ⟨hlt, k, ek⟩ := asIdx_some hix (rd_VR henv hi hr2)
              obtain ⟨y, e1, e2⟩ := hxv
              obtain ⟨c, e4, e5⟩ := part_sound (w := w) e0 hn e2
              exact OpRes.val r e5 (by simp [execOp, Instr.index, run_under w hu, ek, asIntOf, e1, run_size w (tvar_size hn), hlt, e4])
      · cases hc
    · rename_i hu
      obtain ⟨ax, ai, hx, hi, rfl⟩ := c2_some hc
      simp only [aop] at he
      cases hr : rd env ax with
      | none => simp [hr] at he
      | some xv =>
        have hxv := rd_VR henv hx hr
        cases xv <;> simp only [hr] at he <;> try (cases he; done)
        rename_i s
        cases hr2 : rd env ai with
        | none => simp [hr2] at he
        | some iv =>
          simp only [hr2] at he
          cases hix : asIdx iv s.length with
          | none => simp [hix] at he
          | some m =>
            simp only [hix] at he
            cases hs : s[m]? with
            | none => simp [hs] at he
            | some bt =>
              simp only [hs, VO.val.injEq] at he
              obtain ⟨rfl, rfl⟩ := he
              obtain ⟨hlt, k, ek⟩ := asIdx_some hix (rd_VR henv hi hr2)
              obtain ⟨b, e1, e2⟩ := hxv
              have hm : m < b.size := by
                have : s.length = b.size := by rw [← e2, byteL_length, Array.length_toList]; rfl
                omega
              have hbt : (b[m]'hm).toNat = bt := by
                rw [← e2, byteL_eq, List.getElem?_map] at hs
                have : b.data.toList[m]? = some (b[m]'hm) := by
                  rw [List.getElem?_eq_getElem (by rw [Array.length_toList]; exact hm)]
                  rfl
                rw [this] at hs
                simpa using hs
              refine OpRes.val r (v := .int .u8 (bt : Int)) (c := .int .u8 (bt : Int)) rfl ?_
              have hget : b[m]? = some (b[m]'hm) := by simp [hm]
              simp [execOp, Instr.index, run_under w hu, ek, asIntOf, e1, hget, hbt]
    · cases hc
  | lookup t m k ok =>
    simp only [cOp] at hc
    split at hc
    · rename_i kt et hu
      split at hc
      · rename_i kk z hkk hz
        obtain ⟨am, ak, hm, hk, rfl⟩ := c2_some hc
        simp only [aop] at he
        cases hr : rd env am with
        | none => simp [hr] at he
        | some mv =>
          cases hr2 : rd env ak with
          | none => simp [hr, hr2] at he
          | some kv =>
            simp only [hr, hr2] at he
            cases hmo : mapOf h mv with
            | none => simp [hmo] at he
            | some es =>
              simp only [hmo] at he
              cases hfk : findK kk kv es 0 with
              | none => simp [hfk] at he
              | some fr =>
                have hmv := rd_VR henv hm hr
                have hkv := rd_VR henv hk hr2
                obtain ⟨zc, z1, z2⟩ := tzero_some (S := S) (ρ := ρ) w hz
                obtain ⟨d, hud, hd⟩ := keyOk_some hkk
                rcases run_mapOf r hmo hmv with ⟨e1, rfl⟩ | ⟨id, clock, l, ces, rfl, e1, e2, e3, e4, e5⟩
                · have hfs := findK_sound hkv hd [] [] trivial 0 fr hfk
                  cases fr with
                  | some jv => simp only [findK] at hfk; split at hfk <;> cases hfk
                  | none =>
                    simp only [hfk] at he
                    simp only at hfs
                    cases ok with
                    | true =>
                      cases he
                      exact OpRes.val r (v := .tup [z, .bool false]) (c := .tuple #[zc, .bool false]) ⟨_, rfl, z2, rfl, trivial⟩ (by simp [execOp, Instr.lookup, run_under w hu, e1, run_checkKey hkk, run_findKey hud hfs, z1])
                    | false =>
                      cases he
                      exact OpRes.val r z2 (by simp [execOp, Instr.lookup, run_under w hu, e1, run_checkKey hkk, run_findKey hud hfs, z1])
                · have hfs := findK_sound hkv hd es ces.toList e5 0 fr hfk
                  have hgo := run_getObj (P := S.P) e4 (by intros; simp)
                  cases fr with
                  | none =>
                    simp only [hfk] at he
                    simp only at hfs
                    cases ok with
                    | true =>
                      cases he
                      exact OpRes.val r (v := .tup [z, .bool false]) (c := .tuple #[zc, .bool false]) ⟨_, rfl, z2, rfl, trivial⟩ (by simp [execOp, Instr.lookup, run_under w hu, e1, hgo, run_checkKey hkk, run_findKey hud hfs, z1])
                    | false =>
                      cases he
                      exact OpRes.val r z2 (by simp [execOp, Instr.lookup, run_under w hu, e1, hgo, run_checkKey hkk, run_findKey hud hfs, z1])
                  | some jv =>
                    obtain ⟨j, ov⟩ := jv
                    simp only [hfk] at he
                    simp only at hfs
                    obtain ⟨cv, f1, f2, _⟩ := hfs
                    cases ok with
                    | true =>
                      cases he
                      exact OpRes.val r (v := .tup [ov, .bool true]) (c := .tuple #[cv, .bool true]) ⟨_, rfl, f2, rfl, trivial⟩ (by simp [execOp, Instr.lookup, run_under w hu, e1, hgo, run_checkKey hkk, run_findKey hud f1])
                    | false =>
                      cases he
                      exact OpRes.val r f2 (by simp [execOp, Instr.lookup, run_under w hu, e1, hgo, run_checkKey hkk, run_findKey hud f1])
      · cases hc
    · cases hc
  | mapUpdate t m k x =>
    simp only [cOp] at hc
    split at hc
    · rename_i kt et hu
      split at hc
      · rename_i kk hkk
        split at hc
        · rename_i am ak ax hm hk hx
          cases hc
          simp only [aop] at he
          cases hr : rd env am with
          | none => simp [hr] at he
          | some mv =>
            have hmv := rd_VR henv hm hr
            cases mv <;> simp only [hr] at he <;> try (cases he; done)
            rename_i id
            cases hr2 : rd env ak with
            | none => simp [hr2] at he
            | some kv =>
              cases hr3 : rd env ax with
              | none => simp [hr2, hr3] at he
              | some xv =>
                simp only [hr2, hr3] at he
                cases hg : h.get id with
                | none => simp [hg] at he
                | some ob =>
                  cases ob <;> simp only [hg] at he <;> try (cases he; done)
                  rename_i es clock
                  obtain ⟨l, hl, e1⟩ := hmv
                  obtain ⟨l', e2, _, ces, e3, e4⟩ := r.obj _ _ hg rfl
                  rw [hl] at e2; cases e2
                  obtain ⟨d, hud, hd⟩ := keyOk_some hkk
                  have hkv := rd_VR henv hk hr2
                  have hxv := rd_VR henv hx hr3
                  have hlt : l.b < w.heap.size := (Array.getElem?_eq_some_iff.1 e3).1
                  have hgo := run_getObj (P := S.P) e3 (by intros; simp)
                  cases hfk : findK kk kv es 0 with
                  | none => simp [hfk] at he
                  | some fr =>
                    have hfs := findK_sound hkv hd es ces.toList e4 0 fr hfk
                    cases fr with
                    | none =>
                      simp only [hfk, forceL_eq, VO.val.injEq] at he
                      obtain ⟨rfl, rfl⟩ := he
                      simp only at hfs
                      have hso := run_setObj (P := S.P) (o' := .map (ces.push { key := a.eval k, val := a.eval x, born := clock }) (clock + 1)) e3 (by intros; simp)
                      refine ⟨ρ, _, undef, setObj_stp r hg rfl hl hlt (ob := .map (ces.push { key := a.eval k, val := a.eval x, born := clock }) (clock + 1)) (fun _ => ⟨ces.push { key := a.eval k, val := a.eval x, born := clock }, by simp [hlt], by simpa using e4.push (e := (kv, xv, clock)) (ce := { key := a.eval k, val := a.eval x, born := clock }) ⟨hkv, hxv, rfl⟩⟩), ⟨_, rfl, trivial⟩, .inr ⟨?_, rfl⟩⟩
                      simp [execOp, Instr.mapUpdate, run_under w hu, e1, hgo, run_checkKey hkk, run_findKey hud hfs, hso]
                    | some jv =>
                      obtain ⟨j, ov⟩ := jv
                      simp only [hfk, forceL_eq, VO.val.injEq] at he
                      obtain ⟨rfl, rfl⟩ := he
                      simp only at hfs
                      obtain ⟨cv, f1, f2, f3, e0, ce, f4, f5, f6⟩ := hfs
                      have f5' : ces[j]? = some ce := by simpa using f5
                      have hso := run_setObj (P := S.P) (o' := .map (ces.modify j fun e => { e with key := a.eval k, val := a.eval x }) clock) e3 (by intros; simp)
                      refine ⟨ρ, _, undef, setObj_stp r hg rfl hl hlt (ob := .map (ces.modify j fun e => { e with key := a.eval k, val := a.eval x }) clock) (fun _ => ⟨ces.modify j fun e => { e with key := a.eval k, val := a.eval x }, by simp [hlt], by
                        have := EntRs.setVal hkv hxv es ces.toList e4 j
                        simpa [Array.toList_modify] using this⟩), ⟨_, rfl, trivial⟩, .inr ⟨?_, rfl⟩⟩
                      simp [execOp, Instr.mapUpdate, run_under w hu, e1, hgo, run_checkKey hkk, run_findKey hud f1, f5', Instr.keyThatStays, f6, hso]
        · cases hc
      · cases hc
    · cases hc
  | mapEntry t m k => simp [cOp] at hc
  | entryStore t m s x => simp [cOp] at hc
  | insert t m k x =>
    simp only [cOp] at hc
    split at hc
    · rename_i kt et hu
      split at hc
      · rename_i kk hkk
        split at hc
        · rename_i am ak ax hm hk hx
          cases hc
          simp only [aop] at he
          cases hr : rd env am with
          | none => simp [hr] at he
          | some mv =>
            have hmv := rd_VR henv hm hr
            cases mv <;> simp only [hr] at he <;> try (cases he; done)
            rename_i id
            cases hr2 : rd env ak with
            | none => simp [hr2] at he
            | some kv =>
              cases hr3 : rd env ax with
              | none => simp [hr2, hr3] at he
              | some xv =>
                simp only [hr2, hr3] at he
                cases hg : h.get id with
                | none => simp [hg] at he
                | some ob =>
                  cases ob <;> simp only [hg] at he <;> try (cases he; done)
                  rename_i es clock
                  obtain ⟨l, hl, e1⟩ := hmv
                  obtain ⟨l', e2, _, ces, e3, e4⟩ := r.obj _ _ hg rfl
                  rw [hl] at e2; cases e2
                  obtain ⟨d, hud, hd⟩ := keyOk_some hkk
                  have hkv := rd_VR henv hk hr2
                  have hxv := rd_VR henv hx hr3
                  have hlt : l.b < w.heap.size := (Array.getElem?_eq_some_iff.1 e3).1
                  have hgo := run_getObj (P := S.P) e3 (by intros; simp)
                  cases hfk : findK kk kv es 0 with
                  | none => simp [hfk] at he
                  | some fr =>
                    have hfs := findK_sound hkv hd es ces.toList e4 0 fr hfk
                    cases fr with
                    | none =>
                      simp only [hfk, forceL_eq, VO.val.injEq] at he
                      obtain ⟨rfl, rfl⟩ := he
                      simp only at hfs
                      have hso := run_setObj (P := S.P) (o' := .map (ces.push { key := a.eval k, val := a.eval x, born := clock }) (clock + 1)) e3 (by intros; simp)
                      refine ⟨ρ, _, undef, setObj_stp r hg rfl hl hlt (ob := .map (ces.push { key := a.eval k, val := a.eval x, born := clock }) (clock + 1)) (fun _ => ⟨ces.push { key := a.eval k, val := a.eval x, born := clock }, by simp [hlt], by simpa using e4.push (e := (kv, xv, clock)) (ce := { key := a.eval k, val := a.eval x, born := clock }) ⟨hkv, hxv, rfl⟩⟩), ⟨_, rfl, trivial⟩, .inr ⟨?_, rfl⟩⟩
                      simp [execOp, Instr.mapUpdate, run_under w hu, e1, hgo, run_checkKey hkk, run_findKey hud hfs, hso]
                    | some jv =>
                      obtain ⟨j, ov⟩ := jv
                      simp only [hfk, forceL_eq, VO.val.injEq] at he
                      obtain ⟨rfl, rfl⟩ := he
                      simp only at hfs
                      obtain ⟨cv, f1, f2, f3, e0, ce, f4, f5, f6⟩ := hfs
                      have f5' : ces[j]? = some ce := by simpa using f5
                      have hso := run_setObj (P := S.P) (o' := .map (ces.modify j fun e => { e with key := a.eval k, val := a.eval x }) clock) e3 (by intros; simp)
                      refine ⟨ρ, _, undef, setObj_stp r hg rfl hl hlt (ob := .map (ces.modify j fun e => { e with key := a.eval k, val := a.eval x }) clock) (fun _ => ⟨ces.modify j fun e => { e with key := a.eval k, val := a.eval x }, by simp [hlt], by
                        have := EntRs.setVal hkv hxv es ces.toList e4 j
                        simpa [Array.toList_modify] using this⟩), ⟨_, rfl, trivial⟩, .inr ⟨?_, rfl⟩⟩
                      simp [execOp, Instr.mapUpdate, run_under w hu, e1, hgo, run_checkKey hkk, run_findKey hud f1, f5', Instr.keyThatStays, f6, hso]
        · cases hc
      · cases hc
    · cases hc
  | range t x =>
    simp only [cOp] at hc
    split at hc
    · rename_i kt et hu
      obtain ⟨ax, hx, rfl⟩ := c1_some hc
      simp only [aop] at he
      cases hr : rd env ax with
      | none => simp [hr] at he
      | some xv =>
        simp only [hr] at he
        exact range_sound r hu (rd_VR henv hx hr) he hf (fun c' w' e => by simp [execOp, e])
    · cases hc
  | next it s =>
    simp only [cOp] at hc
    cases s with
    | true => simp at hc
    | false =>
      obtain ⟨ax, hx, rfl⟩ := c1_some hc
      simp only [aop] at he
      cases hr : rd env ax with
      | none => simp [hr] at he
      | some xv =>
        simp only [hr] at he
        exact next_sound (ty := type) r (rd_VR henv hx hr) he (fun c' w' e => by simp [execOp, e])
  | entry it =>
    obtain ⟨ax, hx, rfl⟩ := c1_some hc
    simp only [aop] at he
    cases hr : rd env ax with
    | none => simp [hr] at he
    | some xv =>
      simp only [hr] at he
      exact entry_sound r (rd_VR henv hx hr) he (fun c' w' e => by simp [execOp, e])
  | typeAssert x t u ok => simp [cOp] at hc
  | extract x i =>
    obtain ⟨ax, hx, rfl⟩ := c1_some hc
    simp only [aop] at he
    cases hr : rd env ax with
    | none => simp [hr] at he
    | some xv =>
      have hxv := rd_VR henv hx hr
      cases xv <;> simp only [hr] at he <;> try (cases he; done)
      obtain ⟨e1, rfl⟩ := pure1_val he
      obtain ⟨y, e2, e3⟩ := hxv
      obtain ⟨c, e4, e5⟩ := e3.get e1
      refine OpRes.val r e5 ?_
      have e6 : y[i]? = some c := by simpa using e4
      simp [execOp, Instr.extract, e2, e6]
  | call c =>
    obtain ⟨callee, args, ts⟩ := c
    simp only [cOp, cCall] at hc
    cases callee with
    | invoke rv nm => simp at hc
    | value f =>
      cases f with
      | tmp t => simp only at hc; split at hc <;> cases hc; exact absurd rfl (h2 _ _)
      | const c => simp at hc
      | global g => simp at hc
      | func f =>
        simp only at hc
        split at hc
        · rename_i l hl
          split at hc
          · rename_i k hk
            cases hc
            simp only [aop] at he
            cases hr : rds env l with
            | none => simp [hr] at he
            | some vs =>
              simp only [hr] at he
              have hvs := rds_VRs henv hl hr
              have := ext_sound ro r hk (cargs := args.map a.eval) (by simpa using hvs) he hf
              simp only [execOp, resolve, Act.eval, Deferred.ofValue, Sem.run_bind, Sem.run_pure, Result.andThen_ok, invoke]
              simpa using this
          · cases hc; exact absurd rfl (h1 _ _)
        · cases hc
    | builtin b =>
      simp only at hc
      have hres : ∀ (ex : Result Next), (∀ cs, (builtin b ts type cs (args.map a.eval)).run S.P w = ex) → (execOp a.eval ⟨dst, .call ⟨.builtin b, args, ts⟩, type, pos, after, guard⟩).run S.P w = ex := by
        intro ex hex
        simp only [execOp, resolve, Sem.run_bind, Sem.run_pure, Result.andThen_ok, invoke]
        exact hex _
      cases b <;> simp only [cBuiltin] at hc <;> try (cases hc; done)
      case append =>
        split at hc
        · rename_i s x t u hargs hts
          have hargs' : args = #[s, x] := by apply Array.ext'; simpa using hargs
          have hts' : ts = #[t, u] := by apply Array.ext'; simpa using hts
          subst hargs'; subst hts'
          split at hc
          · rename_i e hst
            split at hc
            · rename_i i hi
              split at hc
              · rename_i z hz
                split at hc
                · rename_i hcond
                  simp only [Bool.and_eq_true, Nat.blt_eq] at hcond
                  obtain ⟨zc, z1, z2⟩ := tzero_some (S := S) (ρ := ρ) w hz
                  have hzz : ∃ zv, i.zero = some zv ∧ zv = zc := by
                    cases hzi : i.zero with
                    | none => simp [zeroValue, run_info w hi, hzi] at z1
                    | some zv => simp [zeroValue, run_info w hi, hzi] at z1; exact ⟨zv, rfl, z1⟩
                  obtain ⟨zv, hzi, rfl⟩ := hzz
                  have T : (S.P.underlying u = some .string ∨ ∃ e', S.P.underlying u = some (.slice e')) → AppT S.P t u e i zv := fun hu =>
                    ⟨sliceT_some hst, hu, hi, hzi, hcond.1.1, hcond.1.2, by rw [← z2.cells_length]; exact Nat.eq_of_beq_eq_true hcond.2⟩
                  have hfin : (S.P.underlying u = some .string ∨ ∃ e', S.P.underlying u = some (.slice e')) → c2 s x (.append i.size i.bytes) = some ao → OpRes S w0 ρ h w ((execOp a.eval ⟨dst, .call ⟨.builtin .append, #[s, x], #[t, u]⟩, type, pos, after, guard⟩).run S.P w) v h' := by
                    intro hu hc
                    obtain ⟨as, ax, hs, hx, rfl⟩ := c2_some hc
                    simp only [aop] at he
                    cases hr : rd env as with
                    | none => simp [hr] at he
                    | some sv =>
                      cases hr2 : rd env ax with
                      | none => simp [hr, hr2] at he
                      | some xv =>
                        simp only [hr, hr2] at he
                        obtain ⟨ρ', w', c, q1, q2, q3⟩ := append_sound (ty := type) ro r he hf (T hu) rfl rfl (rd_VR henv hs hr) (rd_VR henv hx hr2)
                        exact ⟨ρ', w', c, q1, q2, .inl (hres _ (fun _ => by simp [builtin, q3]))⟩
                  split at hc
                  · rename_i e' hu; exact hfin (.inr ⟨e', hu⟩) hc
                  · rename_i hu; exact hfin (.inl hu) hc
                  · cases hc
                · cases hc
              · cases hc
            · cases hc
          · cases hc
        · cases hc
      case copy =>
        split at hc
        · rename_i d s t ts' hargs hts
          have hargs' : args = #[d, s] := by apply Array.ext'; simpa using hargs
          have hts' : ts = (t :: ts').toArray := by apply Array.ext'; simpa using hts
          subst hargs'; subst hts'
          split at hc
          · rename_i e hst
            split at hc
            · rename_i n hn
              obtain ⟨ad, as, hd, hs, rfl⟩ := c2_some hc
              simp only [aop] at he
              cases hr : rd env ad with
              | none => simp [hr] at he
              | some dv =>
                cases hr2 : rd env as with
                | none => simp [hr, hr2] at he
                | some sv =>
                  simp only [hr, hr2] at he
                  obtain ⟨w', c, q1, q2, q3⟩ := copy_sound (ty := type) (ts := ts') ro r he (sliceT_some hst) hn (rd_VR henv hd hr) (rd_VR henv hs hr2)
                  exact ⟨ρ, w', c, q1, q2, .inl (hres _ (fun _ => by
                    simp only [builtin, Sem.run_bind]
                    rw [show (#[d, s] : Array Operand).map a.eval = #[a.eval d, a.eval s] by simp, q3]; rfl))⟩
            · cases hc
          · cases hc
        · cases hc
      case delete =>
        split at hc
        · rename_i m k t ts' hargs hts
          have hargs' : args = #[m, k] := by apply Array.ext'; simpa using hargs
          have hts' : ts[0]? = some t := by
            have : ts = (t :: ts').toArray := by apply Array.ext'; simpa using hts
            rw [this]; rfl
          subst hargs'
          split at hc
          · rename_i kt et hu
            split at hc
            · rename_i kk hkk
              obtain ⟨am, ak, hm, hk, rfl⟩ := c2_some hc
              simp only [aop] at he
              cases hr : rd env am with
              | none => simp [hr] at he
              | some mv =>
                have hmv := rd_VR henv hm hr
                cases mv <;> simp only [hr] at he <;> try (cases he; done)
                · rename_i id
                  cases hr2 : rd env ak with
                  | none => simp [hr2] at he
                  | some kv =>
                    simp only [hr2] at he
                    cases hg : h.get id with
                    | none => simp [hg] at he
                    | some ob =>
                      cases ob <;> simp only [hg] at he <;> try (cases he; done)
                      rename_i es clock
                      obtain ⟨l, hl, e1⟩ := hmv
                      obtain ⟨l', e2, _, ces, e3, e4⟩ := r.obj _ _ hg rfl
                      rw [hl] at e2; cases e2
                      obtain ⟨d, hud, hd⟩ := keyOk_some hkk
                      have hkv := rd_VR henv hk hr2
                      have hlt : l.b < w.heap.size := (Array.getElem?_eq_some_iff.1 e3).1
                      have hgo := run_getObj (P := S.P) e3 (by intros; simp)
                      cases hfk : findK kk kv es 0 with
                      | none => simp [hfk] at he
                      | some fr =>
                        have hfs := findK_sound hkv hd es ces.toList e4 0 fr hfk
                        cases fr with
                        | none =>
                          simp only [hfk, VO.val.injEq] at he
                          obtain ⟨rfl, rfl⟩ := he
                          simp only at hfs
                          have hso := run_setObj (P := S.P) (o' := .map ces clock) e3 (by intros; simp)
                          have hsame : ({ w with heap := w.heap.setIfInBounds l.b (.map ces clock) } : World) = w := by
                            have : w.heap.setIfInBounds l.b (.map ces clock) = w.heap := by
                              apply Array.ext_getElem?
                              intro i
                              by_cases e : i = l.b
                              · subst e; rw [e3]; simp [hlt]
                              · rw [Array.getElem?_setIfInBounds_ne (Ne.symm e)]
                            rw [this]
                          rw [hsame] at hso
                          refine OpRes.val r (v := .undef) (c := .tuple #[]) ⟨_, rfl, trivial⟩ (hres _ fun _ => ?_)
                          simp [builtin, Builtin.delete_, hts', run_under w hu, e1, hgo, run_checkKey hkk, run_findKey hud hfs, hso]
                        | some jv =>
                          obtain ⟨j, ov⟩ := jv
                          simp only [hfk, forceL_eq, VO.val.injEq] at he
                          obtain ⟨rfl, rfl⟩ := he
                          simp only at hfs
                          obtain ⟨cv, f1, f2, f3, e0, ce, f4, f5, f6⟩ := hfs
                          have hso := run_setObj (P := S.P) (o' := .map (ces.eraseIdxIfInBounds j) clock) e3 (by intros; simp)
                          refine ⟨ρ, _, .tuple #[], setObj_stp r hg rfl hl hlt (ob := .map (ces.eraseIdxIfInBounds j) clock) (fun _ => ⟨ces.eraseIdxIfInBounds j, by simp [hlt], by
                            have := e4.erase es ces.toList j
                            simpa [Array.toList_eraseIdxIfInBounds] using this⟩), ⟨_, rfl, trivial⟩, .inl (hres _ fun _ => ?_)⟩
                          simp [builtin, Builtin.delete_, hts', run_under w hu, e1, hgo, run_checkKey hkk, run_findKey hud f1, hso]
                · cases hr2 : rd env ak with
                  | none => simp [hr2] at he
                  | some kv =>
                    simp only [hr2] at he
                    split at he
                    · cases he
                      simp only [VR] at hmv
                      refine OpRes.val r (v := .undef) (c := .tuple #[]) ⟨_, rfl, trivial⟩ (hres _ fun _ => ?_)
                      simp [builtin, Builtin.delete_, hts', run_under w hu, hmv, run_checkKey hkk]
                    · cases he
            · cases hc
          · cases hc
        · cases hc
      case len =>
        split at hc
        · rename_i x t hargs hts
          have hargs' : args = #[x] := by apply Array.ext'; simpa using hargs
          have hts' : ts = #[t] := by apply Array.ext'; simpa using hts
          subst hargs'; subst hts'
          split at hc
          · rename_i hu
            obtain ⟨ax, hx, rfl⟩ := c1_some hc
            simp only [aop] at he
            cases hr : rd env ax with
            | none => simp [hr] at he
            | some xv =>
              have hxv := rd_VR henv hx hr
              simp only [hr] at he
              cases xv <;> simp only [lenSrc] at he <;> try (cases he; done)
              rename_i s
              cases he
              obtain ⟨b, e1, e2⟩ := hxv
              have hlen : s.length = b.size := by rw [← e2, byteL_length, Array.length_toList]; rfl
              refine OpRes.val r (v := .int .i64 (s.length : Int)) (c := .int .i64 (s.length : Int)) rfl (hres _ fun _ => ?_)
              simp [builtin, Builtin.len_, run_under w hu, e1, goInt, hlen]
          · rename_i e hu
            obtain ⟨ax, hx, rfl⟩ := c1_some hc
            simp only [aop] at he
            cases hr : rd env ax with
            | none => simp [hr] at he
            | some xv =>
              have hxv := rd_VR henv hx hr
              simp only [hr] at he
              cases xv <;> simp only [lenSrc] at he <;> try (cases he; done)
              · rename_i q n e0
                cases he
                obtain ⟨x', cap, e1, _⟩ := hxv
                refine OpRes.val r (v := .int .i64 (n : Int)) (c := .int .i64 (n : Int)) rfl (hres _ fun _ => ?_)
                simp [builtin, Builtin.len_, run_under w hu, e1, goInt]
              · cases he
                simp only [VR] at hxv
                refine OpRes.val r (v := .int .i64 0) (c := .int .i64 0) rfl (hres _ fun _ => ?_)
                simp [builtin, Builtin.len_, run_under w hu, hxv, goInt]
          · rename_i kt et hu
            obtain ⟨ax, hx, rfl⟩ := c1_some hc
            simp only [aop] at he
            cases hr : rd env ax with
            | none => simp [hr] at he
            | some mv =>
              simp only [hr] at he
              cases hmo : mapOf h mv with
              | none => simp [hmo] at he
              | some es =>
                simp only [hmo, VO.val.injEq] at he
                obtain ⟨rfl, rfl⟩ := he
                rcases run_mapOf r hmo (rd_VR henv hx hr) with ⟨e1, rfl⟩ | ⟨id, clock, l, ces, rfl, e1, e2, e3, e4, e5⟩
                · refine OpRes.val r (v := .int .i64 0) (c := .int .i64 0) rfl (hres _ fun _ => ?_)
                  simp [builtin, Builtin.len_, run_under w hu, e1, goInt]
                · have hgo := run_getObj (P := S.P) e4 (by intros; simp)
                  refine OpRes.val r (v := .int .i64 (es.length : Int)) (c := .int .i64 (es.length : Int)) rfl (hres _ fun _ => ?_)
                  have hl : es.length = ces.size := by rw [e5.length, Array.length_toList]
                  simp [builtin, Builtin.len_, run_under w hu, e1, hgo, goInt, hl]
          · rename_i n e hu
            cases hc
            simp only [aop, rd] at he
            cases he
            refine OpRes.val r (v := .int .i64 (n : Int)) (c := .int .i64 (n : Int)) rfl (hres _ fun _ => ?_)
            simp [builtin, Builtin.len_, run_under w hu, goInt]
          · cases hc
        · cases hc
      case max =>
        split at hc
        · rename_i x rest hargs
          split at hc
          · rename_i ax l hx hl
            cases hc
            simp only [aop] at he
            cases hr : rd env ax with
            | none => simp [hr] at he
            | some xv =>
              cases hr2 : rds env l with
              | none => simp [hr, hr2] at he
              | some rv =>
                simp only [hr, hr2] at he
                obtain ⟨e1, rfl⟩ := pure1_val he
                obtain ⟨c, e2, e3⟩ := aMax_sound (w := w) rv xv v e1 (a.eval x) (rest.map a.eval) (rd_VR henv hx hr) (rds_VRs henv hl hr2)
                refine OpRes.val r e3 (hres _ fun _ => ?_)
                simp only [builtin, Builtin.max_, Sem.run_bind, Array.toList_map, hargs, List.map_cons]
                simp only [if_true] at e2
                rw [e2]; rfl
          · cases hc
        · cases hc
      case min =>
        split at hc
        · rename_i x rest hargs
          split at hc
          · rename_i ax l hx hl
            cases hc
            simp only [aop] at he
            cases hr : rd env ax with
            | none => simp [hr] at he
            | some xv =>
              cases hr2 : rds env l with
              | none => simp [hr, hr2] at he
              | some rv =>
                simp only [hr, hr2] at he
                obtain ⟨e1, rfl⟩ := pure1_val he
                obtain ⟨c, e2, e3⟩ := aMax_sound (w := w) rv xv v e1 (a.eval x) (rest.map a.eval) (rd_VR henv hx hr) (rds_VRs henv hl hr2)
                refine OpRes.val r e3 (hres _ fun _ => ?_)
                simp only [builtin, Builtin.min_, Sem.run_bind, Array.toList_map, hargs, List.map_cons]
                simp only [Bool.false_eq_true, if_false] at e2
                rw [e2]; rfl
          · cases hc
        · cases hc
  | go c => simp [cOp] at hc
  | defer c => simp [cOp] at hc
  | panic x => simp [cOp] at hc
  | send c x => simp [cOp] at hc
  | recv t c ok => simp [cOp] at hc
  | select cs b => simp [cOp] at hc
end ops
end Go.Proofs.YtkahmlbhgahbbaaGreat.Abs
