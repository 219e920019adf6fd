/- Each operation but calls: where the evaluator goes through, the model's operation does, and the relation holds behind it. -/
import Derived.Test.YtkahmlbhgahbbaaGreatAbsM
set_option linter.unusedSimpArgs false
set_option linter.unusedVariables false
set_option linter.unusedSectionVars false
set_option linter.constructorNameAsVariable false
namespace Go.Proofs.YtkahmlbhgahbbaaGreat.Abs

/-- What an operation of the model came to. -/
def OpRes (S : Sta) (w0 : World) (ρ : Ren) (h : AH) (w : World) (r : Result Next) (v : AV) (h' : AH) : Prop :=
  ∃ ρ' w' c, Stp S w0 ρ h w ρ' h' w' ∧ VR S ρ' v c ∧ (r = .ok (.value c) w' ∨ (r = .ok .skip w' ∧ c = undef))

section ops
variable {S : Sta} {w0 : World} {ρ : Ren} {h : AH} {w : World}

theorem OpRes.val (r : Rel S w0 ρ h w) {v : AV} {c : Value} (hv : VR S ρ v c) {res : Result Next} (e : res = .ok (.value c) w) : OpRes S w0 ρ h w res v h :=
  ⟨ρ, w, c, Stp.refl r, hv, .inl e⟩

/-- A value out of a sum of cells. -/
theorem pure1_val {o : Option AV} {v : AV} {h h' : AH} (e : pure1 h o = .val v h') : o = some v ∧ h' = h := by
  cases o with
  | none => cases e
  | some x => simp only [pure1, VO.val.injEq] at e; exact ⟨by rw [e.1], e.2.symm⟩

theorem newRow_val {cs : List AV} {k : Nat → AV} {v : AV} {h h' : AH} (e : newRow h cs k = .val v h') : allCell cs = true ∧ v = k h.next ∧ h' = h.new (.row cs) := by
  unfold newRow at e
  split at e
  · rename_i hc
    simp only [forceL_eq, VO.val.injEq] at e
    exact ⟨hc, e.1.symm, e.2.symm⟩
  · cases e

/-! ### Numbers and texts -/
theorem byteL_length (l : List UInt8) : (byteL l).length = l.length := by simp [byteL_eq]

theorem strEq_iff : ∀ (a b : List Nat), strEq a b = decide (a = b)
  | [], [] => by simp [strEq]
  | [], _ :: _ => by simp [strEq]
  | _ :: _, [] => by simp [strEq]
  | a :: x, b :: y => by
    simp only [strEq]
    cases e : Nat.beq a b with
    | true => have : a = b := Nat.eq_of_beq_eq_true e; subst this; simp [strEq_iff x y]
    | false => have := beq_f e; simp [this]

theorem byteL_inj {a b : List UInt8} : byteL a = byteL b ↔ a = b := by
  rw [byteL_eq, byteL_eq]
  constructor
  · intro h
    exact (List.map_inj_right (fun x y hxy => UInt8.toNat_inj.1 hxy)).1 h
  · intro h; rw [h]

theorem strEq_bytes (a b : ByteArray) : strEq (byteL a.data.toList) (byteL b.data.toList) = (a.toList == b.toList) := by
  rw [strEq_iff, ByteArray.toList_eq, ByteArray.toList_eq]
  by_cases e : a.data.toList = b.data.toList
  · simp [e]
  · have : byteL a.data.toList ≠ byteL b.data.toList := fun h => e (byteL_inj.1 h)
    rw [decide_eq_false this]; symm; simpa using e

theorem strLess_bytes : ∀ (a b : List UInt8), strLess (byteL a) (byteL b) = Op.bytesLess a b
  | [], [] => rfl
  | [], _ :: _ => rfl
  | _ :: _, [] => rfl
  | a :: x, b :: y => by
    simp only [byteL, strLess, Op.bytesLess, strLess_bytes x y]
    congr 1
    · rw [Bool.eq_iff_iff]; simp [Nat.blt_eq, UInt8.lt_iff_toNat_lt]
    · congr 1
      cases e : Nat.beq a.toNat b.toNat with
      | true => have := Nat.eq_of_beq_eq_true e; rw [UInt8.toNat_inj] at this; simp [this]
      | false => have := beq_f e; have h2 : a ≠ b := fun h => this (by rw [h]); simp [h2]

theorem aBin_sound {op : BinOp} {x y v : AV} (hb : aBin op x y = some v) {cx cy : Value} (hx : VR S ρ x cx) (hy : VR S ρ y cy) (t : TypeId) (xo yo : Operand) :
    ∃ c, (do eqGuard op t xo yo cx cy; binOp op t cx cy : Sem Value).run S.P w = .ok c w ∧ VR S ρ v c := by
  cases x <;> cases y <;> simp only [aBin] at hb <;> try (cases hb; done)
  case int.int k a k' b =>
    simp only [VR] at hx hy; subst hx; subst hy
    have hg : (eqGuard op t xo yo (.int k a) (.int k' b)).run S.P w = .ok () w := by cases op <;> simp [eqGuard]
    simp only [Sem.run_bind, hg, Result.andThen_ok]
    cases op
    all_goals simp only at hb
    case shl => split at hb <;> cases hb; rename_i hlt; refine ⟨_, ?_, rfl⟩; simp [binOp, Op.shift, hlt]
    case shr => split at hb <;> cases hb; rename_i hlt; refine ⟨_, ?_, rfl⟩; simp [binOp, Op.shift, hlt]
    all_goals (split at hb <;> try (cases hb; done))
    all_goals (rename_i hk; subst hk)
    case quo =>
      split at hb
      · cases hb
      · cases hb
        rename_i hlt
        refine ⟨_, ?_, rfl⟩
        have e : ∀ t, binOp .quo t (.int k a) (.int k b) = Op.intDiv .quo k a b := fun t => by unfold binOp; exact if_neg (by simp)
        rw [e]; unfold Op.intDiv; rw [if_neg hlt]; rfl
    case rem =>
      split at hb
      · cases hb
      · cases hb
        rename_i hlt
        refine ⟨_, ?_, rfl⟩
        have e : ∀ t, binOp .rem t (.int k a) (.int k b) = Op.intDiv .rem k a b := fun t => by unfold binOp; exact if_neg (by simp)
        rw [e]; unfold Op.intDiv; rw [if_neg hlt]; rfl
    all_goals (cases hb; refine ⟨_, ?_, rfl⟩; simp [binOp, Op.intArith, Op.intBits, Op.intCmp])
  case str.str a b =>
    obtain ⟨sa, rfl, rfl⟩ := hx
    obtain ⟨sb, rfl, rfl⟩ := hy
    have hg : (eqGuard op t xo yo (.string sa) (.string sb)).run S.P w = .ok () w := by cases op <;> simp [eqGuard]
    simp only [Sem.run_bind, hg, Result.andThen_ok]
    have e1 := strEq_bytes sa sb
    have e2 : strLess (byteL sa.data.toList) (byteL sb.data.toList) = Op.bytesLess sa.toList sb.toList := by rw [strLess_bytes, ByteArray.toList_eq, ByteArray.toList_eq]
    cases op <;> simp only at hb <;> try (cases hb; done)
    case add =>
      split at hb
      · cases hb
        rename_i hlen
        simp only [byteL_length] at hlen
        have hs : ¬ ((sa.size + sb.size : Nat) : Int) > IntKind.i64.max := by
          have ha : sa.size = sa.data.toList.length := by rw [Array.length_toList]; rfl
          have hb' : sb.size = sb.data.toList.length := by rw [Array.length_toList]; rfl
          rw [ha, hb']
          have : IntKind.i64.max = 9223372036854775807 := by decide
          omega
        refine ⟨.string (sa ++ sb), ?_, _, rfl, ?_⟩
        · simp only [binOp, Op.stringOp, if_neg hs]; rfl
        · simp [byteL_eq, ByteArray.data_append]
      · cases hb
    all_goals (cases hb; refine ⟨_, ?_, rfl⟩; simp only [binOp, Op.stringOp, Sem.run_pure, e1, e2])

theorem aUn_sound {op : UnOp} {x v : AV} (hb : aUn op x = some v) {cx : Value} (hx : VR S ρ x cx) : ∃ c, (Op.unary op cx).run S.P w = .ok c w ∧ VR S ρ v c := by
  cases op <;> cases x <;> simp only [aUn] at hb <;> try (cases hb; done)
  all_goals (cases hb; simp only [VR] at hx; subst hx; refine ⟨_, ?_, rfl⟩; simp [Op.unary, Op.intArith, Op.intBits])

/-! ### Parts of aggregates -/
theorem part_sound {agg : Bool} {off n : Nat} {cs : List AV} {v : AV} (hp : partOf agg off n cs = some v) {t : TypeId} (ht : tvar S.P t = some (agg, n)) {ccs : Array Value} (hc : VRs S ρ cs ccs.toList) :
    ∃ c, (part t ccs off).run S.P w = .ok c w ∧ VR S ρ v c := by
  cases agg with
  | true =>
    obtain ⟨ha, hs⟩ := tvar_agg ht
    simp only [partOf] at hp
    split at hp
    · rename_i l hl
      cases hp
      obtain ⟨h1, h2, h3, h4⟩ := takeN_some hl
      refine ⟨.agg (ccs.extract off (off + n)), by simp [part, run_agg w ha, run_size w hs], _, rfl, ?_⟩
      rw [h4]
      have := (hc.drop off).take n
      simpa [Array.toList_extract, List.extract_eq_take_drop] using this
    · cases hp
  | false =>
    obtain ⟨ha, hs, rfl⟩ := tvar_one ht
    simp only [partOf] at hp
    obtain ⟨c, h1, h2⟩ := hc.get hp
    refine ⟨c, ?_, h2⟩
    have : ccs[off]? = some c := by simpa using h1
    simp [part, run_agg w ha, this]

theorem fill_sound {env : Tr AV} {nt : Nat} {a : Act} (henv : EnvR S ρ nt env a.tmps) (place : Nat → Option (Nat × Nat)) :
    ∀ (ps : List (Nat × Operand)) (aps : List (Nat × Nat × AO)) (z z' : List AV) (cz : Array Value),
      aps.length = ps.length → (∀ (i : Nat) p, ps[i]? = some p → ∃ off n x, aps[i]? = some (off, n, x) ∧ place p.1 = some (off, n) ∧ cAO p.2 = some x) →
      fillP env z aps = some z' → VRs S ρ z cz.toList →
      ∃ cz', Instr.fill place cz (ps.map fun p => (p.1, a.eval p.2)) = some cz' ∧ VRs S ρ z' cz'.toList ∧ cz'.size = cz.size := by
  intro ps
  induction ps with
  | nil =>
    intro aps z z' cz hlen _ hf hz
    cases aps with
    | nil => simp only [fillP, Option.some.injEq] at hf; subst hf; exact ⟨cz, rfl, hz, rfl⟩
    | cons _ _ => simp at hlen
  | cons p ps ih =>
    intro aps z z' cz hlen hi hf hz
    cases aps with
    | nil => simp at hlen
    | cons q aps =>
      obtain ⟨off, n, x, e1, e2, e3⟩ := hi 0 p rfl
      simp at e1; subst e1
      simp only [fillP] at hf
      cases hr : rd env x with
      | none => simp [hr] at hf
      | some v =>
        simp only [hr] at hf
        cases hb : Nat.beq v.cells.length n with
        | false => simp [hb] at hf
        | true =>
          simp only [hb] at hf
          cases hp : putAt z off v.cells with
          | none => simp [hp] at hf
          | some z1 =>
            simp only [hp] at hf
            have hn : v.cells.length = n := Nat.eq_of_beq_eq_true hb
            have hv := rd_VR henv e3 hr
            -- the cells of the part are cells, since they end up in the whole
            obtain ⟨hle, hz1⟩ := putAt_some hp
            have hvc : ∀ (j : Nat) u, v.cells[j]? = some u → True := fun _ _ _ => trivial
            have hcells : v.cells.length = (a.eval p.2).cells.size ∧ VRs S ρ v.cells (a.eval p.2).cells.toList := by
              cases hcell : v.isCell with
              | true =>
                have hone := hv.cell hcell
                have e4 : v.cells = [v] := by cases v <;> first | rfl | simp [AV.isCell] at hcell
                rw [e4, cells_one hone]
                exact ⟨rfl, hv, trivial⟩
              | false =>
                cases v <;> simp [AV.isCell] at hcell
                · obtain ⟨y, hy, hys⟩ := hv
                  rw [hy]; exact ⟨by simpa [AV.cells, Value.cells] using hys.length, hys⟩
                · obtain ⟨y, hy, hys⟩ := hv
                  rw [hy]
                  exact ⟨rfl, ⟨y, rfl, hys⟩, trivial⟩
            obtain ⟨hc1, hc2⟩ := hcells
            have hzl := hz.length
            have hfold : ∀ (l : List Value) (k : Nat) (cz : Array Value), off + k + l.length ≤ cz.size →
                ((l.zipIdx k).foldl (fun cs (q : Value × Nat) => cs.setIfInBounds (off + q.2) q.1) cz).toList = cz.toList.take (off + k) ++ (l ++ cz.toList.drop (off + k + l.length)) := by
              intro l
              induction l with
              | nil => intro k cz _; simp
              | cons c l ihl =>
                intro k cz hk
                simp only [List.length_cons] at hk
                simp only [List.zipIdx_cons, List.foldl_cons]
                rw [ihl (k + 1) _ (by simp; omega)]
                have hlt : off + k < cz.toList.length := by simp; omega
                simp only [Array.toList_setIfInBounds]
                apply List.ext_getElem?
                intro j
                simp only [List.getElem?_append, List.getElem?_take, List.getElem?_drop, List.getElem?_set, List.length_take, List.length_set, List.length_cons, List.getElem?_cons]
                grind
            have hfill : Instr.fill place cz ((p :: ps).map fun p => (p.1, a.eval p.2)) =
                Instr.fill place ((a.eval p.2).cells.zipIdx.foldl (fun cs (c, j) => cs.setIfInBounds (off + j) c) cz) (ps.map fun p => (p.1, a.eval p.2)) := by
              simp only [List.map_cons, Instr.fill, e2]
              rw [if_neg]
              simp only [Bool.or_eq_true, decide_eq_true_eq, bne_iff_ne, not_or]
              simp only [Array.length_toList] at hzl
              omega
            rw [hfill]
            have hsz : ((a.eval p.2).cells.zipIdx.foldl (fun cs (c, j) => cs.setIfInBounds (off + j) c) cz).toList = cz.toList.take off ++ ((a.eval p.2).cells.toList ++ cz.toList.drop (off + (a.eval p.2).cells.size)) := by
              have := hfold (a.eval p.2).cells.toList 0 cz (by simp only [Array.length_toList] at hzl ⊢; omega)
              rw [← Array.foldl_toList, Array.toList_zipIdx]
              simpa using this
            have hz1' : VRs S ρ z1 ((a.eval p.2).cells.zipIdx.foldl (fun cs (c, j) => cs.setIfInBounds (off + j) c) cz).toList := by
              rw [hsz, hz1, ← hc1]
              exact (hz.take off).append (hc2.append (hz.drop _))
            obtain ⟨cz', f1, f2, f3⟩ := ih aps z1 z' _ (by simpa using hlen) (fun i q hq => by simpa using hi (i + 1) q (by simpa using hq)) hf hz1'
            refine ⟨cz', f1, f2, ?_⟩
            rw [f3]
            have := congrArg List.length hsz
            simp only [Array.length_toList, List.length_append, List.length_take, List.length_drop] at this
            simp only [Array.length_toList] at hzl
            rw [this]; omega
end ops
end Go.Proofs.YtkahmlbhgahbbaaGreat.Abs
