/- Memory: what the model's loads, stores and new rows do, over the relation. -/
import Derived.Test.YtkahmlbhgahbbaaGreatAbsR
import Derived.Laws.Cells
import Derived.Laws.Append
import Derived.Laws.StructEq
import Derived.Laws.BytesString
import Derived.WalkKit
set_option linter.unusedSimpArgs false
set_option linter.unusedVariables false
set_option linter.unusedSectionVars false
set_option linter.constructorNameAsVariable false
namespace Go.Proofs.YtkahmlbhgahbbaaGreat.Abs

@[simp] theorem addr_add (b o n : Nat) : (⟨b, o, none⟩ : Addr).add n = ⟨b, o + n, none⟩ := by
  unfold Addr.add
  split
  · rename_i h; subst h; rfl
  · rfl

/-! ### Constants -/
theorem byteL_eq (l : List UInt8) : byteL l = l.map UInt8.toNat := by
  induction l with
  | nil => rfl
  | cons a l ih => simp [byteL, ih]

theorem toAV_VR (S : Sta) (ρ : Ren) : ∀ (n : Nat) (c : Value) (v : AV), toAV n c = some v → VR S ρ v c := by
  intro n
  induction n with
  | zero => intro c v h; simp [toAV] at h
  | succ n ih =>
    have ihs : ∀ (cs : Array Value) (l : List AV), mapO (toAV n) cs.toList = some l → VRs S ρ l cs.toList := by
      intro cs l h
      obtain ⟨h1, h2⟩ := mapO_some h
      refine VRs.iff.2 ⟨h1, fun i v hv => ?_⟩
      have hi : i < cs.toList.length := by rw [← h1]; exact (List.getElem?_eq_some_iff.1 hv).1
      obtain ⟨b, hb, hf⟩ := h2 i (cs.toList[i]) (List.getElem?_eq_getElem hi)
      rw [hb] at hv; cases hv
      exact ⟨_, List.getElem?_eq_getElem hi, ih _ _ hf⟩
    intro c v h
    unfold toAV at h
    split at h
    all_goals first
      | (cases h; rfl)
      | (cases h; exact ⟨_, rfl, rfl⟩)
      | skip
    · split at h
      · cases h
        rename_i h1 h2
        exact ⟨_, _, _, rfl, rfl, ihs _ _ h1, ihs _ _ h2⟩
      · cases h
    · split at h
      · cases h
        rename_i h1
        exact ⟨_, rfl, ihs _ _ h1⟩
      · cases h
    · split at h
      · cases h
        rename_i h1
        exact ⟨_, rfl, ihs _ _ h1⟩
      · cases h
    · cases h

/-! ### Operands -/
theorem rd_VR {S : Sta} {ρ : Ren} {nt : Nat} {env : Tr AV} {a : Act} (henv : EnvR S ρ nt env a.tmps) {x : Operand} {ao : AO} (hc : cAO x = some ao) {v : AV} (hr : rd env ao = some v) : VR S ρ v (a.eval x) := by
  cases x with
  | tmp t =>
    simp only [cAO, Option.some.injEq] at hc; subst hc
    obtain ⟨c, h1, h2⟩ := henv.2 t v hr
    simpa [Act.eval, Array.getD_eq_getD_getElem?, h1] using h2
  | const c =>
    simp only [cAO] at hc
    split at hc
    · cases hc
      cases hr
      rename_i h
      exact toAV_VR S ρ _ _ _ h
    · cases hc
  | global g => simp [cAO] at hc
  | func f =>
    simp only [cAO, Option.some.injEq] at hc; subst hc
    cases hr
    exact ⟨_, _, _, rfl, rfl, trivial, trivial⟩

theorem rds_VRs {S : Sta} {ρ : Ren} {nt : Nat} {env : Tr AV} {a : Act} (henv : EnvR S ρ nt env a.tmps) : ∀ {xs : List Operand} {aos : List AO}, mapO cAO xs = some aos → ∀ {vs : List AV}, rds env aos = some vs → VRs S ρ vs (xs.map a.eval) := by
  intro xs
  induction xs with
  | nil => intro aos h vs hv; simp [mapO] at h; subst h; simp [rds] at hv; subst hv; trivial
  | cons x xs ih =>
    intro aos h vs hv
    simp only [mapO] at h
    cases hx : cAO x with
    | none => simp [hx] at h
    | some ao =>
      cases hm : mapO cAO xs with
      | none => simp [hx, hm] at h
      | some t =>
        simp only [hx, hm, Option.some.injEq] at h
        subst h
        simp only [rds] at hv
        cases h1 : rd env ao with
        | none => simp [h1] at hv
        | some v =>
          cases h2 : rds env t with
          | none => simp [h1, h2] at hv
          | some l =>
            simp only [h1, h2, Option.some.injEq] at hv
            subst hv
            exact ⟨rd_VR henv hx h1, ih hm h2⟩

/-! ### Types -/
section types
variable {P : Program} (w : World)
theorem run_under {t : TypeId} {d : TypeDesc} (h : P.underlying t = some d) : (underlying t).run P w = .ok d w := by simp [underlying, h]
theorem run_info {t : TypeId} {i : TypeInfo} (h : P.info? t = some i) : (typeInfo t).run P w = .ok i w := by simp [typeInfo, h]
theorem run_size {t : TypeId} {n : Nat} (h : tsize P t = some n) : (sizeOf t).run P w = .ok n w := by
  unfold tsize at h
  cases hi : P.info? t with
  | none => simp [hi] at h
  | some i => simp [hi] at h; simp [sizeOf, run_info w hi, h]
theorem run_agg {t : TypeId} {b : Bool} (h : tagg P t = some b) : (isAgg t).run P w = .ok b w := by
  unfold tagg at h
  cases hu : P.underlying t with
  | none => simp [hu] at h
  | some d => cases d <;> simp [hu] at h <;> subst h <;> simp [isAgg, run_under w hu]
theorem tvar_agg {t : TypeId} {n : Nat} (h : tvar P t = some (true, n)) : tagg P t = some true ∧ tsize P t = some n := by
  unfold tvar at h
  split at h
  · split at h
    · rename_i h1 _ _ h2; cases h; exact ⟨h1, h2⟩
    · cases h
  · split at h <;> cases h
  · cases h
theorem tvar_one {t : TypeId} {n : Nat} (h : tvar P t = some (false, n)) : tagg P t = some false ∧ tsize P t = some 1 ∧ n = 1 := by
  unfold tvar at h
  split at h
  · split at h <;> cases h
  · split at h
    · rename_i h1 _ h2; cases h; exact ⟨h1, h2, rfl⟩
    · cases h
  · cases h
theorem tvar_size {t : TypeId} {b : Bool} {n : Nat} (h : tvar P t = some (b, n)) : tsize P t = some n := by
  cases b with
  | true => exact (tvar_agg h).2
  | false => obtain ⟨_, h1, rfl⟩ := tvar_one h; exact h1
theorem tzero_some {S : Sta} {ρ : Ren} {t : TypeId} {z : AV} (h : tzero P t = some z) : ∃ c, (zeroValue t).run P w = .ok c w ∧ VR S ρ z c := by
  unfold tzero at h
  split at h
  · split at h
    · rename_i i hi _ c hz
      exact ⟨c, by simp [zeroValue, run_info w hi, hz], toAV_VR S ρ _ _ _ h⟩
    · cases h
  · cases h
end types

/-! ### The heap seen from the world -/
/-- The read-only rows lie in the memory from which the call began. -/
structure RoOk (S : Sta) (w0 : World) : Prop where
  hnd : S.ro handleRow = ⟨S.P.globals.size, 0, none⟩
  lt : ∀ i, S.B i ≠ [] → (S.ro i).block < w0.heap.size
  at_ : ∀ i (j : Nat) v, (S.B i)[j]? = some v → v.isCell = true ∧ ∃ x, w0.cell? ⟨(S.ro i).block, (S.ro i).off + j, none⟩ = some x ∧ ∀ ρ, VR S ρ v x

theorem cell_of_heap {w w' : World} {a : Addr} (h : w'.heap[a.block]? = w.heap[a.block]?) : w'.cell? a = w.cell? a := by simp [World.cell?, h]
theorem frozen_of_heap {w w' : World} {a : Addr} (h : w'.heap[a.block]? = w.heap[a.block]?) : w'.frozen? a = w.frozen? a := by simp [World.frozen?, h]

section rel
variable {S : Sta} {w0 : World} {ρ : Ren} {h : AH} {w : World}

/-- The cells that a load finds. -/
theorem ld_cells (ro : RoOk S w0) (r : Rel S w0 ρ h w) {a : AA} {n : Nat} {l : List AV} (hl : ldCells S.B h a n = some l) {x : Addr} (hx : AddrR S ρ a x) :
    l.length = n ∧ ∃ cs : List Value, VRs S ρ l cs ∧ (∀ (j : Nat) c, cs[j]? = some c → w.cell? (x.add j) = some c) ∧ (∀ v ∈ l, v.isCell = true) := by
  unfold ldCells at hl
  cases hrow : rowAt S.B h a with
  | none => simp [hrow] at hl
  | some row =>
    simp only [hrow] at hl
    obtain ⟨hlen, hget, hle, hl'⟩ := takeN_some hl
    have key : ∀ j v, l[j]? = some v → v.isCell = true ∧ ∃ c, w.cell? (x.add j) = some c ∧ VR S ρ v c := by
      intro j v hv
      have hj : j < n := by rw [← hlen]; exact (List.getElem?_eq_some_iff.1 hv).1
      rw [hget j hj, List.getElem?_drop] at hv
      unfold rowAt at hrow
      unfold AddrR at hx
      cases hro : a.ro with
      | true =>
        simp only [hro, Option.some.injEq] at hrow hx
        subst hrow; subst hx
        obtain ⟨hcell, c, h1, h2⟩ := ro.at_ _ _ _ hv
        refine ⟨hcell, c, ?_, h2 ρ⟩
        rw [addr_add]
        have hb : (S.ro a.id).block < w0.heap.size := ro.lt _ (by intro e; rw [e] at hv; simp at hv)
        rw [cell_of_heap (a := ⟨(S.ro a.id).block, _, none⟩) (r.old _ hb), Nat.add_assoc]; exact h1
      | false =>
        simp only [hro] at hrow hx
        obtain ⟨lo, hlo, rfl⟩ := hx
        cases hg : h.get a.id with
        | none => simp [hg] at hrow
        | some o =>
          cases o <;> simp [hg] at hrow
          subst hrow
          obtain ⟨l', e1, _, c, e, fz, e2, e3, e4, e5, e6⟩ := r.obj _ _ hg rfl
          rw [hlo] at e1; cases e1
          obtain ⟨hcell, y, e7, e8⟩ := e5 _ v hv
          refine ⟨hcell, y, ?_, e8⟩
          rw [addr_add]
          simp only [World.cell?, e2]
          simpa [Nat.add_assoc] using e7
    refine ⟨hlen, (List.range l.length).map (fun j => (w.cell? (x.add j)).getD undef), ?_, ?_, ?_⟩
    · refine VRs.iff.2 ⟨by simp, fun i v hv => ?_⟩
      obtain ⟨_, c, h1, h2⟩ := key i v hv
      refine ⟨c, ?_, h2⟩
      have hi : i < l.length := (List.getElem?_eq_some_iff.1 hv).1
      simp [hi, h1]
    · intro j c hc
      simp only [List.getElem?_map] at hc
      cases hj : (List.range l.length)[j]? with
      | none => simp [hj] at hc
      | some j' =>
        have hlt : j < l.length := by have := (List.getElem?_eq_some_iff.1 hj).1; simpa using this
        have : j' = j := by simp [hlt] at hj; exact hj.symm
        subst this
        obtain ⟨_, c', h1, _⟩ := key j' _ (List.getElem?_eq_getElem hlt)
        simp only [hj, h1, Option.map_some, Option.getD_some, Option.some.injEq] at hc
        rw [h1, hc]
    · intro v hv
      obtain ⟨j, hj⟩ := List.getElem?_of_mem hv
      exact (key j v hj).1

theorem run_ldCells (ro : RoOk S w0) (r : Rel S w0 ρ h w) {a : AA} {n : Nat} {l : List AV} (hl : ldCells S.B h a n = some l) {x : Addr} (hx : AddrR S ρ a x) :
    ∃ cs : List Value, (loadCells x n).run S.P w = .ok cs.toArray w ∧ VRs S ρ l cs ∧ (∀ v ∈ l, v.isCell = true) := by
  obtain ⟨hlen, cs, h1, h2, h3⟩ := ld_cells ro r hl hx
  refine ⟨cs, ?_, h1, h3⟩
  have := run_loadCells_list (P := S.P) w x cs h2
  rwa [← h1.length, hlen] at this

/-- A variable read. -/
theorem run_ldVar (ro : RoOk S w0) (r : Rel S w0 ρ h w) {t : TypeId} {agg : Bool} {n : Nat} (ht : tvar S.P t = some (agg, n)) {v res : AV} (hl : ldVar S.B agg n v h = some res) {c : Value} (hc : VR S ρ v c) :
    ∃ x y, c = .pointer (some x) ∧ (loadVar t x).run S.P w = .ok y w ∧ VR S ρ res y := by
  unfold ldVar at hl
  cases v <;> simp at hl
  rename_i a
  obtain ⟨x, rfl, hx⟩ := hc
  cases hcs : ldCells S.B h a n with
  | none => simp [hcs] at hl
  | some l =>
    simp only [hcs] at hl
    obtain ⟨cs, h1, h2, h3⟩ := run_ldCells ro r hcs hx
    cases agg with
    | true =>
      simp only [one, Option.some.injEq] at hl
      subst hl
      obtain ⟨ha, hs⟩ := tvar_agg ht
      refine ⟨x, .agg cs.toArray, rfl, ?_, ⟨_, rfl, by simpa using h2⟩⟩
      simp [loadVar, run_agg w ha, run_size w hs, h1]
    | false =>
      obtain ⟨ha, hs, rfl⟩ := tvar_one ht
      unfold one at hl
      split at hl
      · rename_i e; cases e
      · split at hl
        · rename_i u
          cases hl
          cases cs with
          | nil => exact h2.elim
          | cons y cs =>
            refine ⟨x, y, rfl, ?_, h2.1⟩
            obtain ⟨_, cs', _, hcell, _⟩ := ld_cells ro r hcs hx
            have hy : w.cell? x = some y := by
              obtain ⟨_, cs2, q1, q2, _⟩ := ld_cells ro r hcs hx
              have e : (loadCells x 1).run S.P w = .ok cs2.toArray w := by
                have := run_loadCells_list (P := S.P) w x cs2 q2
                rwa [← q1.length] at this
              rw [h1] at e
              have e' : cs2 = y :: cs := by
                have := Result.ok.inj e
                have h0 := congrArg Array.toList this.1
                simpa using h0.symm
              have := q2 0 y (by rw [e']; rfl)
              obtain ⟨bb, oo, sp⟩ := x
              simpa [Addr.add] using this
            simp [loadVar, run_agg w ha, hy]
        · cases hl

/-- A new row of cells. -/
theorem newRow_stp (r : Rel S w0 ρ h w) {cs : List AV} {cells : Array Value} {e : TypeId} (hcell : allCell cs = true) (hcs : VRs S ρ cs cells.toList) (hf : ρ h.next = none) :
    Stp S w0 ρ h w (ρ.put h.next ⟨w.heap.size, 0, cells.size⟩) (h.new (.row cs)) (w.alloc (.cells cells e)) := by
  refine Stp.new r (.row cs) (.cells cells e) ⟨w.heap.size, 0, cells.size⟩ rfl hf rfl rfl rfl ?_
  refine ⟨cells, e, (0, 0), by simp, rfl, by have := hcs.length; simp at this; simp [this], fun j v hv => ?_, fun i _ => by simp⟩
  obtain ⟨c, h1, h2⟩ := hcs.get hv
  refine ⟨(allCell_iff cs).1 hcell v (List.mem_of_getElem? hv), c, by simpa using h1, h2.mono (Ren.sub_put _ hf)⟩

/-- A new row of which the evaluator knows the first cells alone. -/
theorem newRow_stp' (r : Rel S w0 ρ h w) {cs : List AV} {ccs : List Value} {cells : Array Value} {e : TypeId} {fz : Nat × Nat} (hcell : allCell cs = true) (hcs : VRs S ρ cs ccs)
    (hpre : ∀ (j : Nat) c, ccs[j]? = some c → cells[j]? = some c) (hf : ρ h.next = none) (hfz : ∀ i, i < cells.size → ¬ (fz.1 ≤ i ∧ i < fz.2)) :
    Stp S w0 ρ h w (ρ.put h.next ⟨w.heap.size, 0, cells.size⟩) (h.new (.row cs)) (w.alloc (.cells cells e fz)) := by
  have hle : cs.length ≤ cells.size := by
    rcases Nat.lt_or_ge cells.size cs.length with hlt | hge
    · obtain ⟨c, h1⟩ : ∃ c, ccs[cells.size]? = some c := ⟨_, List.getElem?_eq_getElem (by rw [← hcs.length]; exact hlt)⟩
      have := hpre _ _ h1
      simp at this
    · exact hge
  refine Stp.new r (.row cs) (.cells cells e fz) ⟨w.heap.size, 0, cells.size⟩ rfl hf rfl rfl rfl ?_
  refine ⟨cells, e, fz, by simp, rfl, by simpa using hle, fun j v hv => ?_, hfz⟩
  obtain ⟨c, h1, h2⟩ := hcs.get hv
  refine ⟨(allCell_iff cs).1 hcell v (List.mem_of_getElem? hv), c, by simpa using hpre _ _ h1, h2.mono (Ren.sub_put _ hf)⟩
end rel

/-- Cells stored one behind the other. -/
theorem run_storeCells_blk {P : Program} (b o : Nat) (e : TypeId) (fz : Nat × Nat) : ∀ (vs : List Value) (i : Nat) (cur : Array Value) (w : World), w.heap[b]? = some (.cells cur e fz) → o + i + vs.length ≤ cur.size →
    (∀ v ∈ vs, v.oneCell' = true) → (∀ k, o + i ≤ k → k < o + i + vs.length → ¬ (fz.1 ≤ k ∧ k < fz.2)) →
    ∃ cur' w', (storeCells ⟨b, o, none⟩ vs i).run P w = .ok () w' ∧ w'.heap[b]? = some (.cells cur' e fz) ∧ cur'.size = cur.size ∧
      (∀ k, cur'[k]? = if o + i ≤ k ∧ k < o + i + vs.length then vs[k - (o + i)]? else cur[k]?) ∧ (∀ b', b' ≠ b → w'.heap[b']? = w.heap[b']?) ∧ w'.heap.size = w.heap.size ∧ w'.os = w.os ∧ w'.output = w.output := by
  intro vs
  induction vs with
  | nil =>
    intro i cur w hg hl _ _
    exact ⟨cur, w, by simp [storeCells], hg, rfl, fun k => by rw [if_neg (by simp)], fun _ _ => rfl, rfl, rfl, rfl⟩
  | cons v vs ih =>
    intro i cur w hg hl hv hfz
    have hlt : o + i < cur.size := by simp at hl; omega
    have hcell : w.cell? ⟨b, o + i, none⟩ = some cur[o + i] := by simp [World.cell?, hg, hlt]
    have hfrz : w.frozen? ⟨b, o + i, none⟩ = false := by
      simp only [World.frozen?, hg]
      have := hfz (o + i) (Nat.le_refl _) (by simp)
      simp only [Bool.and_eq_false_iff, decide_eq_false_iff_not]
      omega
    have hst := run_store P w ⟨b, o + i, none⟩ v .plain (hv v (by simp))
    rw [hcell] at hst
    simp only [hfrz, Bool.false_eq_true, if_false] at hst
    have hg1 : (w.setCell ⟨b, o + i, none⟩ v).heap[b]? = some (.cells (cur.setIfInBounds (o + i) v) e fz) := by
      simp [World.setCell, Array.getElem?_modify, hg]
    obtain ⟨cur', w', h1, h2, h3, h4, h5, h6, h7, h8⟩ := ih (i + 1) (cur.setIfInBounds (o + i) v) (w.setCell ⟨b, o + i, none⟩ v) hg1 (by simp at hl ⊢; omega) (fun x hx => hv x (by simp [hx]))
      (fun k hk1 hk2 => hfz k (by omega) (by simp at hk2 ⊢; omega))
    refine ⟨cur', w', ?_, h2, by simpa using h3, fun k => ?_, fun b' hb' => ?_, by simpa using h6, h7, h8⟩
    · simp only [storeCells, Sem.run_bind, addr_add, hst, Result.andThen_ok]
      exact h1
    · rw [h4 k]
      by_cases e1 : k = o + i
      · subst e1
        rw [if_neg (by omega), if_pos (by simp), Array.getElem?_setIfInBounds_self_of_lt hlt]
        simp
      · by_cases e2 : o + (i + 1) ≤ k ∧ k < o + (i + 1) + vs.length
        · rw [if_pos e2, if_pos (by simp; omega)]
          have : k - (o + i) = (k - (o + (i + 1))) + 1 := by omega
          rw [this, List.getElem?_cons_succ]
        · rw [if_neg e2, if_neg (by simp; omega), Array.getElem?_setIfInBounds_ne (fun h => e1 h.symm)]
    · rw [h5 b' hb']
      simp only [World.setCell, Array.getElem?_modify]
      simp [Ne.symm hb']

section rel2
variable {S : Sta} {w0 : World} {ρ : Ren} {h : AH} {w : World}

/-- Cells written into one of the heap's rows. -/
theorem put_stp (r : Rel S w0 ρ h w) {id off : Nat} {cs cs' vs : List AV} (hg : h.get id = some (.row cs)) {l : Loc} (hl : ρ id = some l) (hp : putAt cs off vs = some cs') (hcell : ∀ v ∈ vs, v.isCell = true)
    {ccs : List Value} (hvs : VRs S ρ vs ccs) :
    ∃ w', (storeCells ⟨l.b, l.base + off, none⟩ ccs).run S.P w = .ok () w' ∧ Stp S w0 ρ h w ρ (h.put id (.row cs')) w' := by
  obtain ⟨l', e1, e0, c, e, fz, e2, e3, e4, e5, e6⟩ := r.obj _ _ hg rfl
  rw [hl] at e1; cases e1
  obtain ⟨hle, _⟩ := putAt_some hp
  have hlen := hvs.length
  obtain ⟨cur', w', h1, h2, h3, h4, h5, h6, h7, h8⟩ := run_storeCells_blk (P := S.P) l.b (l.base + off) e fz ccs 0 c w e2 (by omega) (fun v hv => by
      obtain ⟨j, hj⟩ := List.getElem?_of_mem hv
      have hj' : j < vs.length := by rw [hlen]; exact (List.getElem?_eq_some_iff.1 hj).1
      obtain ⟨c', q1, q2⟩ := hvs.get (List.getElem?_eq_getElem hj')
      rw [hj] at q1; cases q1
      exact q2.cell (hcell _ (List.getElem_mem hj'))) (fun k hk1 hk2 => e6 k (by omega))
  refine ⟨w', h1, Stp.put r hg rfl hl h5 h6 h7 h8 (fun _ => ?_)⟩
  refine ⟨cur', e, fz, h2, by omega, by rw [putAt_length hp]; exact e4, fun j v hv => ?_, e6⟩
  rw [putAt_get hp j] at hv
  by_cases hj : off ≤ j ∧ j < off + vs.length
  · rw [if_pos hj] at hv
    obtain ⟨c', q1, q2⟩ := hvs.get hv
    refine ⟨hcell _ (List.mem_of_getElem? hv), c', ?_, q2⟩
    rw [h4, if_pos (by omega)]
    rw [show l.base + j - (l.base + off + 0) = j - off by omega]; exact q1
  · rw [if_neg hj] at hv
    obtain ⟨a, x, q1, q2⟩ := e5 j v hv
    refine ⟨a, x, ?_, q2⟩
    rw [h4, if_neg (by omega)]; exact q1
end rel2
end Go.Proofs.YtkahmlbhgahbbaaGreat.Abs
