/- Slices, appends, copies, literals. -/
import Derived.Test.YtkahmlbhgahbbaaGreatAbsP
set_option linter.unusedSimpArgs false
set_option linter.unusedVariables false
set_option linter.unusedSectionVars false
set_option linter.constructorNameAsVariable false
namespace Go.Proofs.YtkahmlbhgahbbaaGreat.Abs
section ops
variable {S : Sta} {w0 : World} {ρ : Ren} {h : AH} {w : World}

theorem VR.cells_length {v : AV} {c : Value} (hv : VR S ρ v c) : v.cells.length = c.cells.size := by
  cases hcell : v.isCell with
  | true =>
    have e4 : v.cells = [v] := by cases v <;> first | rfl | simp [AV.isCell] at hcell
    rw [e4, cells_one (hv.cell hcell)]; rfl
  | false =>
    cases v <;> simp [AV.isCell] at hcell
    · obtain ⟨y, rfl, hys⟩ := hv; simpa [AV.cells, Value.cells] using hys.length
    · obtain ⟨y, rfl, hys⟩ := hv; rfl

theorem asIdx_some {v : AV} {n m : Nat} (e : asIdx v n = some m) {c : Value} (hc : VR S ρ v c) : m < n ∧ ∃ k, c = .int k (m : Int) := by
  unfold asIdx at e
  split at e
  · split at e
    · split at e <;> cases e
      rename_i hb
      simp only [VR] at hc
      exact ⟨by simpa [Nat.blt_eq] using hb, _, hc⟩
    · cases e
  · cases e

theorem asBound_some {v : AV} {n m : Nat} (e : asBound v n = some m) {c : Value} (hc : VR S ρ v c) : m ≤ n ∧ ∃ k, c = .int k (m : Int) := by
  unfold asBound at e
  split at e
  · split at e
    · split at e <;> cases e
      rename_i hb
      simp only [VR] at hc
      exact ⟨by simpa using hb, _, hc⟩
    · cases e
  · cases e

/-- An operand that may be left out. -/
def VRo (S : Sta) (ρ : Ren) : Option AV → Option Value → Prop
  | none, none => True
  | some v, some c => VR S ρ v c
  | _, _ => False

theorem rdo_VR {nt : Nat} {env : Tr AV} {a : Act} (henv : EnvR S ρ nt env a.tmps) {x : Option Operand} {ao : Option AO} (hc : cAOo x = some ao) {v : Option AV} (hr : rdo env ao = some v) : VRo S ρ v (x.map a.eval) := by
  cases x with
  | none => simp only [cAOo, Option.some.injEq] at hc; subst hc; simp only [rdo, Option.some.injEq] at hr; subst hr; trivial
  | some x =>
    simp only [cAOo] at hc
    cases hx : cAO x with
    | none => simp [hx] at hc
    | some y =>
      simp only [hx, Option.some.injEq] at hc; subst hc
      simp only [rdo] at hr
      cases hy : rd env y with
      | none => simp [hy] at hr
      | some u => simp only [hy, Option.some.injEq] at hr; subst hr; exact rd_VR henv hx hy

theorem run_bound {v : AV} {n m : Nat} (e : asBound v n = some m) {c : Value} (hc : VR S ρ v c) {y : Nat} (hy : n ≤ y) (code : BoundsCode) : (Instr.sliceBound c y code).run S.P w = .ok m w := by
  obtain ⟨h1, k, rfl⟩ := asBound_some e hc
  simp only [Instr.sliceBound, asIntOf, Sem.run_bind, Sem.run_pure, Result.andThen_ok]
  rw [if_pos ⟨by omega, by omega⟩]
  simp

theorem bounds_sound {n : Nat} {lo hi mx : Option AV} {l h' m : Nat} (e : bounds n lo hi mx = some (l, h', m)) {clo chi cmx : Option Value} (hlo : VRo S ρ lo clo) (hhi : VRo S ρ hi chi) (hmx : VRo S ρ mx cmx) (b : Bool) {cap : Nat} (hcap : n ≤ cap) :
    l ≤ h' ∧ h' ≤ n ∧ ∃ m', (Instr.sliceBounds b n cap clo chi cmx).run S.P w = .ok (l, h', m') w ∧ h' ≤ m' ∧ m' ≤ cap := by
  unfold bounds at e
  cases mx with
  | none =>
    cases cmx with
    | some _ => exact hmx.elim
    | none =>
      simp only at e
      cases hi with
      | none =>
        cases chi with
        | some _ => exact hhi.elim
        | none =>
          simp only at e
          cases lo with
          | none =>
            cases clo with
            | some _ => exact hlo.elim
            | none =>
              simp only [Option.some.injEq, Prod.mk.injEq] at e
              obtain ⟨rfl, rfl, rfl⟩ := e
              exact ⟨Nat.zero_le _, Nat.le_refl _, cap, by simp [Instr.sliceBounds], hcap, Nat.le_refl _⟩
          | some lv =>
            cases clo with
            | none => exact hlo.elim
            | some lc =>
              simp only at e
              cases hb : asBound lv n with
              | none => simp [hb] at e
              | some l0 =>
                simp only [hb, Option.some.injEq, Prod.mk.injEq] at e
                obtain ⟨rfl, rfl, rfl⟩ := e
                exact ⟨(asBound_some hb hlo).1, Nat.le_refl _, cap, by simp [Instr.sliceBounds, run_bound hb hlo (Nat.le_refl _)], hcap, Nat.le_refl _⟩
      | some hv =>
        cases chi with
        | none => exact hhi.elim
        | some hc =>
          simp only at e
          cases hbh : asBound hv n with
          | none => simp [hbh] at e
          | some h0 =>
            simp only [hbh] at e
            have hh := (asBound_some hbh hhi).1
            cases lo with
            | none =>
              cases clo with
              | some _ => exact hlo.elim
              | none =>
                simp only [Option.some.injEq, Prod.mk.injEq] at e
                obtain ⟨rfl, rfl, rfl⟩ := e
                exact ⟨Nat.zero_le _, hh, cap, by simp [Instr.sliceBounds, run_bound hbh hhi hcap], by omega, Nat.le_refl _⟩
            | some lv =>
              cases clo with
              | none => exact hlo.elim
              | some lc =>
                simp only at e
                cases hb : asBound lv h0 with
                | none => simp [hb] at e
                | some l0 =>
                  simp only [hb, Option.some.injEq, Prod.mk.injEq] at e
                  obtain ⟨rfl, rfl, rfl⟩ := e
                  exact ⟨(asBound_some hb hlo).1, hh, cap, by simp [Instr.sliceBounds, run_bound hbh hhi hcap, run_bound hb hlo (Nat.le_refl _)], by omega, Nat.le_refl _⟩
  | some mv =>
    cases cmx with
    | none => exact hmx.elim
    | some mc =>
      simp only at e
      cases hbm : asBound mv n with
      | none => simp [hbm] at e
      | some m0 =>
        simp only [hbm] at e
        have hm := (asBound_some hbm hmx).1
        cases hi with
        | none => simp at e
        | some hv =>
          cases chi with
          | none => exact hhi.elim
          | some hc =>
            simp only at e
            cases hbh : asBound hv m0 with
            | none => simp [hbh] at e
            | some h0 =>
              simp only [hbh] at e
              have hh := (asBound_some hbh hhi).1
              cases lo with
              | none =>
                cases clo with
                | some _ => exact hlo.elim
                | none =>
                  simp only [Option.some.injEq, Prod.mk.injEq] at e
                  obtain ⟨rfl, rfl, rfl⟩ := e
                  exact ⟨Nat.zero_le _, by omega, m0, by simp [Instr.sliceBounds, run_bound hbm hmx hcap, run_bound hbh hhi (Nat.le_refl _)], hh, by omega⟩
              | some lv =>
                cases clo with
                | none => exact hlo.elim
                | some lc =>
                  simp only at e
                  cases hb : asBound lv h0 with
                  | none => simp [hb] at e
                  | some l0 =>
                    simp only [hb, Option.some.injEq, Prod.mk.injEq] at e
                    obtain ⟨rfl, rfl, rfl⟩ := e
                    exact ⟨(asBound_some hb hlo).1, by omega, m0, by simp [Instr.sliceBounds, run_bound hbm hmx hcap, run_bound hbh hhi (Nat.le_refl _), run_bound hb hlo (Nat.le_refl _)], hh, by omega⟩

/-- A text's bytes as cells. -/
theorem cellsOfStr_VRs (l : List UInt8) : VRs S ρ (cellsOfStr (byteL l)) (l.map fun b => .int .u8 (b.toNat : Int)) := by
  induction l with
  | nil => trivial
  | cons a l ih => exact ⟨rfl, ih⟩
theorem cellsOfStr_length (l : List Nat) : (cellsOfStr l).length = l.length := by induction l <;> simp_all [cellsOfStr]
theorem cellsOfStr_cell (l : List Nat) : ∀ v ∈ cellsOfStr l, v.isCell = true := by
  induction l with
  | nil => simp [cellsOfStr]
  | cons a l ih => intro v hv; simp [cellsOfStr] at hv; rcases hv with rfl | hv; · rfl
                   exact ih v hv

/-- What is appended or copied. -/
theorem srcOf_sound (ro : RoOk S w0) (r : Rel S w0 ρ h w) {esz : Nat} {x : AV} {n : Nat} {xs : List AV} (e : srcOf S.B h esz x = some (n, xs)) {cx : Value} (hx : VR S ρ x cx) :
    (Builtin.lenOf cx).run S.P w = .ok n w ∧ xs.length = n * esz ∧ (∀ v ∈ xs, v.isCell = true) ∧ ∃ cs : List Value, VRs S ρ xs cs ∧ ∀ k, k ≤ n → (Builtin.firstCells esz k cx).run S.P w = .ok (cs.take (k * esz)).toArray w := by
  unfold srcOf at e
  split at e
  · cases e
    simp only [VR] at hx; subst hx
    refine ⟨rfl, by simp, by simp, [], trivial, fun k hk => ?_⟩
    simp [Builtin.firstCells]
  · rename_i a len e'
    split at e
    · cases e
    · rename_i he
      have := Nat.eq_of_beq_eq_true he; subst this
      obtain ⟨x, cap, rfl, hsl⟩ := hx
      by_cases hz : len = 0
      · subst hz
        have : (n, xs) = (0, []) := by
          split at e
          · rename_i cs hcs
            cases e
            rw [Nat.zero_mul] at hcs
            obtain ⟨h1, _⟩ := ld_len hcs
            rw [List.length_eq_zero_iff.1 h1]
          · cases e; rfl
        cases this
        refine ⟨rfl, by simp, by simp, [], trivial, fun k hk => ?_⟩
        have : k = 0 := by omega
        subst this
        simp [Builtin.firstCells, loadCells, loadCellsFrom]
      · rcases hsl with ⟨h0, _⟩ | ⟨ha, _, _⟩
        · exact absurd h0 hz
        · split at e
          · rename_i cs hcs
            cases e
            obtain ⟨hlen, ccs, h1, h2, h3⟩ := ld_cells ro r hcs ha
            refine ⟨rfl, hlen, h3, ccs, h1, fun k hk => ?_⟩
            have hl2 := h1.length
            have := run_loadCells_list (P := S.P) w x (ccs.take (k * e')) (fun j c hc => h2 j c (by
              rw [List.getElem?_take] at hc; split at hc <;> first | exact hc | cases hc))
            simp only [Builtin.firstCells]
            have hle : (ccs.take (k * e')).length = k * e' := by
              have : k * e' ≤ n * e' := Nat.mul_le_mul_right _ hk
              simp; omega
            rwa [hle] at this
          · split at e
            · exact absurd rfl hz
            · cases e
  · rename_i s
    split at e
    · cases e
    · rename_i he
      have := Nat.eq_of_beq_eq_true he; subst this
      cases e
      obtain ⟨b, rfl, hb⟩ := hx
      refine ⟨?_, by simp [cellsOfStr_length], cellsOfStr_cell s, (b.data.toList.map fun b => .int .u8 (b.toNat : Int)), by rw [← hb]; exact cellsOfStr_VRs _, fun k hk => ?_⟩
      · simp only [Builtin.lenOf, Sem.run_pure]
        congr 1
        rw [← hb, byteL_length, Array.length_toList]; rfl
      · simp only [Builtin.firstCells, Sem.run_pure, Nat.mul_one]
        congr 1
        apply Array.ext'
        simp [ByteArray.data_extract, Array.toList_extract, List.extract_eq_take_drop]
  · cases e
where
  ld_len {a : AA} {n : Nat} {l : List AV} (hl : ldCells S.B h a n = some l) : l.length = n ∧ True := by
    unfold ldCells at hl
    split at hl
    · exact ⟨(takeN_some hl).1, trivial⟩
    · cases hl

/-- An object gives its block to a new one. -/
theorem Stp.move {w' : World} (r : Rel S w0 ρ h w) {id : Nat} {o o' : AObj} {l l' : Loc} (hg : h.get id = some o) (hlive : o.live = true) (hl : ρ id = some l) (hf : ρ h.next = none) (hb : l'.b = l.b)
    (keep : ∀ b, b ≠ l.b → w'.heap[b]? = w.heap[b]?) (hs : w'.heap.size = w.heap.size) (ho : w'.os = w.os) (hp : w'.output = w.output)
    (hr : ObjR S (ρ.put h.next l') o' w'.heap l') : Stp S w0 ρ h w (ρ.put h.next l') ((h.put id .dead).new o') w' := by
  have hsub := Ren.sub_put l' hf
  obtain ⟨l0, h1, h2, h3⟩ := r.obj id o hg hlive
  rw [hl] at h1; cases h1
  have hid : id ≠ h.next := Nat.ne_of_lt (r.dom _ _ hg)
  have own_ne : ∀ {j x lj}, h.get j = some x → x.live = true → ρ j = some lj → j ≠ id → lj.b ≠ l.b := fun hj hjl hlj hne hb => hne (r.inj _ _ _ _ _ _ hj hjl hg hlive hlj hl hb)
  have get_ne : ∀ {j x}, j ≠ h.next → ((h.put id .dead).new o').get j = some x → x.live = true → h.get j = some x ∧ j ≠ id := by
    intro j x hj hx hlv
    rw [AH.get_new_ne _ _ (by simpa using hj)] at hx
    by_cases e : j = id
    · subst e; rw [AH.get_put_same] at hx; cases hx; simp [AObj.live] at hlv
    · rw [AH.get_put_ne _ _ e] at hx; exact ⟨hx, e⟩
  have new_same : ((h.put id .dead).new o').get h.next = some o' := by have := AH.get_new_same (h.put id .dead) o'; simpa using this
  refine ⟨fun j hj => Ren.put_ne _ _ (by simp at hj; omega), by simp, ⟨fun j x hx => ?_, fun j x hx hlv => ?_, ?_, fun b hb' => ?_, by rw [hs]; exact r.size, ho.trans r.os, hp.trans r.output⟩,
    fun b hb' hno => keep b fun e => hno ⟨id, o, l, hg, hlive, hl, e.symm⟩, by rw [hs]; exact Nat.le_refl _, ?_⟩
  · by_cases e : j = h.next
    · subst e; simp
    · rw [AH.get_new_ne _ _ (by simpa using e)] at hx
      by_cases e2 : j = id
      · subst e2; have := r.dom _ _ hg; simp; omega
      · rw [AH.get_put_ne _ _ e2] at hx; have := r.dom _ _ hx; simp; omega
  · by_cases e : j = h.next
    · subst e
      rw [new_same] at hx; cases hx
      exact ⟨l', Ren.put_same _ _ _, by rw [hb]; exact h2, hr⟩
    · obtain ⟨hx, e2⟩ := get_ne e hx hlv
      obtain ⟨lj, a1, a2, a3⟩ := r.obj j x hx hlv
      exact ⟨lj, hsub _ _ a1, a2, (a3.mono hsub).heap (keep _ (own_ne hx hlv a1 e2))⟩
  · intro i j oi oj li lj hi hil hj hjl hli hlj hbb
    by_cases ei : i = h.next
    · by_cases ej : j = h.next
      · rw [ei, ej]
      · exfalso
        obtain ⟨hj, e2⟩ := get_ne ej hj hjl
        rw [Ren.put_ne _ _ ej] at hlj
        subst ei; rw [Ren.put_same] at hli; cases hli
        exact own_ne hj hjl hlj e2 (by omega)
    · obtain ⟨hi, e1⟩ := get_ne ei hi hil
      rw [Ren.put_ne _ _ ei] at hli
      by_cases ej : j = h.next
      · exfalso
        subst ej; rw [Ren.put_same] at hlj; cases hlj
        exact own_ne hi hil hli e1 (by omega)
      · obtain ⟨hj, e2⟩ := get_ne ej hj hjl
        rw [Ren.put_ne _ _ ej] at hlj
        exact r.inj i j oi oj li lj hi hil hj hjl hli hlj hbb
  · rw [keep b (by omega)]; exact r.old b hb'
  · rintro b ⟨j, x, lj, hx, hlv, hlj, rfl⟩
    by_cases e : j = h.next
    · subst e; rw [Ren.put_same] at hlj; cases hlj; exact .inl ⟨id, o, l, hg, hlive, hl, hb.symm⟩
    · obtain ⟨hx, e2⟩ := get_ne e hx hlv
      rw [Ren.put_ne _ _ e] at hlj
      exact .inl ⟨j, x, lj, hx, hlv, hlj, rfl⟩
end ops
end Go.Proofs.YtkahmlbhgahbbaaGreat.Abs
