/- Appends, copies, made slices. -/
import Derived.Test.YtkahmlbhgahbbaaGreatAbsQ
set_option linter.unusedSimpArgs false
set_option linter.unusedVariables false
set_option linter.unusedSectionVars false
set_option linter.constructorNameAsVariable false
namespace Go.Proofs.YtkahmlbhgahbbaaGreat.Abs
section ops
variable {S : Sta} {w0 : World} {ρ : Ren} {h : AH} {w : World}

theorem roomOk_le {n b : Nat} (e : roomOk n b = true) : n * b ≤ 140737488355328 := by simpa [roomOk] using e

theorem zeroCells_size (z : Array Value) (n : Nat) : (Builtin.zeroCells z n).size = n * z.size := by simp [Builtin.zeroCells]

/-- The first cells of an own row. -/
theorem own_first (r : Rel S w0 ρ h w) {a : AA} {cs : List AV} (hro : a.ro = false) (hg : h.get a.id = some (.row cs)) {x : Addr} (ha : AddrR S ρ a x) {n : Nat} (hn : a.off + n = cs.length) :
    ∃ ccs : List Value, (loadCells x n).run S.P w = .ok ccs.toArray w ∧ VRs S ρ (cs.drop a.off) ccs ∧ ccs.length = n := by
  unfold AddrR at ha
  rw [hro] at ha
  obtain ⟨l, h1, rfl⟩ := ha
  obtain ⟨l', e1, _, c, e, fz, e2, e3, e4, e5, e6⟩ := r.obj _ _ hg rfl
  rw [h1] at e1; cases e1
  have key : ∀ j v, (cs.drop a.off)[j]? = some v → ∃ y, w.cell? ((⟨l.b, l.base + a.off, none⟩ : Addr).add j) = some y ∧ VR S ρ v y := by
    intro j v hv
    rw [List.getElem?_drop] at hv
    obtain ⟨_, y, e7, e8⟩ := e5 _ v hv
    refine ⟨y, ?_, e8⟩
    rw [addr_add]
    simp only [World.cell?, e2]
    simpa [Nat.add_assoc] using e7
  have hlen : (cs.drop a.off).length = n := by simp; omega
  let ccs : List Value := (List.range n).map (fun j => (w.cell? ((⟨l.b, l.base + a.off, none⟩ : Addr).add j)).getD undef)
  have hccs : ∀ j, j < n → ∃ y v, ccs[j]? = some y ∧ (cs.drop a.off)[j]? = some v ∧ w.cell? ((⟨l.b, l.base + a.off, none⟩ : Addr).add j) = some y ∧ VR S ρ v y := by
    intro j hj
    obtain ⟨y, q1, q2⟩ := key j _ (List.getElem?_eq_getElem (by omega))
    refine ⟨y, _, ?_, List.getElem?_eq_getElem (by omega), q1, q2⟩
    have q1' := q1
    rw [addr_add] at q1'
    simp [ccs, hj, q1']
  have hcl : ccs.length = n := by simp [ccs]
  refine ⟨ccs, ?_, VRs.iff.2 ⟨by omega, fun i v hv => ?_⟩, hcl⟩
  · have := run_loadCells_list (P := S.P) w ⟨l.b, l.base + a.off, none⟩ ccs (fun j c hc => by
      have hj : j < n := by rw [← hcl]; exact (List.getElem?_eq_some_iff.1 hc).1
      obtain ⟨y, v, q1, _, q3, _⟩ := hccs j hj
      rw [hc] at q1; cases q1; exact q3)
    rwa [hcl] at this
  · have hi : i < n := by rw [← hlen]; exact (List.getElem?_eq_some_iff.1 hv).1
    obtain ⟨y, v', q1, q2, _, q4⟩ := hccs i hi
    rw [hv] at q2; cases q2
    exact ⟨y, q1, q4⟩

theorem allCell_append {a b : List AV} (ha : ∀ v ∈ a, v.isCell = true) (hb : ∀ v ∈ b, v.isCell = true) : allCell (a ++ b) = true :=
  (allCell_iff _).2 fun v hv => by rcases List.mem_append.1 hv with h | h; exact ha v h; exact hb v h

/-- What append asks of its types. -/
structure AppT (P : Program) (t u e : TypeId) (i : TypeInfo) (z : Value) : Prop where
  ht : P.underlying t = some (.slice e)
  hu : P.underlying u = some .string ∨ ∃ e', P.underlying u = some (.slice e')
  hi : P.info? e = some i
  hz : i.zero = some z
  hs : 0 < i.size
  hb : 0 < i.bytes
  hzc : z.cells.size = i.size

theorem run_append_in {P : Program} {t u ty e : TypeId} {i : TypeInfo} {z : Value} (T : AppT P t u e i z) {x : Value} {base : Option Addr} {len cap n : Nat} {new : Array Value} {w : World}
    (hn : (Builtin.lenOf x).run P w = .ok n w) (hnew : (Builtin.firstCells i.size n x).run P w = .ok new w) (hroom : len + n ≤ cap) {w' : World}
    (hst : ∀ a, base = some a → (storeCells (a.add (len * i.size)) new.toList).run P w = .ok () w') (h0 : base = none → w' = w) :
    (Builtin.append_ #[t, u] ty #[.slice base len cap, x]).run P w = .ok (.slice base (len + n) cap) w' := by
  cases base with
  | none =>
    obtain rfl := h0 rfl
    rcases T.hu with hu | ⟨e', hu⟩ <;> simp [Builtin.append_, run_under _ T.ht, run_under _ hu, sizeOf, typeInfo, T.hi, hn, hroom, hnew]
  | some a =>
    have h1 := hst a rfl
    rcases T.hu with hu | ⟨e', hu⟩ <;> simp [Builtin.append_, run_under _ T.ht, run_under _ hu, sizeOf, typeInfo, T.hi, hn, hroom, hnew, h1]

theorem run_append_out {P : Program} {t u ty e : TypeId} {i : TypeInfo} {z : Value} (T : AppT P t u e i z) {x : Value} {base : Option Addr} {len cap n : Nat} {old new : Array Value} {w : World}
    (hn : (Builtin.lenOf x).run P w = .ok n w) (hroom : cap < len + n) (hbytes : (len + n) * i.bytes ≤ 140737488355328)
    (hold : (Builtin.firstCells i.size len (.slice base len cap)).run P w.drew = .ok old w.drew) (hnew : (Builtin.firstCells i.size n x).run P w.drew = .ok new w.drew) :
    ∃ c, len + n ≤ c ∧ (Builtin.append_ #[t, u] ty #[.slice base len cap, x]).run P w = .ok (.slice (some ⟨w.heap.size, 0, none⟩) (len + n) c)
      (w.drew.alloc (.cells (old ++ new ++ Builtin.zeroCells z.cells (c - (len + n))) e)) := by
  have hb := T.hb
  have h1 : ¬ (len + n ≤ cap) := by omega
  have hle : len + n ≤ (len + n) * i.bytes := Nat.le_mul_of_pos_right _ hb
  have h63 : ¬ (9223372036854775807 < ((len : Int) + (n : Int))) := by omega
  have h48 : ¬ (281474976710656 < Builtin.nextslicecap (len + n) cap * i.bytes) := by have := growslice_fits (bytes := i.bytes) hroom hbytes; omega
  have hb0 : i.bytes ≠ 0 := by omega
  refine ⟨(Question.appendCap (len + n) cap e).cut (w.tape w.drawn (.appendCap (len + n) cap e)), ?_, ?_⟩
  · simp [Question.cut]
  · rcases T.hu with hu | ⟨e', hu⟩ <;>
      simp [Builtin.append_, run_under _ T.ht, run_under _ hu, sizeOf, typeInfo, zeroValue, T.hi, T.hz, hn, h1, h63, h48, hb0, Question.forced, hold, hnew, Go.newRow]

theorem Rel.drew (r : Rel S w0 ρ h w) : Rel S w0 ρ h w.drew := r.same rfl rfl rfl

theorem append_sound (ro : RoOk S w0) (r : Rel S w0 ρ h w) {esz bytes : Nat} {s x v : AV} {h' : AH} (ha : aAppend S.B esz bytes s x h = .val v h') (hf : Free ρ h.next h'.next)
    {t u ty e : TypeId} {i : TypeInfo} {z : Value} (T : AppT S.P t u e i z) (hes : i.size = esz) (heb : i.bytes = bytes) {cs cx : Value} (hs : VR S ρ s cs) (hx : VR S ρ x cx) :
    ∃ ρ' w' c, Stp S w0 ρ h w ρ' h' w' ∧ VR S ρ' v c ∧ (Builtin.append_ #[t, u] ty #[cs, cx]).run S.P w = .ok c w' := by
  subst hes; subst heb
  unfold aAppend at ha
  cases hsrc : srcOf S.B h i.size x with
  | none => simp [hsrc] at ha
  | some nx =>
    obtain ⟨n, xs⟩ := nx
    simp only [hsrc] at ha
    obtain ⟨hlen, hxl, hxc, ccs, hvs, hfirst⟩ := srcOf_sound ro r hsrc hx
    obtain ⟨_, _, _, ccs', hvs', hfirst'⟩ := srcOf_sound ro r.drew hsrc hx
    have hlen' : ∀ w, (Builtin.lenOf cx).run S.P w = .ok n w := by
      intro w1
      cases cx <;> simp [Builtin.lenOf] at hlen ⊢ <;> exact hlen
    have hnew := hfirst n (Nat.le_refl _)
    have hnew' := hfirst' n (Nat.le_refl _)
    have ht : ccs.take (n * i.size) = ccs := List.take_of_length_le (by rw [← hvs.length, hxl]; exact Nat.le_refl _)
    have ht' : ccs'.take (n * i.size) = ccs' := List.take_of_length_le (by rw [← hvs'.length, hxl]; exact Nat.le_refl _)
    rw [ht] at hnew
    rw [ht'] at hnew'
    cases n with
    | zero =>
      have hxs : xs = [] := List.eq_nil_of_length_eq_zero (by simpa using hxl)
      subst hxs
      have hc0 : ccs = [] := List.eq_nil_of_length_eq_zero (by rw [← hvs.length]; rfl)
      subst hc0
      simp only at ha
      split at ha
      · cases ha
        simp only [VR] at hs; subst hs
        exact ⟨ρ, w, .slice none 0 0, Stp.refl r, rfl, by simpa using run_append_in T (base := none) (len := 0) (cap := 0) hlen hnew (Nat.le_refl _) (fun a e => by cases e) (fun _ => rfl)⟩
      · rename_i a len e0
        cases ha
        obtain ⟨xa, cap, rfl, hsl⟩ := hs
        refine ⟨ρ, w, .slice (some xa) len cap, Stp.refl r, ⟨xa, cap, rfl, hsl⟩, ?_⟩
        have hle : len ≤ cap := by rcases hsl with ⟨h1, h2⟩ | ⟨_, h2, _⟩ <;> omega
        have := run_append_in T (ty := ty) (base := some xa) (len := len) (cap := cap) hlen hnew (by simpa using hle) (w' := w) (fun a e => by simp [storeCells]) (fun e => by cases e)
        simpa using this
      · cases ha
    | succ n =>
      simp only at ha
      split at ha
      · -- nil
        split at ha
        · cases ha
        · rename_i hroom
          obtain ⟨hcell, rfl, rfl⟩ := newRow_val ha
          simp only [VR] at hs; subst hs
          have hbytes := roomOk_le hroom
          obtain ⟨c, hc1, hc2⟩ := run_append_out T (ty := ty) (base := none) (len := 0) (cap := 0) (old := #[]) (hlen' w) (by omega) (by simpa using hbytes) (by simp [Builtin.firstCells]) hnew'
          have hfr : ρ h.next = none := hf _ (Nat.le_refl _) (by simp)
          have hst := newRow_stp' r.drew (e := e) (fz := (0, 0)) (cells := #[] ++ ccs'.toArray ++ Builtin.zeroCells z.cells (c - (0 + (n + 1)))) hcell hvs' (fun j c hc => by
            have hj : j < ccs'.length := (List.getElem?_eq_some_iff.1 hc).1
            rw [Array.getElem?_append_left (by simpa using hj)]; simpa using hc) hfr (fun i _ => by simp)
          simp only [Nat.zero_add] at hc1 hc2 hst
          refine ⟨_, _, _, (Stp.same (w' := w.drew) r rfl rfl rfl).trans hst, ⟨_, c, rfl, .inr ⟨⟨_, Ren.put_same _ _ _, rfl⟩, by omega, fun _ l hl => ?_⟩⟩, hc2⟩
          · rw [Ren.put_same] at hl; cases hl
            have hl5 := hvs'.length
            simp only [Array.size_append, List.size_toArray, zeroCells_size, T.hzc]
            have : ccs'.length = (n + 1) * i.size := by rw [← hl5, hxl]
            rw [List.length_nil, this, Nat.zero_add, Nat.zero_add, ← Nat.add_mul]
            exact Nat.mul_le_mul_right _ (by omega)
      · rename_i a len e0
        split at ha
        · cases ha
        · rename_i he
          have := Nat.eq_of_beq_eq_true he
          subst this
          split at ha
          · cases ha
          · rename_i hroom
            split at ha
            · cases ha
            · rename_i hro
              split at ha
              · rename_i row hg
                split at ha
                · cases ha
                · rename_i hend
                  have hend' : a.off + len * i.size = row.length := Nat.eq_of_beq_eq_true hend
                  obtain ⟨hcell, rfl, rfl⟩ := newRow_val ha
                  obtain ⟨xa, cap, rfl, hsl⟩ := hs
                  have hbytes := roomOk_le hroom
                  have hfr : ρ h.next = none := hf _ (Nat.le_refl _) (by simp)
                  have hl5 := hvs.length
                  obtain ⟨l, hl1, hl2, c0, e0', fz, e2, e3, e4, e5, e6⟩ := r.obj _ _ hg rfl
                  by_cases hcap : len + (n + 1) ≤ cap
                  · -- in place
                    rcases hsl with ⟨h1, h2⟩ | ⟨hadr, hle, htot⟩
                    · omega
                    · have htot' := htot hro l hl1
                      have hadr' := hadr
                      unfold AddrR at hadr'
                      rw [hro] at hadr'
                      obtain ⟨l', hl3, rfl⟩ := hadr'
                      rw [hl1] at hl3; cases hl3
                      have hfit : len * i.size + (n + 1) * i.size ≤ cap * i.size := by rw [← Nat.add_mul]; exact Nat.mul_le_mul_right _ hcap
                      obtain ⟨cur', w', q1, q2, q3, q4, q5, q6, q7, q8⟩ := run_storeCells_blk (P := S.P) l.b (l.base + a.off + len * i.size) e0' fz ccs 0 c0 w e2 (by omega) (fun v hv => by
                          obtain ⟨j, hj⟩ := List.getElem?_of_mem hv
                          have hj' : j < xs.length := by rw [hl5]; exact (List.getElem?_eq_some_iff.1 hj).1
                          obtain ⟨c', z1, z2⟩ := hvs.get (List.getElem?_eq_getElem hj')
                          rw [hj] at z1; cases z1
                          exact z2.cell (hxc _ (List.getElem_mem hj'))) (fun k hk1 hk2 => e6 k (by omega))
                      have hst := Stp.move (w' := w') (o' := .row (row.drop a.off ++ xs)) (l' := ⟨l.b, l.base + a.off, l.tot⟩) r hg rfl hl1 hfr rfl q5 q6 q7 q8 (by
                        refine ⟨cur', e0', fz, q2, by show cur'.size = l.tot; omega, by simp only [List.length_append, List.length_drop]; show l.base + a.off + (row.length - a.off + xs.length) ≤ l.tot; omega, fun j v hv => ?_, e6⟩
                        have hsub := Ren.sub_put (⟨l.b, l.base + a.off, l.tot⟩ : Loc) hfr
                        by_cases hj : j < (row.drop a.off).length
                        · rw [List.getElem?_append_left hj, List.getElem?_drop] at hv
                          obtain ⟨b1, y, b2, b3⟩ := e5 _ v hv
                          refine ⟨b1, y, ?_, b3.mono hsub⟩
                          simp only [List.length_drop] at hj
                          show cur'[l.base + a.off + j]? = some y
                          rw [q4, if_neg (by omega)]
                          rw [show l.base + a.off + j = l.base + (a.off + j) by omega]; exact b2
                        · rw [List.getElem?_append_right (by omega)] at hv
                          obtain ⟨y, b2, b3⟩ := hvs.get hv
                          have hjx : j - (row.drop a.off).length < xs.length := (List.getElem?_eq_some_iff.1 hv).1
                          simp only [List.length_drop] at hj hjx b2
                          refine ⟨hxc _ (List.mem_of_getElem? hv), y, ?_, b3.mono hsub⟩
                          show cur'[l.base + a.off + j]? = some y
                          rw [q4, if_pos (by omega)]
                          rw [show l.base + a.off + j - (l.base + a.off + len * i.size + 0) = j - (row.length - a.off) by omega]; exact b2)
                      refine ⟨_, w', _, hst, ⟨⟨l.b, l.base + a.off, none⟩, cap, rfl, .inr ⟨⟨_, Ren.put_same _ _ _, by simp⟩, hcap, fun _ l' hl' => ?_⟩⟩, ?_⟩
                      · have e9 := (Ren.put_same ρ h.next _).symm.trans hl'; cases e9; simpa using htot'
                      · exact run_append_in T hlen hnew hcap (fun a' ea => by cases ea; rw [addr_add]; simpa using q1) (fun ea => by cases ea)
                  · -- a new row
                    have hold : ∃ ocs : List Value, (Builtin.firstCells i.size len (.slice (some xa) len cap)).run S.P w.drew = .ok ocs.toArray w.drew ∧ VRs S ρ (row.drop a.off) ocs ∧ ocs.length = len * i.size := by
                      rcases hsl with ⟨h1, h2⟩ | ⟨hadr, hle, htot⟩
                      · subst h1
                        rw [Nat.zero_mul] at hend' ⊢
                        refine ⟨[], by simp [Builtin.firstCells, loadCells, loadCellsFrom], ?_, rfl⟩
                        rw [List.drop_of_length_le (by omega)]; trivial
                      · obtain ⟨ocs, o1, o2, o3⟩ := own_first r.drew hro hg hadr hend'
                        exact ⟨ocs, by simpa [Builtin.firstCells] using o1, o2, o3⟩
                    obtain ⟨ocs, o1, o2, o3⟩ := hold
                    obtain ⟨c, hc1, hc2⟩ := run_append_out T (ty := ty) (hlen' w) (by omega) hbytes o1 hnew'
                    have hkill : Stp S w0 ρ h w.drew ρ (h.put a.id .dead) w.drew := Stp.put r.drew hg rfl hl1 (fun _ _ => rfl) rfl rfl rfl (fun e => by simp [AObj.live] at e)
                    have hst := newRow_stp' hkill.rel (e := e) (fz := (0, 0)) (cells := ocs.toArray ++ ccs'.toArray ++ Builtin.zeroCells z.cells (c - (len + (n + 1)))) hcell (o2.append hvs') (fun j c hc => by
                      have hj : j < (ocs ++ ccs').length := (List.getElem?_eq_some_iff.1 hc).1
                      rw [Array.getElem?_append_left (by simpa using hj)]
                      rw [← Array.getElem?_toList, Array.toList_append]; exact hc) (by simpa using hfr) (fun i _ => by simp)
                    refine ⟨_, _, _, ((Stp.same (w' := w.drew) r rfl rfl rfl).trans hkill).trans hst, ⟨_, c, rfl, .inr ⟨⟨_, Ren.put_same _ _ _, rfl⟩, by omega, fun _ l hl => ?_⟩⟩, hc2⟩
                    have e9 := (Ren.put_same ρ h.next _).symm.trans hl; cases e9
                    have hl6 := hvs'.length
                    simp only [Array.size_append, List.size_toArray, zeroCells_size, T.hzc]
                    have : ccs'.length = (n + 1) * i.size := by rw [← hl6, hxl]
                    rw [o3, this, Nat.zero_add, ← Nat.add_mul, ← Nat.add_mul]
                    exact Nat.mul_le_mul_right _ (by omega)
              · cases ha
      · cases ha
end ops
end Go.Proofs.YtkahmlbhgahbbaaGreat.Abs
