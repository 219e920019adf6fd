/- From the logic to a row: the arguments, the table, the law. -/
import Derived.Test.YtdcbglljljfleaaAbsI
import Derived.Test.YtdcbglljljfleaaAbsL3
set_option linter.unusedSimpArgs false
set_option linter.unusedVariables false
set_option linter.unusedSectionVars false
set_option linter.constructorNameAsVariable false
namespace Go.Proofs.Ytdcbglljljfleaa.Abs
open Go.ChangeShapes Go.WideShapes Go.ChangeAt Go.RowKit
def ArgIs (P : Program) (B : Nat → List AV) : List TypeId → List AV → Prop
 | [], [] => True
 | t :: ts, a :: as => (∃ n cs, Is P B n t cs ∧ (match (shapeOf P t).1 with | true => a = .agg cs | false => cs = [a])) ∧ ArgIs P B ts as
 | _, _ => False
theorem args_of_trod {H : Type} {enc : TypeId × Value → H} {P : Program} {W : World} {r : Reach} {base : Nat} {l : List Nat} (hcl : closedB P l = true) : ∀ {ts : List TypeId} {vs : List Value} {ds : List (DataW H)} {ps : List MemPlace},
  DataW.TrodAll enc P W 0 (fun _ => true) true ts vs ds ps → (∀ t, t ∈ ts → t ∈ l) → (∀ (j : Nat) t v, ts[j]? = some t → vs[j]? = some v → Value.okWide P W r base t v) → (∀ w, w ∈ DataW.weightsEach P ts ds → w ≤ reachBytes) → ∀ tbl, TOk P W tbl →
   ∃ (ext : TB) (as : List AV), TOk P W (tbl ++ ext) ∧ ∀ ext2, VRs (tSta P (tbl ++ ext ++ ext2)) (fun _ => none) as vs ∧ ArgIs P (tB (tbl ++ ext ++ ext2)) ts as := by
 intro ts
 induction ts with
 | nil =>
  intro vs ds ps h _ _ _ tbl ok
  obtain ⟨rfl, rfl, rfl⟩ := trodAll_nil h
  exact ⟨[], [], by simpa using ok, fun _ => ⟨trivial, trivial⟩⟩
 | cons t ts ih =>
  intro vs ds ps h hl hv hwt tbl ok
  obtain ⟨v, vs, d, ds, p, q, rfl, rfl, rfl, ⟨n, h1⟩, h2⟩ := trodAll_cons h
  obtain ⟨e1, a1, ok1, fit1⟩ := reads_trod hcl n t _ _ (hl t (by simp)) h1 (fun w hw => hwt w (by simp only [DataW.weightsEach, List.mem_append]; exact .inl hw)) tbl ok
  obtain ⟨e2, as, ok2, hr⟩ := ih h2 (fun t ht => hl t (by simp [ht])) (fun j t v h1 h2 => hv (j + 1) t v (by simpa using h1) (by simpa using h2)) (fun w hw => hwt w (by simp only [DataW.weightsEach, List.mem_append]; exact .inr hw)) _ ok1
  have hf := argsFit_of (P := P) (W := W) (r := r) (base := base) (ts := [t]) (vs := [v]) rfl fun j u x k1 k2 => by
   cases j with
   | zero => cases k1; cases k2; exact hv 0 t v rfl rfl
   | succ j => cases k1
  have fit1' := fit1.ext e2
  simp only [List.map_cons, List.map_nil] at hf
  cases hs : shapeOf P t with
  | mk b m =>
   rw [hs] at hf
   cases b with
   | true =>
    obtain ⟨⟨cs, rfl, _, _⟩, _⟩ := hf
    refine ⟨e1 ++ e2, .agg a1 :: as, by rw [← List.append_assoc]; exact ok2, fun ext2 => ?_⟩
    obtain ⟨k1, k2⟩ := hr ext2
    rw [← List.append_assoc tbl]
    refine ⟨⟨⟨cs, rfl, ?_⟩, k1⟩, ⟨n, a1, fit1'.is ext2, by rw [hs]⟩, k2⟩
    exact fit1'.vr ext2 _
   | false =>
    obtain ⟨hone, _⟩ := hf
    have hc1 : v.cells.toList = [v] := by cases v <;> first | rfl | cases hone
    rw [hc1] at fit1'
    obtain ⟨a, rfl⟩ : ∃ a, a1 = [a] := by
     have := fit1'.len
     match a1, this with
     | [a], _ => exact ⟨a, rfl⟩
    refine ⟨e1 ++ e2, a :: as, by rw [← List.append_assoc]; exact ok2, fun ext2 => ?_⟩
    obtain ⟨k1, k2⟩ := hr ext2
    rw [← List.append_assoc tbl]
    exact ⟨⟨(fit1'.vr ext2 _).1, k1⟩, ⟨n, [a], fit1'.is ext2, by rw [hs]⟩, k2⟩
/-! ### The table -/
theorem TabS.e (S : Sta) (w0 : World) : TabS S w0 .e := fun f fi h => by simp at h
theorem TabS.set {S : Sta} {w0 : World} {T : Tr FnI} (h : TabS S w0 T) {f : Nat} {fi : FnI} (hf : compFn S.P f = some fi) : TabS S w0 (T.set f fi) := by
 intro g gi hg
 by_cases e : g = f
 ·subst e; rw [Tr.get_set_same] at hg; cases hg; exact .inl hf
 ·rw [Tr.get_set_ne _ _ e] at hg; exact h g gi hg
theorem TabS.const {S : Sta} {w0 : World} {T : Tr FnI} (h : TabS S w0 T) {f : Nat} {v : AV} (hk : ConstOk S w0 f v) : TabS S w0 (T.set f (constFn v)) := by
 intro g gi hg
 by_cases e : g = f
 ·subst e; rw [Tr.get_set_same] at hg; cases hg; exact .inr ⟨v, rfl, hk⟩
 ·rw [Tr.get_set_ne _ _ e] at hg; exact h g gi hg
theorem WF.const {B : Nat → List AV} {T : Tr FnI} {f : Nat} {v : AV} (hT : T.get f = some (constFn v)) : WF B T (.func f) [] [] fun u _ => u = v := by
 refine WF.fn hT rfl ?_
 refine WC.reg (WOps.pur (fun _ => rfl) (WOps.nil ⟨trivial, [v], ⟨v, [], rfl, rfl, rfl⟩, rfl⟩))
theorem calls_of_wf {S : Sta} {T : Tr FnI} {W : World} (ro : RoOk S W) (hT : TabS S W T) {f : Nat} {args : List AV} (w : WF S.B T (.func f) args [] fun v _ => v = .bool true)
  {cargs : Array Value} (hargs : VRs S (fun _ => none) args cargs.toList) :
  Calls S.P f cargs W fun e W' => e = .returned (.bool true) ∧ Below W.heap.size W { W' with tape := W.tape } := by
 obtain ⟨v, h', H', rfl, _, n, e⟩ := w ⟨.e, 0⟩ [] ⟨fun id o h => by simp [AH.get] at h, by simp, by simp⟩
 exact calls_true_ro ro hT (n := n) (by rw [e n (Nat.le_refl _)]; rfl) hargs
/-! ### The row -/
theorem weightsEach_app {H : Type} {P : Program} {ts2 : List TypeId} {ds2 : List (DataW H)} : ∀ {ts : List TypeId} {ds : List (DataW H)}, ds.length = ts.length → ∃ k, DataW.weightsEach P (ts ++ ts2) (ds ++ ds2) = DataW.weightsEach P ts ds ++ k := by
 intro ts
 induction ts with
 | nil => intro ds h; cases ds with
  | nil => exact ⟨DataW.weightsEach P ts2 ds2, by simp [DataW.weightsEach]⟩
  | cons _ _ => simp at h
 | cons t ts ih => intro ds h; cases ds with
  | nil => simp at h
  | cons d ds =>
   obtain ⟨k, hk⟩ := ih (ds := ds) (by simpa using h)
   exact ⟨k, by simp only [List.cons_append, DataW.weightsEach, hk, List.append_assoc]⟩
theorem law_logic {H : Type} {enc : TypeId × Value → H} {C : Checked} {os : Os} {f : FuncId} {fn : Func} {s : ChangeSpec} {a : Assume} {conds : List PathCond} {apart fresh handsOn : Bool} {tb : TypeId}
  (own : ownKnob C.prog.godebug = none) (started : os.Started) (noInit : C.prog.inits.idxOf? f = none) (hfn : C.prog.funcs[f]? = some fn)
  (witness : ∃ (w : World) (tape : Tape) (i : Input), w.os = os ∧ (w.forCall tape i).Shaped C.prog ∧ i.vars = [] ∧ Input.okWide C.prog (w.forCall tape i) .any w.heap.size f i ∧
   s.pre6 enc C.prog fn conds apart (w.forCall tape i).memory i.args ∧ a.holds C.prog (lone (Frame.enter C.prog f i.args .normal) [] (w.forCall tape i)))
  (laid : laidOutB C.prog = true) (hpar : fn.params.toList.all (fun t => C.prog.readableRec t && decide (t < C.prog.types.size)) = true)
  (hvars : s.vars = []) (hspec : ∀ ds : List (DataW H), ds.length = fn.params.size → s.fn H ds = { results := [.lit (.bool true)], args := ds }) (hres : fn.resultTypes = #[tb]) (htb : C.prog.underlying tb = some .bool)
  {l : List Nat} (hcl : closedB C.prog l = true) (hts : fn.params.toList.all (fun t => l.contains t) = true) {T : Tr FnI} (hT : ∀ (S : Sta) w0, S.P = C.prog → TabS S w0 T)
  (hlog : ∀ B args, ArgIs C.prog B fn.params.toList args → WF B T (.func f) args [] fun v _ => v = .bool true) :
  ReturnsInHanded a C os f .any (s.pre6 enc C.prog fn conds apart) (s.post enc C.prog fn apart fresh handsOn false) := by
 refine returnsInHanded_of_change_sized own started noInit hfn witness ?_
 intro W base args ds gs before hval hW hcnd hwts _
 have hW' := hW
 obtain ⟨p, q, hA, hV, rfl, hfz, hnd⟩ := hW
 rw [hvars] at hV
 obtain ⟨rfl, rfl⟩ := trodVars_none hV
 have len : ∀ {ts : List TypeId} {vs : List Value} {ds : List (DataW H)} {ps : List MemPlace}, DataW.TrodAll enc C.prog W 0 (fun _ => true) true ts vs ds ps → vs.length = ts.length ∧ ds.length = ts.length := by
  intro ts
  induction ts with
  | nil => intro vs ds ps h; obtain ⟨rfl, rfl, rfl⟩ := trodAll_nil h; simp
  | cons t ts ih =>
   intro vs ds ps h
   obtain ⟨v, vs1, d, ds1, a, b, rfl, rfl, rfl, h1, h2⟩ := trodAll_cons h
   obtain ⟨i1, i2⟩ := ih h2
   simp [i1, i2]
 obtain ⟨l1, l2⟩ := len hA
 have hlt : ∀ x ∈ p, x.block < W.heap.size := fun x hx => hW'.lt x (by simp [hx])
 have hwts' : ∀ w, w ∈ DataW.weightsEach C.prog fn.params.toList ds → w ≤ reachBytes := by
  intro w hw
  have h1 := List.all_eq_true.1 hwts w (by
   obtain ⟨k, hk⟩ := weightsEach_app (ts2 := s.plain.varTypes C.prog) (ds2 := []) (l2 : ds.length = fn.params.toList.length)
   rw [hk]; exact List.mem_append_left _ hw)
  simpa using h1
 obtain ⟨ext, as, ok, hr⟩ := args_of_trod (r := .any) (base := base) hcl hA (fun t ht => by simpa using List.all_eq_true.1 hts t ht) (fun j t v h1 h2 => hval j t v (by simpa using h1) (by simpa using h2)) hwts' [] (fun p hp => by cases hp)
 obtain ⟨hvr, hai⟩ := hr []
 simp only [List.nil_append, List.append_nil] at ok hvr hai
 have hcall := calls_of_wf (S := tSta C.prog ext) ok.ro (hT _ W rfl) (hlog _ as hai) hvr
 refine hcall.mono fun e W' ⟨he, hb⟩ => ?_
 subst he
 have hsp := hspec ds (by simpa using l2)
 refine ⟨_, rfl, ds, [], p ++ [], [], p, [], hW', ?_, ?_, ?_, ?_, fun h => by cases h⟩
 ·rw [List.append_nil, hsp, hres]
  exact trodAll_mk1 (shut_bool htb true)
 ·rw [List.append_nil, hsp]
  exact below_trodAll laid hb hpar hA hlt
 ·rw [List.append_nil, hsp, hvars]; rfl
 ·have hk := hb.frame fun x => x ∈ p ++ [] ∧ (x ∈ ([] : List MemPlace) ∨ x ∈ p ∨ x ∈ ([] : List MemPlace))
  exact ⟨hk.1, hk.2.1, hk.2.2⟩
theorem Is.succ {P : Program} {B : Nat → List AV} {n t : Nat} {cs : List AV} (h : Is P B n t cs) : ∃ m, n = m + 1 := by
 cases n with
 | zero => exact h.elim
 | succ m => exact ⟨m, rfl⟩
section is
variable {P : Program} {B : Nat → List AV} {n t : Nat} {cs : List AV}
theorem Is.int {k : IntKind} (h : Is P B n t cs) (ht : tyOf P t = .int k) : ∃ i, cs = [.int k i] ∧ k.min ≤ i ∧ i ≤ k.max := by
 obtain ⟨m, rfl⟩ := h.succ
 simp only [Is, ht] at h; exact h
theorem Is.bool (h : Is P B n t cs) (ht : tyOf P t = .bool) : ∃ b, cs = [.bool b] := by
 obtain ⟨m, rfl⟩ := h.succ
 simp only [Is, ht] at h; exact h
theorem Is.str (h : Is P B n t cs) (ht : tyOf P t = .str) : ∃ s, cs = [.str s] ∧ (∀ b, b ∈ s → b < 256) ∧ s.length ≤ maxLen := by
 obtain ⟨m, rfl⟩ := h.succ
 simp only [Is, ht] at h
 obtain ⟨s, h1, h2, h3, _⟩ := h
 exact ⟨s, h1, h2, h3⟩
theorem Is.st {fs : List (Nat × Nat × Nat)} (h : Is P B n t cs) (ht : tyOf P t = .st fs) : ∃ m, IsAll (Is P B m) fs cs := by
 obtain ⟨m, rfl⟩ := h.succ
 simp only [Is, ht] at h; exact ⟨m, h⟩
theorem Is.sl {e esz : Nat} (h : Is P B n t cs) (ht : tyOf P t = .sl e esz) : ∃ m, cs = [.nilsl] ∨ ∃ id len, cs = [.sl ⟨true, id, 0⟩ len esz] ∧ len ≤ maxLen ∧ ∀ i, i < len → ∃ c, takeN ((B id).drop (i * esz)) esz = some c ∧ Is P B m e c := by
 obtain ⟨m, rfl⟩ := h.succ
 simp only [Is, ht] at h
 refine ⟨m, h.imp id ?_⟩
 rintro ⟨id, len, h1, h2, _, h3⟩
 exact ⟨id, len, h1, h2, h3⟩
theorem Is.slB {e esz : Nat} (h : Is P B n t cs) (ht : tyOf P t = .sl e esz) : ∃ m, cs = [.nilsl] ∨ ∃ id len, cs = [.sl ⟨true, id, 0⟩ len esz] ∧ len ≤ maxLen ∧ len * P.bytesOf e ≤ reachBytes ∧ ∀ i, i < len → ∃ c, takeN ((B id).drop (i * esz)) esz = some c ∧ Is P B m e c := by
 obtain ⟨m, rfl⟩ := h.succ
 simp only [Is, ht] at h; exact ⟨m, h⟩
theorem IsAll.nil {I : Nat → List AV → Prop} (h : IsAll I [] cs) : cs = [] := h
theorem IsAll.cons {I : Nat → List AV → Prop} {o sz u : Nat} {fs : List (Nat × Nat × Nat)} (h : IsAll I ((o, sz, u) :: fs) cs) : ∃ p r, cs = p ++ r ∧ p.length = sz ∧ I u p ∧ IsAll I fs r := h
theorem IsAll.int {m : Nat} {o sz u : Nat} {fs : List (Nat × Nat × Nat)} {k : IntKind} (h : IsAll (Is P B m) ((o, sz, u) :: fs) cs) (hu : tyOf P u = .int k) : ∃ i r, cs = .int k i :: r ∧ k.min ≤ i ∧ i ≤ k.max ∧ IsAll (Is P B m) fs r := by
 obtain ⟨p, r, rfl, _, h1, h2⟩ := h
 obtain ⟨i, rfl, h3, h4⟩ := h1.int hu
 exact ⟨i, r, rfl, h3, h4, h2⟩
theorem IsAll.bool {m : Nat} {o sz u : Nat} {fs : List (Nat × Nat × Nat)} (h : IsAll (Is P B m) ((o, sz, u) :: fs) cs) (hu : tyOf P u = .bool) : ∃ b r, cs = .bool b :: r ∧ IsAll (Is P B m) fs r := by
 obtain ⟨p, r, rfl, _, h1, h2⟩ := h
 obtain ⟨i, rfl⟩ := h1.bool hu
 exact ⟨i, r, rfl, h2⟩
theorem IsAll.str {m : Nat} {o sz u : Nat} {fs : List (Nat × Nat × Nat)} (h : IsAll (Is P B m) ((o, sz, u) :: fs) cs) (hu : tyOf P u = .str) : ∃ s r, cs = .str s :: r ∧ (∀ b, b ∈ s → b < 256) ∧ s.length ≤ maxLen ∧ IsAll (Is P B m) fs r := by
 obtain ⟨p, r, rfl, _, h1, h2⟩ := h
 obtain ⟨i, rfl, h3, h4⟩ := h1.str hu
 exact ⟨i, r, rfl, h3, h4, h2⟩
end is
end Go.Proofs.Ytdcbglljljfleaa.Abs
