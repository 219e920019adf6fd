/- From a run of the evaluator to a row's call. -/
import Derived.Test.YtkahmlbhgahbbaaGreatAbsZ
import Derived.RowKit
import Derived.Carry
import Derived.ChangeAt
import Derived.ChangeShapes
import Derived.JoinedOf
import Derived.JoinedAt
import Derived.Handed
set_option linter.unusedSimpArgs false
set_option linter.unusedVariables false
set_option linter.unusedSectionVars false
set_option linter.constructorNameAsVariable false
namespace Go.Proofs.YtkahmlbhgahbbaaGreat.Abs
open Go.ChangeShapes Go.WideShapes Go.ChangeAt Go.RowKit

/-- The run came to 'true'. -/
def isT : VO → Bool
  | .val (.bool true) _ => true
  | _ => false
theorem isT_spec {x : VO} (h : isT x = true) : ∃ h', x = .val (.bool true) h' := by
  unfold isT at h
  split at h
  · exact ⟨_, rfl⟩
  · cases h

theorem TabOk.e (P : Program) : TabOk P .e := fun f fi h => by simp at h
theorem TabOk.set {P : Program} {T : Tr FnI} (h : TabOk P T) {f : Nat} {fi : FnI} (hf : compFn P f = some fi) : TabOk P (T.set f fi) := by
  intro g gi hg
  by_cases e : g = f
  · subst e; rw [Tr.get_set_same] at hg; cases hg; exact hf
  · rw [Tr.get_set_ne _ _ e] at hg; exact h g gi hg

/-- No package-level variable is read; the tokens stand for what they like. -/
def plainSta (P : Program) (tok : Nat → Value) : Sta := ⟨P, fun _ => [], fun _ => ⟨P.globals.size, 0, none⟩, tok⟩

theorem below_of_stp {S : Sta} {W : World} {ρ' : Ren} {h' : AH} {W' : World} (s : Stp S W (fun _ => none) ⟨.e, 0⟩ W ρ' h' W') : Below W.heap.size W { W' with tape := W.tape } :=
  ⟨s.rel.os, rfl, s.rel.output, s.grow, fun k hk => s.frame k hk (by rintro ⟨id, o, l, h1, _⟩; simp [AH.get] at h1)⟩

theorem calls_true {P : Program} {T : Tr FnI} (hT : TabOk P T) {n f : Nat} {args : List AV} (he : isT (run (fun _ => []) T n (.func f) args ⟨.e, 0⟩) = true)
    {W : World} {cargs : Array Value} (tok : Nat → Value) (hargs : VRs (plainSta P tok) (fun _ => none) args cargs.toList) :
    Calls P f cargs W fun e W' => e = .returned (.bool true) ∧ Below W.heap.size W { W' with tape := W.tape } := by
  obtain ⟨h', he⟩ := isT_spec he
  have ro : RoOk (plainSta P tok) W := ⟨rfl, fun i h => absurd rfl h, fun i j v h => by simp [plainSta] at h⟩
  have rel : Rel (plainSta P tok) W (fun _ => none) ⟨.e, 0⟩ W :=
    ⟨fun id o h => by simp [AH.get] at h, fun id o h => by simp [AH.get] at h, fun i j oi oj li lj h => by simp [AH.get] at h, fun _ _ => rfl, Nat.le_refl _, rfl, rfl⟩
  have h1 := ((run_sound (S := plainSta P tok) ro hT.s n).func f args _ _ _ he).2 (fun _ => none) W cargs rel (fun _ _ _ => rfl) hargs
  refine callsIn_wide.1 (h1.2.mono ?_)
  rintro e W' ⟨ρ', c, rfl, s, hv⟩
  simp only [VR] at hv; subst hv
  exact ⟨rfl, below_of_stp s⟩

theorem plain_ro {P : Program} {tok : Nat → Value} {W : World} : RoOk (plainSta P tok) W := ⟨rfl, fun i h => absurd rfl h, fun i j v h => by simp [plainSta] at h⟩
theorem empty_rel {S : Sta} {W : World} : Rel S W (fun _ => none) ⟨.e, 0⟩ W :=
  ⟨fun id o h => by simp [AH.get] at h, fun id o h => by simp [AH.get] at h, fun i j oi oj li lj h => by simp [AH.get] at h, fun _ _ => rfl, Nat.le_refl _, rfl, rfl⟩

/-- A call whose run from nothing comes to 'true' is a constant. -/
theorem const_of_run {P : Program} {T : Tr FnI} (hT : TabOk P T) {n f : Nat} (he : isT (run (fun _ => []) T n (.func f) [] ⟨.e, 0⟩) = true) {S : Sta} (hS : S.P = P) (w0 : World) : ConstOk S w0 f (.bool true) := by
  subst hS
  intro ρ h w r
  obtain ⟨h'', he⟩ := isT_spec he
  have h1 := ((run_sound (S := plainSta S.P fun _ => undef) (w0 := w) plain_ro (TabOk.s (S := plainSta S.P fun _ => undef) hT) n).func f [] _ _ _ he).2 (fun _ => none) w #[] empty_rel (fun _ _ _ => rfl) trivial
  refine ⟨h1.1, h1.2.mono ?_⟩
  rintro e w' ⟨ρ', c, rfl, s, hv⟩
  simp only [VR] at hv; subst hv
  have hno : ∀ b, ¬ Owned (fun _ => none) (⟨.e, 0⟩ : AH) b := by rintro b ⟨id, o, l, h1, _⟩; simp [AH.get] at h1
  have hfr : ∀ b, b < w.heap.size → w'.heap[b]? = w.heap[b]? := fun b hb => s.frame b hb (hno b)
  exact ⟨ρ, _, rfl, ⟨fun _ _ => rfl, Nat.le_refl _, r.later hfr s.grow s.rel.os s.rel.output, fun b hb _ => hfr b hb, s.grow, fun b ho => .inl ho⟩, rfl⟩

/-- A call over what is only read. -/
theorem calls_true_ro {S : Sta} {T : Tr FnI} {W : World} (ro : RoOk S W) (hT : TabS S W T) {n f : Nat} {args : List AV} (he : isT (run S.B T n (.func f) args ⟨.e, 0⟩) = true)
    {cargs : Array Value} (hargs : VRs S (fun _ => none) args cargs.toList) :
    Calls S.P f cargs W fun e W' => e = .returned (.bool true) ∧ Below W.heap.size W { W' with tape := W.tape } := by
  obtain ⟨h', he⟩ := isT_spec he
  have h1 := ((run_sound ro hT n).func f args _ _ _ he).2 (fun _ => none) W cargs empty_rel (fun _ _ _ => rfl) hargs
  refine callsIn_wide.1 (h1.2.mono ?_)
  rintro e W' ⟨ρ', c, rfl, s, hv⟩
  simp only [VR] at hv; subst hv
  exact ⟨rfl, below_of_stp s⟩

/-! ### Arguments that nobody looks into -/
theorem cell_one {P : Program} {w : World} {r : Reach} {base : Nat} {t : TypeId} {v : Value} (h : Cell.okWide P w r base t v) : v.oneCell' = true := by
  unfold Cell.okWide Cell.ok at h
  cases v <;> first | rfl | skip
  all_goals
    exfalso
    repeat' (split at h)
    all_goals first | exact h | (rename_i e; cases e) | simp_all

def toksOf (n : Nat) : List AV := (List.range n).map .opq

theorem okWide_agg {P : Program} {w : World} {r : Reach} {base : Nat} {t : TypeId} {v : Value} {fs : Array Field} (ht : P.underlying t = some (.struct fs)) (h : Value.okWide P w r base t v) :
    ∃ cs, v = .agg cs ∧ cs.size = P.cellsOf t ∧ ∀ (i : Nat) (c : Value), cs[i]? = some c → c.oneCell' = true := by
  unfold Value.okWide at h
  rw [ht] at h
  obtain ⟨cs, rfl, h1, ts, _, _, h2⟩ := h
  refine ⟨cs, rfl, h1, fun i c hc => ?_⟩
  obtain ⟨u, _, hu⟩ := h2 i c hc
  exact cell_one hu

theorem VR_toks {P : Program} {cs : Array Value} (h : ∀ (i : Nat) (c : Value), cs[i]? = some c → c.oneCell' = true) {l : List AV} (hl : l = toksOf cs.size) :
    VR (plainSta P fun i => cs.getD i undef) (fun _ => none) (.agg l) (.agg cs) := by
  subst hl
  refine ⟨cs, rfl, VRs.iff.2 ⟨by simp [toksOf], fun i v hv => ?_⟩⟩
  simp only [toksOf, List.getElem?_map] at hv
  rcases Nat.lt_or_ge i cs.size with hi | hi
  · rw [List.getElem?_range hi] at hv
    simp at hv; subst hv
    refine ⟨cs[i], by simp [hi], ?_⟩
    have e : (plainSta P fun i => cs.getD i undef).tok i = cs[i] := by simp [plainSta, hi]
    simp only [VR, e]
    exact ⟨trivial, h i _ (Array.getElem?_eq_getElem hi)⟩
  · rw [List.getElem?_eq_none (by simpa using hi)] at hv; cases hv

/-- How many cells an argument has; is it an aggregate? -/
def shapeOf (P : Program) (t : TypeId) : Bool × Nat :=
  match P.underlying t with
  | some (.struct _) | some (.array _ _) => (true, P.cellsOf t)
  | _ => (false, 1)
def argToks : List (Bool × Nat) → Nat → List AV
  | [], _ => []
  | (true, n) :: r, k => .agg ((List.range' k n).map .opq) :: argToks r (k + n)
  | (false, _) :: r, k => .opq k :: argToks r (k + 1)
def ArgsFit : List (Bool × Nat) → List Value → Prop
  | [], [] => True
  | (true, n) :: r, v :: vs => (∃ cs, v = .agg cs ∧ cs.size = n ∧ ∀ (i : Nat) (c : Value), cs[i]? = some c → c.oneCell' = true) ∧ ArgsFit r vs
  | (false, _) :: r, v :: vs => v.oneCell' = true ∧ ArgsFit r vs
  | _, _ => False
def flatArgs : List (Bool × Nat) → List Value → List Value
  | (true, _) :: r, .agg cs :: vs => cs.toList ++ flatArgs r vs
  | _ :: r, v :: vs => v :: flatArgs r vs
  | _, _ => []

theorem VRs_argToks {P : Program} {tok : Nat → Value} : ∀ {sh : List (Bool × Nat)} {vs : List Value} {k : Nat}, ArgsFit sh vs → (∀ i c, (flatArgs sh vs)[i]? = some c → tok (k + i) = c) → VRs (plainSta P tok) (fun _ => none) (argToks sh k) vs := by
  intro sh
  induction sh with
  | nil => intro vs k hf ht; cases vs with
    | nil => trivial
    | cons _ _ => exact hf.elim
  | cons a sh ih =>
    intro vs k hf ht
    obtain ⟨b, n⟩ := a
    cases vs with
    | nil => cases b <;> exact hf.elim
    | cons v vs =>
      cases b with
      | true =>
        obtain ⟨⟨cs, rfl, rfl, hc⟩, hf⟩ := hf
        simp only [flatArgs] at ht
        refine ⟨⟨cs, rfl, VRs.iff.2 ⟨by simp, fun i u hu => ?_⟩⟩, ih hf fun i c hc => ?_⟩
        · rw [List.getElem?_map] at hu
          rcases Nat.lt_or_ge i cs.size with hi | hi
          · rw [List.getElem?_range' (by simpa using hi)] at hu
            simp only [Option.map_some, Option.some.injEq, Nat.one_mul] at hu
            subst hu
            have h0 := ht i cs[i] (by rw [List.getElem?_append_left (by simpa using hi)]; simp [hi])
            refine ⟨cs[i], by simp [hi], ?_⟩
            have e : (plainSta P tok).tok (k + i) = cs[i] := h0
            simp only [VR, e]
            exact ⟨trivial, hc i _ (Array.getElem?_eq_getElem hi)⟩
          · rw [List.getElem?_eq_none (by simpa using hi)] at hu; cases hu
        · have := ht (cs.size + i) c (by rw [List.getElem?_append_right (by simp)]; simpa using hc)
          rw [Nat.add_assoc]; exact this
      | false =>
        obtain ⟨h1, hf⟩ := hf
        have hfl : flatArgs ((false, n) :: sh) (v :: vs) = v :: flatArgs sh vs := by simp [flatArgs]
        rw [hfl] at ht
        refine ⟨?_, ih hf fun i c hc => ?_⟩
        · have e : (plainSta P tok).tok k = v := ht 0 v rfl
          simp only [VR, e]
          exact ⟨trivial, h1⟩
        · have := ht (i + 1) c (by simpa using hc)
          rw [Nat.add_assoc, Nat.add_comm 1 i]; exact this

theorem argsFit_of {P : Program} {W : World} {r : Reach} {base : Nat} : ∀ {ts : List TypeId} {vs : List Value}, vs.length = ts.length → (∀ (j : Nat) t v, ts[j]? = some t → vs[j]? = some v → Value.okWide P W r base t v) → ArgsFit (ts.map (shapeOf P)) vs := by
  intro ts
  induction ts with
  | nil => intro vs hl _; cases vs with
    | nil => trivial
    | cons _ _ => cases hl
  | cons t ts ih =>
    intro vs hl hv
    cases vs with
    | nil => cases hl
    | cons v vs =>
      have h0 := hv 0 t v rfl rfl
      have hr := ih (vs := vs) (by simpa using hl) fun j t v h1 h2 => hv (j + 1) t v (by simpa using h1) (by simpa using h2)
      have agg : (∃ cs, v = .agg cs ∧ cs.size = P.cellsOf t ∧ Row.okWide P W r base t cs) → ∃ cs, v = .agg cs ∧ cs.size = P.cellsOf t ∧ ∀ (i : Nat) (c : Value), cs[i]? = some c → c.oneCell' = true := by
        rintro ⟨cs, rfl, h1, ts, _, _, h2⟩
        refine ⟨cs, rfl, h1, fun i c hc => ?_⟩
        obtain ⟨u, _, hu⟩ := h2 i c hc
        exact cell_one hu
      simp only [List.map_cons, shapeOf]
      unfold Value.okWide at h0
      split
      · rename_i fs e; simp only [e] at h0; exact ⟨agg h0, hr⟩
      · rename_i e; simp only [e] at h0; exact ⟨agg h0, hr⟩
      · rename_i e1 e2
        split at h0
        · rename_i fs e; exact absurd e (e1 _)
        · rename_i e; exact absurd e (e2 _ _)
        · exact ⟨cell_one h0, hr⟩

theorem calls_true_any {P : Program} {T : Tr FnI} (hT : TabOk P T) {n f : Nat} {sh : List (Bool × Nat)} (he : isT (run (fun _ => []) T n (.func f) (argToks sh 0) ⟨.e, 0⟩) = true)
    {W : World} {base : Nat} {ts : Array TypeId} {args : Array Value} (hsh : ts.toList.map (shapeOf P) = sh) (hsz : args.size = ts.size) (hval : ∀ (j : Nat) t v, ts[j]? = some t → args[j]? = some v → Value.okWide P W .any base t v) :
    Calls P f args W fun e W' => e = .returned (.bool true) ∧ Below W.heap.size W { W' with tape := W.tape } := by
  subst hsh
  have hf : ArgsFit (ts.toList.map (shapeOf P)) args.toList := argsFit_of (by simpa using hsz) fun j t v h1 h2 => hval j t v (by simpa using h1) (by simpa using h2)
  refine calls_true hT he (fun i => ((flatArgs (ts.toList.map (shapeOf P)) args.toList)[i]?).getD undef) (VRs_argToks hf fun i c hc => ?_)
  simp only [Nat.zero_add]
  rw [hc]; rfl

/-! ### The row -/
theorem below_trodAll {H : Type} {enc : TypeId × Value → H} {P : Program} (hl : laidOutB P = true) {W W' : World} (hb : Below W.heap.size W { W' with tape := W.tape }) :
    ∀ {ts : List TypeId} {vs : List Value} {ds : List (DataW H)} {ps : List MemPlace}, ts.all (fun t => P.readableRec t && decide (t < P.types.size)) = true →
      DataW.TrodAll enc P W 0 (fun _ => true) true ts vs ds ps → (∀ x ∈ ps, x.block < W.heap.size) → DataW.TrodAll enc P W' 0 (fun b => decide (b < W.heap.size)) true ts vs ds ps
  | [], _, _, _, _, h, _ => by
    obtain ⟨rfl, rfl, rfl⟩ := trodAll_nil h
    rfl
  | t :: ts, _, _, _, ht, h, hlt => by
    obtain ⟨v, vs1, d, ds1, a, b, rfl, rfl, rfl, h1, h2⟩ := trodAll_cons h
    simp only [List.all_cons, Bool.and_eq_true, decide_eq_true_eq] at ht
    refine ⟨a, b, ?_, below_trodAll hl hb ht.2 h2 fun x hx => hlt x (by simp [hx]), rfl⟩
    obtain ⟨fuel, hf⟩ := Below.trod hl ht.1.1 ht.1.2 h1 hb fun x hx => hlt x (by simp [hx])
    exact ⟨fuel, by rw [← hf]; exact DataW.trod_heap (w := W') (w' := { W' with tape := W.tape }) rfl _ _ _⟩

theorem law_true {H : Type} {enc : TypeId × Value → H} {C : Checked} {os : Os} {f : FuncId} {fn : Func} {s : ChangeSpec} {a : Assume} {conds : List PathCond} {apart fresh handsOn : Bool} {tb : TypeId}
    (own : ownKnob C.prog.godebug = none) (started : os.Started) (noInit : C.prog.inits.idxOf? f = none) (hfn : C.prog.funcs[f]? = some fn)
    (witness : ∃ (w : World) (tape : Tape) (i : Input), w.os = os ∧ (w.forCall tape i).Shaped C.prog ∧ i.vars = [] ∧ Input.okWide C.prog (w.forCall tape i) .any w.heap.size f i ∧
      s.pre6 enc C.prog fn conds apart (w.forCall tape i).memory i.args ∧ a.holds C.prog (lone (Frame.enter C.prog f i.args .normal) [] (w.forCall tape i)))
    (laid : laidOutB C.prog = true) (hpar : fn.params.toList.all (fun t => C.prog.readableRec t && decide (t < C.prog.types.size)) = true)
    (hvars : s.vars = []) (hspec : ∀ ds : List (DataW H), ds.length = fn.params.size → s.fn H ds = { results := [.lit (.bool true)], args := ds }) (hres : fn.resultTypes = #[tb]) (htb : C.prog.underlying tb = some .bool)
    (hrun : ∀ (W : World) (base : Nat) (args : Array Value), args.size = fn.params.size → (∀ (j : Nat) t v, fn.params[j]? = some t → args[j]? = some v → Value.okWide C.prog W .any base t v) →
      Calls C.prog f args W fun e W' => e = .returned (.bool true) ∧ Below W.heap.size W { W' with tape := W.tape }) :
    ReturnsInHanded a C os f .any (s.pre6 enc C.prog fn conds apart) (s.post enc C.prog fn apart fresh handsOn false) := by
  refine returnsInHanded_of_change own started noInit hfn witness ?_
  intro W base args ds gs before hval hW hcnd _
  have hW' := hW
  obtain ⟨p, q, hA, hV, rfl, hfz, hnd⟩ := hW
  rw [hvars] at hV
  obtain ⟨rfl, rfl⟩ := trodVars_none hV
  have len : ∀ {ts : List TypeId} {vs : List Value} {ds : List (DataW H)} {ps : List MemPlace}, DataW.TrodAll enc C.prog W 0 (fun _ => true) true ts vs ds ps → vs.length = ts.length ∧ ds.length = ts.length := by
    intro ts
    induction ts with
    | nil => intro vs ds ps h; obtain ⟨rfl, rfl, rfl⟩ := trodAll_nil h; simp
    | cons t ts ih =>
      intro vs ds ps h
      obtain ⟨v, vs1, d, ds1, a, b, rfl, rfl, rfl, h1, h2⟩ := trodAll_cons h
      obtain ⟨i1, i2⟩ := ih h2
      simp [i1, i2]
  obtain ⟨l1, l2⟩ := len hA
  have hlt : ∀ x ∈ p, x.block < W.heap.size := fun x hx => hW'.lt x (by simp [hx])
  refine (hrun W base args (by simpa using l1) hval).mono fun e W' ⟨he, hb⟩ => ?_
  subst he
  have hsp := hspec ds (by simpa using l2)
  refine ⟨_, rfl, ds, [], p ++ [], [], p, [], hW', ?_, ?_, ?_, ?_, fun h => by cases h⟩
  · rw [List.append_nil, hsp, hres]
    exact trodAll_mk1 (shut_bool htb true)
  · rw [List.append_nil, hsp]
    exact below_trodAll laid hb hpar hA hlt
  · rw [List.append_nil, hsp, hvars]; rfl
  · have hk := hb.frame fun x => x ∈ p ++ [] ∧ (x ∈ ([] : List MemPlace) ∨ x ∈ p ∨ x ∈ ([] : List MemPlace))
    exact ⟨hk.1, hk.2.1, hk.2.2⟩
end Go.Proofs.YtkahmlbhgahbbaaGreat.Abs
