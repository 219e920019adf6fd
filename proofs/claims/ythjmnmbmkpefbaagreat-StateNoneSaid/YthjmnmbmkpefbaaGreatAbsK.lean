/- From a run of the evaluator to a row's call. -/
import Derived.Test.YthjmnmbmkpefbaaGreatAbsZ
import Derived.RowKit
import Derived.Carry
import Derived.ChangeAt
import Derived.ChangeShapes
import Derived.JoinedOf
import Derived.JoinedAt
import Derived.Handed
set_option linter.unusedSimpArgs false
set_option linter.unusedVariables false
set_option linter.unusedSectionVars false
set_option linter.constructorNameAsVariable false
namespace Go.Proofs.YthjmnmbmkpefbaaGreat.Abs
open Go.ChangeShapes Go.WideShapes Go.ChangeAt Go.RowKit

/-- The run came to 'true'. -/
def isT : VO → Bool
  | .val (.bool true) _ => true
  | _ => false
theorem isT_spec {x : VO} (h : isT x = true) : ∃ h', x = .val (.bool true) h' := by
  unfold isT at h
  split at h
  · exact ⟨_, rfl⟩
  · cases h

theorem TabOk.e (P : Program) : TabOk P .e := fun f fi h => by simp at h
theorem TabOk.set {P : Program} {T : Tr FnI} (h : TabOk P T) {f : Nat} {fi : FnI} (hf : compFn P f = some fi) : TabOk P (T.set f fi) := by
  intro g gi hg
  by_cases e : g = f
  · subst e; rw [Tr.get_set_same] at hg; cases hg; exact hf
  · rw [Tr.get_set_ne _ _ e] at hg; exact h g gi hg

/-- No package-level variable is read; the tokens stand for what they like. -/
def plainSta (P : Program) (tok : Nat → Value) : Sta := ⟨P, fun _ => [], fun _ => ⟨P.globals.size, 0, none⟩, tok⟩

theorem below_of_stp {S : Sta} {W : World} {ρ' : Ren} {h' : AH} {W' : World} (s : Stp S W (fun _ => none) ⟨.e, 0⟩ W ρ' h' W') : Below W.heap.size W { W' with tape := W.tape } :=
  ⟨s.rel.os, rfl, s.rel.output, s.grow, fun k hk => s.frame k hk (by rintro ⟨id, o, l, h1, _⟩; simp [AH.get] at h1)⟩

theorem calls_true {P : Program} {T : Tr FnI} (hT : TabOk P T) {n f : Nat} {args : List AV} (he : isT (run (fun _ => []) T n (.func f) args ⟨.e, 0⟩) = true)
    {W : World} {cargs : Array Value} (tok : Nat → Value) (hargs : VRs (plainSta P tok) (fun _ => none) args cargs.toList) :
    Calls P f cargs W fun e W' => e = .returned (.bool true) ∧ Below W.heap.size W { W' with tape := W.tape } := by
  obtain ⟨h', he⟩ := isT_spec he
  have ro : RoOk (plainSta P tok) W := ⟨rfl, fun i h => absurd rfl h, fun i j v h => by simp [plainSta] at h⟩
  have rel : Rel (plainSta P tok) W (fun _ => none) ⟨.e, 0⟩ W :=
    ⟨fun id o h => by simp [AH.get] at h, fun id o h => by simp [AH.get] at h, fun i j oi oj li lj h => by simp [AH.get] at h, fun _ _ => rfl, Nat.le_refl _, rfl, rfl⟩
  have h1 := ((run_sound (S := plainSta P tok) ro hT n).func f args _ _ _ he).2 (fun _ => none) W cargs rel (fun _ _ _ => rfl) hargs
  refine callsIn_wide.1 (h1.2.mono ?_)
  rintro e W' ⟨ρ', c, rfl, s, hv⟩
  simp only [VR] at hv; subst hv
  exact ⟨rfl, below_of_stp s⟩

/-! ### Arguments that nobody looks into -/
theorem cell_one {P : Program} {w : World} {r : Reach} {base : Nat} {t : TypeId} {v : Value} (h : Cell.okWide P w r base t v) : v.oneCell' = true := by
  unfold Cell.okWide Cell.ok at h
  cases v <;> first | rfl | skip
  all_goals
    exfalso
    repeat' (split at h)
    all_goals first | exact h | (rename_i e; cases e) | simp_all

def toksOf (n : Nat) : List AV := (List.range n).map .opq

theorem okWide_agg {P : Program} {w : World} {r : Reach} {base : Nat} {t : TypeId} {v : Value} {fs : Array Field} (ht : P.underlying t = some (.struct fs)) (h : Value.okWide P w r base t v) :
    ∃ cs, v = .agg cs ∧ cs.size = P.cellsOf t ∧ ∀ (i : Nat) (c : Value), cs[i]? = some c → c.oneCell' = true := by
  unfold Value.okWide at h
  rw [ht] at h
  obtain ⟨cs, rfl, h1, ts, _, _, h2⟩ := h
  refine ⟨cs, rfl, h1, fun i c hc => ?_⟩
  obtain ⟨u, _, hu⟩ := h2 i c hc
  exact cell_one hu

theorem VR_toks {P : Program} {cs : Array Value} (h : ∀ (i : Nat) (c : Value), cs[i]? = some c → c.oneCell' = true) {l : List AV} (hl : l = toksOf cs.size) :
    VR (plainSta P fun i => cs.getD i undef) (fun _ => none) (.agg l) (.agg cs) := by
  subst hl
  refine ⟨cs, rfl, VRs.iff.2 ⟨by simp [toksOf], fun i v hv => ?_⟩⟩
  simp only [toksOf, List.getElem?_map] at hv
  rcases Nat.lt_or_ge i cs.size with hi | hi
  · rw [List.getElem?_range hi] at hv
    simp at hv; subst hv
    refine ⟨cs[i], by simp [hi], ?_⟩
    have e : (plainSta P fun i => cs.getD i undef).tok i = cs[i] := by simp [plainSta, hi]
    simp only [VR, e]
    exact ⟨trivial, h i _ (Array.getElem?_eq_getElem hi)⟩
  · rw [List.getElem?_eq_none (by simpa using hi)] at hv; cases hv

/-! ### The row -/
theorem below_trodAll {H : Type} {enc : TypeId × Value → H} {P : Program} (hl : laidOutB P = true) {W W' : World} (hb : Below W.heap.size W { W' with tape := W.tape }) :
    ∀ {ts : List TypeId} {vs : List Value} {ds : List (DataW H)} {ps : List MemPlace}, ts.all (fun t => P.readableRec t && decide (t < P.types.size)) = true →
      DataW.TrodAll enc P W 0 (fun _ => true) true ts vs ds ps → (∀ x ∈ ps, x.block < W.heap.size) → DataW.TrodAll enc P W' 0 (fun b => decide (b < W.heap.size)) true ts vs ds ps
  | [], _, _, _, _, h, _ => by
    obtain ⟨rfl, rfl, rfl⟩ := trodAll_nil h
    rfl
  | t :: ts, _, _, _, ht, h, hlt => by
    obtain ⟨v, vs1, d, ds1, a, b, rfl, rfl, rfl, h1, h2⟩ := trodAll_cons h
    simp only [List.all_cons, Bool.and_eq_true, decide_eq_true_eq] at ht
    refine ⟨a, b, ?_, below_trodAll hl hb ht.2 h2 fun x hx => hlt x (by simp [hx]), rfl⟩
    obtain ⟨fuel, hf⟩ := Below.trod hl ht.1.1 ht.1.2 h1 hb fun x hx => hlt x (by simp [hx])
    exact ⟨fuel, by rw [← hf]; exact DataW.trod_heap (w := W') (w' := { W' with tape := W.tape }) rfl _ _ _⟩

theorem law_true {H : Type} {enc : TypeId × Value → H} {C : Checked} {os : Os} {f : FuncId} {fn : Func} {s : ChangeSpec} {a : Assume} {conds : List PathCond} {apart fresh handsOn : Bool} {tb : TypeId}
    (own : ownKnob C.prog.godebug = none) (started : os.Started) (noInit : C.prog.inits.idxOf? f = none) (hfn : C.prog.funcs[f]? = some fn)
    (witness : ∃ (w : World) (tape : Tape) (i : Input), w.os = os ∧ (w.forCall tape i).Shaped C.prog ∧ i.vars = [] ∧ Input.okWide C.prog (w.forCall tape i) .any w.heap.size f i ∧
      s.pre6 enc C.prog fn conds apart (w.forCall tape i).memory i.args ∧ a.holds C.prog (lone (Frame.enter C.prog f i.args .normal) [] (w.forCall tape i)))
    (laid : laidOutB C.prog = true) (hpar : fn.params.toList.all (fun t => C.prog.readableRec t && decide (t < C.prog.types.size)) = true)
    (hvars : s.vars = []) (hspec : ∀ ds : List (DataW H), ds.length = fn.params.size → s.fn H ds = { results := [.lit (.bool true)], args := ds }) (hres : fn.resultTypes = #[tb]) (htb : C.prog.underlying tb = some .bool)
    (hrun : ∀ (W : World) (base : Nat) (args : Array Value), args.size = fn.params.size → (∀ (j : Nat) t v, fn.params[j]? = some t → args[j]? = some v → Value.okWide C.prog W .any base t v) →
      Calls C.prog f args W fun e W' => e = .returned (.bool true) ∧ Below W.heap.size W { W' with tape := W.tape }) :
    ReturnsInHanded a C os f .any (s.pre6 enc C.prog fn conds apart) (s.post enc C.prog fn apart fresh handsOn false) := by
  refine returnsInHanded_of_change own started noInit hfn witness ?_
  intro W base args ds gs before hval hW hcnd _
  have hW' := hW
  obtain ⟨p, q, hA, hV, rfl, hfz, hnd⟩ := hW
  rw [hvars] at hV
  obtain ⟨rfl, rfl⟩ := trodVars_none hV
  have len : ∀ {ts : List TypeId} {vs : List Value} {ds : List (DataW H)} {ps : List MemPlace}, DataW.TrodAll enc C.prog W 0 (fun _ => true) true ts vs ds ps → vs.length = ts.length ∧ ds.length = ts.length := by
    intro ts
    induction ts with
    | nil => intro vs ds ps h; obtain ⟨rfl, rfl, rfl⟩ := trodAll_nil h; simp
    | cons t ts ih =>
      intro vs ds ps h
      obtain ⟨v, vs1, d, ds1, a, b, rfl, rfl, rfl, h1, h2⟩ := trodAll_cons h
      obtain ⟨i1, i2⟩ := ih h2
      simp [i1, i2]
  obtain ⟨l1, l2⟩ := len hA
  have hlt : ∀ x ∈ p, x.block < W.heap.size := fun x hx => hW'.lt x (by simp [hx])
  refine (hrun W base args (by simpa using l1) hval).mono fun e W' ⟨he, hb⟩ => ?_
  subst he
  have hsp := hspec ds (by simpa using l2)
  refine ⟨_, rfl, ds, [], p ++ [], [], p, [], hW', ?_, ?_, ?_, ?_, fun h => by cases h⟩
  · rw [List.append_nil, hsp, hres]
    exact trodAll_mk1 (shut_bool htb true)
  · rw [List.append_nil, hsp]
    exact below_trodAll laid hb hpar hA hlt
  · rw [List.append_nil, hsp, hvars]; rfl
  · have hk := hb.frame fun x => x ∈ p ++ [] ∧ (x ∈ ([] : List MemPlace) ∨ x ∈ p ∨ x ∈ ([] : List MemPlace))
    exact ⟨hk.1, hk.2.1, hk.2.2⟩
end Go.Proofs.YthjmnmbmkpefbaaGreat.Abs
