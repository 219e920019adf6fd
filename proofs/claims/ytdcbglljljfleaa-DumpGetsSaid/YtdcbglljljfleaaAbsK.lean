/- From a run of the evaluator to a row's call. -/
import Derived.Test.YtdcbglljljfleaaAbsZ
import Derived.RowKit
import Derived.Carry
import Derived.ChangeAt
import Derived.ChangeShapes
import Derived.JoinedOf
import Derived.JoinedAt
import Derived.Handed
set_option linter.unusedSimpArgs false
set_option linter.unusedVariables false
set_option linter.unusedSectionVars false
set_option linter.constructorNameAsVariable false
namespace Go.Proofs.Ytdcbglljljfleaa.Abs
open Go.ChangeShapes Go.WideShapes Go.ChangeAt Go.RowKit
def isT : VO → Bool
 | .val (.bool true) _ => true
 | _ => false
theorem isT_spec {x : VO} (h : isT x = true) : ∃ h', x = .val (.bool true) h' := by
 unfold isT at h
 split at h
 ·exact ⟨_, rfl⟩
 ·cases h
theorem TabOk.e (P : Program) : TabOk P .e := fun f fi h => by simp at h
theorem TabOk.set {P : Program} {T : Tr FnI} (h : TabOk P T) {f : Nat} {fi : FnI} (hf : compFn P f = some fi) : TabOk P (T.set f fi) := by
 intro g gi hg
 by_cases e : g = f
 ·subst e; rw [Tr.get_set_same] at hg; cases hg; exact hf
 ·rw [Tr.get_set_ne _ _ e] at hg; exact h g gi hg
def plainSta (P : Program) (tok : Nat → Value) : Sta := ⟨P, fun _ => [], fun _ => ⟨P.globals.size, 0, none⟩, tok⟩
theorem below_of_stp {S : Sta} {W : World} {ρ' : Ren} {h' : AH} {W' : World} (s : Stp S W (fun _ => none) ⟨.e, 0⟩ W ρ' h' W') : Below W.heap.size W { W' with tape := W.tape } :=
 ⟨s.rel.os, rfl, s.rel.output, s.grow, fun k hk => s.frame k hk (by rintro ⟨id, o, l, h1, _⟩; simp [AH.get] at h1)⟩
theorem plain_ro {P : Program} {tok : Nat → Value} {W : World} : RoOk (plainSta P tok) W := ⟨rfl, fun i h => absurd rfl h, fun i j v h => by simp [plainSta] at h⟩
theorem empty_rel {S : Sta} {W : World} : Rel S W (fun _ => none) ⟨.e, 0⟩ W :=
 ⟨fun id o h => by simp [AH.get] at h, fun id o h => by simp [AH.get] at h, fun i j oi oj li lj h => by simp [AH.get] at h, fun _ _ => rfl, Nat.le_refl _, rfl, rfl⟩
theorem const_of_run {P : Program} {T : Tr FnI} (hT : TabOk P T) {n f : Nat} (he : isT (run (fun _ => []) T n (.func f) [] ⟨.e, 0⟩) = true) {S : Sta} (hS : S.P = P) (w0 : World) : ConstOk S w0 f (.bool true) := by
 subst hS
 intro ρ h w r
 obtain ⟨h'', he⟩ := isT_spec he
 have h1 := ((run_sound (S := plainSta S.P fun _ => undef) (w0 := w) plain_ro (TabOk.s (S := plainSta S.P fun _ => undef) hT) n).func f [] _ _ _ he).2 (fun _ => none) w #[] empty_rel (fun _ _ _ => rfl) trivial
 refine ⟨h1.1, h1.2.mono ?_⟩
 rintro e w' ⟨ρ', c, rfl, s, hv⟩
 simp only [VR] at hv; subst hv
 have hno : ∀ b, ¬ Owned (fun _ => none) (⟨.e, 0⟩ : AH) b := by rintro b ⟨id, o, l, h1, _⟩; simp [AH.get] at h1
 have hfr : ∀ b, b < w.heap.size → w'.heap[b]? = w.heap[b]? := fun b hb => s.frame b hb (hno b)
 exact ⟨ρ, _, rfl, ⟨fun _ _ => rfl, Nat.le_refl _, r.later hfr s.grow s.rel.os s.rel.output, fun b hb _ => hfr b hb, s.grow, fun b ho => .inl ho⟩, rfl⟩
theorem calls_true_ro {S : Sta} {T : Tr FnI} {W : World} (ro : RoOk S W) (hT : TabS S W T) {n f : Nat} {args : List AV} (he : isT (run S.B T n (.func f) args ⟨.e, 0⟩) = true)
  {cargs : Array Value} (hargs : VRs S (fun _ => none) args cargs.toList) :
  Calls S.P f cargs W fun e W' => e = .returned (.bool true) ∧ Below W.heap.size W { W' with tape := W.tape } := by
 obtain ⟨h', he⟩ := isT_spec he
 have h1 := ((run_sound ro hT n).func f args _ _ _ he).2 (fun _ => none) W cargs empty_rel (fun _ _ _ => rfl) hargs
 refine callsIn_wide.1 (h1.2.mono ?_)
 rintro e W' ⟨ρ', c, rfl, s, hv⟩
 simp only [VR] at hv; subst hv
 exact ⟨rfl, below_of_stp s⟩
/-! ### Arguments that nobody looks into -/
theorem cell_one {P : Program} {w : World} {r : Reach} {base : Nat} {t : TypeId} {v : Value} (h : Cell.okWide P w r base t v) : v.oneCell' = true := by
 unfold Cell.okWide Cell.ok at h
 cases v <;> first | rfl | skip
 all_goals
  exfalso
  repeat' (split at h)
  all_goals first | exact h | (rename_i e; cases e) | simp_all
def shapeOf (P : Program) (t : TypeId) : Bool × Nat :=
 match P.underlying t with
 | some (.struct _) | some (.array _ _) => (true, P.cellsOf t)
 | _ => (false, 1)
def ArgsFit : List (Bool × Nat) → List Value → Prop
 | [], [] => True
 | (true, n) :: r, v :: vs => (∃ cs, v = .agg cs ∧ cs.size = n ∧ ∀ (i : Nat) (c : Value), cs[i]? = some c → c.oneCell' = true) ∧ ArgsFit r vs
 | (false, _) :: r, v :: vs => v.oneCell' = true ∧ ArgsFit r vs
 | _, _ => False
theorem argsFit_of {P : Program} {W : World} {r : Reach} {base : Nat} : ∀ {ts : List TypeId} {vs : List Value}, vs.length = ts.length → (∀ (j : Nat) t v, ts[j]? = some t → vs[j]? = some v → Value.okWide P W r base t v) → ArgsFit (ts.map (shapeOf P)) vs := by
 intro ts
 induction ts with
 | nil => intro vs hl _; cases vs with
  | nil => trivial
  | cons _ _ => cases hl
 | cons t ts ih =>
  intro vs hl hv
  cases vs with
  | nil => cases hl
  | cons v vs =>
   have h0 := hv 0 t v rfl rfl
   have hr := ih (vs := vs) (by simpa using hl) fun j t v h1 h2 => hv (j + 1) t v (by simpa using h1) (by simpa using h2)
   have agg : (∃ cs, v = .agg cs ∧ cs.size = P.cellsOf t ∧ Row.okWide P W r base t cs) → ∃ cs, v = .agg cs ∧ cs.size = P.cellsOf t ∧ ∀ (i : Nat) (c : Value), cs[i]? = some c → c.oneCell' = true := by
    rintro ⟨cs, rfl, h1, ts, _, _, h2⟩
    refine ⟨cs, rfl, h1, fun i c hc => ?_⟩
    obtain ⟨u, _, hu⟩ := h2 i c hc
    exact cell_one hu
   simp only [List.map_cons, shapeOf]
   unfold Value.okWide at h0
   split
   ·rename_i fs e; simp only [e] at h0; exact ⟨agg h0, hr⟩
   ·rename_i e; simp only [e] at h0; exact ⟨agg h0, hr⟩
   ·rename_i e1 e2
    split at h0
    ·rename_i fs e; exact absurd e (e1 _)
    ·rename_i e; exact absurd e (e2 _ _)
    ·exact ⟨cell_one h0, hr⟩
/-! ### The row -/
theorem below_trodAll {H : Type} {enc : TypeId × Value → H} {P : Program} (hl : laidOutB P = true) {W W' : World} (hb : Below W.heap.size W { W' with tape := W.tape }) :
  ∀ {ts : List TypeId} {vs : List Value} {ds : List (DataW H)} {ps : List MemPlace}, ts.all (fun t => P.readableRec t && decide (t < P.types.size)) = true →
   DataW.TrodAll enc P W 0 (fun _ => true) true ts vs ds ps → (∀ x ∈ ps, x.block < W.heap.size) → DataW.TrodAll enc P W' 0 (fun b => decide (b < W.heap.size)) true ts vs ds ps
 | [], _, _, _, _, h, _ => by
  obtain ⟨rfl, rfl, rfl⟩ := trodAll_nil h
  rfl
 | t :: ts, _, _, _, ht, h, hlt => by
  obtain ⟨v, vs1, d, ds1, a, b, rfl, rfl, rfl, h1, h2⟩ := trodAll_cons h
  simp only [List.all_cons, Bool.and_eq_true, decide_eq_true_eq] at ht
  refine ⟨a, b, ?_, below_trodAll hl hb ht.2 h2 fun x hx => hlt x (by simp [hx]), rfl⟩
  obtain ⟨fuel, hf⟩ := Below.trod hl ht.1.1 ht.1.2 h1 hb fun x hx => hlt x (by simp [hx])
  exact ⟨fuel, by rw [← hf]; exact DataW.trod_heap (w := W') (w' := { W' with tape := W.tape }) rfl _ _ _⟩
end Go.Proofs.Ytdcbglljljfleaa.Abs
