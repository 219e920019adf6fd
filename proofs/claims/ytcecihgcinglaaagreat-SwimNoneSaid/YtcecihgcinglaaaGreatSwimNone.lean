/- Proved: for every input the law SwimNone returns true, and its argument reads afterwards as it read before. Conditions: none beyond what the row's own cells say. -/
import Derived.Test.YtcecihgcinglaaaGreatSwimNoneTab
set_option maxRecDepth 100000
set_option linter.unusedSimpArgs false
set_option linter.unusedVariables false
namespace Go.Proofs.YtcecihgcinglaaaGreat
open Go.ChangeShapes Go.WideShapes Go.ChangeAt Go.RowKit Go.Proofs.YtcecihgcinglaaaGreat.Abs Go.Proofs.YtcecihgcinglaaaGreat.AbsSwimNone

/-- The evaluator's run of the law, over tokens. -/
theorem swimNone_run : isT (run (fun _ => []) tab 200 (.func 4) (argToks [(true, 3), (false, 1)] 0) ⟨.e, 0⟩) = true := by kernel_rfl

theorem swimNone_own : ownKnob Tryz.prog.godebug = none := by kernel_rfl
theorem swimNone_laid : laidOutB Tryz.prog = true := by kernel_rfl
theorem swimNone_shapes : Tryz.f4.params.toList.map (shapeOf Tryz.prog) = [(true, 3), (false, 1)] := by kernel_rfl
theorem swimNone_res : Tryz.f4.resultTypes = #[4] := by kernel_rfl
theorem swimNone_bool : Tryz.prog.underlying 4 = some .bool := by kernel_rfl

noncomputable def swimNoneArgs : Array Value := #[.agg #[.int .i64 (.ofNat 0), .int .i64 (.ofNat 0), .slice none 0 0], .int .i64 (.ofNat 0)]

theorem swimNone_lifted (os : Os) (started : os.Started) (H : Type) (enc : TypeId × Value → H) :
    ReturnsInHanded {} Tryz.checked os 4 .any (Rows.swimNoneSpec.pre6 enc Tryz.prog Tryz.f4 Rows.swimNoneRow.domain Rows.swimNoneRow.apart)
      (Rows.swimNoneSpec.post enc Tryz.prog Tryz.f4 Rows.swimNoneRow.apart Rows.swimNoneRow.fresh Rows.swimNoneRow.handsOn Rows.swimNoneRow.again) := by
  refine law_true (C := Tryz.checked) swimNone_own started (by kernel_rfl) Tryz.func4
    (ChangeSpec.witness6 (enc := enc) (C := Tryz.checked) false ⟨#[], swimNoneArgs, []⟩ 8 (by kernel_rfl) (by kernel_rfl) (by kernel_rfl) (by kernel_rfl))
    swimNone_laid (by kernel_rfl) rfl ?_ swimNone_res swimNone_bool ?_
  · intro ds hd
    rw [Tryz.params4] at hd
    match ds, hd with
    | [d0, d1], _ => rfl
  · intro W base args hsz hval
    exact calls_true_any tab_ok swimNone_run swimNone_shapes hsz hval

theorem swimNone_named : Tryz.prog.funcNamed Rows.swimNoneRow.func = some 4 := by kernel_rfl
theorem swimNone_mapsRowed : mapsRowed Tryz.prog = true := by kernel_rfl
theorem swimNone_inPlace : (Rows.swimNoneRow.inPlace == Tryz.prog.inPlace 4) = true := by kernel_rfl
theorem swimNone_unfollowed : (Rows.swimNoneRow.unfollowed == Tryz.prog.unfollowed 4) = true := by kernel_rfl
theorem swimNone_recurses : (Rows.swimNoneRow.recurses == Tryz.prog.recurses 4) = true := by kernel_rfl
theorem swimNone_vars : (Rows.swimNoneRow.named == Tryz.prog.varsNamed 4) = true := by kernel_rfl
theorem swimNone_plainKeys : (Rows.swimNoneRow.plainKeys == Tryz.prog.plainKeys) = true := by kernel_rfl
theorem swimNone_stopsHeard : Tryz.prog.stopsHeard = true := by kernel_rfl
theorem swimNone_mayEnter : Tryz.prog.mayEnter = true := by kernel_rfl
theorem swimNone_lifts : (Rows.swimNoneRow.lifted == Tryz.prog.liftsFinal) = true := by kernel_rfl
theorem swimNone_make : (Tryz.prog.make == some Rows.swimNoneRow.make) = true := by kernel_rfl
theorem swimNone_joined : joinedFacts Tryz.prog 4 Tryz.f4 Rows.swimNoneSpec Rows.swimNoneRow = true := by
  unfold joinedFacts
  rw [swimNone_laid, swimNone_mapsRowed, swimNone_inPlace, swimNone_unfollowed, swimNone_recurses, swimNone_vars, swimNone_plainKeys, swimNone_stopsHeard, swimNone_mayEnter, swimNone_lifts, swimNone_make]
  kernel_rfl
theorem swimNone_instance : Tryz.f4.isInstance Tryz.prog Rows.swimNoneRow.origin Rows.swimNoneRow.targs := of_decide_eq_true (by kernel_rfl)
theorem swimNone_wrapper : Tryz.f4.isWrapper Tryz.prog Rows.swimNoneRow.wrapper Rows.swimNoneRow.mainSum := by
  unfold Func.isWrapper; first | (rw [if_pos (by decide +kernel)]; kernel_rfl) | (rw [if_neg (by decide +kernel)]; exact ⟨rfl, rfl⟩)

theorem swimNone_holds : Rows.SwimNoneSaid :=
  OpenClaim.holds_of_wide 4 Tryz.f4 rfl rfl rfl rfl rfl rfl rfl ⟨rfl, rfl, rfl, rfl, rfl⟩ rfl rfl rfl rfl rfl swimNone_named Tryz.func4 swimNone_joined
    swimNone_instance swimNone_wrapper
    (fun os started H enc _ => swimNone_lifted os started H enc)
end Go.Proofs.YtcecihgcinglaaaGreat
