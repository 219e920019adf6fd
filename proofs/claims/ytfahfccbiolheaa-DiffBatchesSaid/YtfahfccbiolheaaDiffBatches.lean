/- Proved: for every input the law DiffBatches returns true, and its argument reads afterwards as it read before. Conditions: none beyond what the row's own cells say. -/
import Derived.Test.YtfahfccbiolheaaDbC
set_option maxRecDepth 100000
set_option linter.unusedSimpArgs false
set_option linter.unusedVariables false
namespace Go.Proofs.Ytfahfccbiolheaa
open Go.ChangeShapes Go.WideShapes Go.ChangeAt Go.RowKit Go.Proofs.Ytfahfccbiolheaa.Abs Go.Proofs.Ytfahfccbiolheaa.DB

theorem diffBatches_own : ownKnob Try.prog.godebug = none := by kernel_rfl
theorem diffBatches_laid : laidOutB Try.prog = true := by kernel_rfl
/-- What the reading shows of the arguments. -/
theorem diffBatches_shapes : Try.f4.params.toList.map (shapeOf Try.prog) = [(false, 1), (false, 1)] := by kernel_rfl
theorem diffBatches_res : Try.f4.resultTypes = #[4] := by kernel_rfl
theorem diffBatches_bool : Try.prog.underlying 4 = some .bool := by kernel_rfl

noncomputable def diffBatchesArgs : Array Value := #[.slice none 0 0, .int .i64 (.ofNat 0)]

theorem diffBatches_lifted (os : Os) (started : os.Started) (H : Type) (enc : TypeId × Value → H) :
    ReturnsInHanded {} Try.checked os 4 .any (Rows.diffBatchesSpec.pre6 enc Try.prog Try.f4 Rows.diffBatchesRow.domain Rows.diffBatchesRow.apart)
      (Rows.diffBatchesSpec.post enc Try.prog Try.f4 Rows.diffBatchesRow.apart Rows.diffBatchesRow.fresh Rows.diffBatchesRow.handsOn Rows.diffBatchesRow.again) := by
  refine law_logic (C := Try.checked) diffBatches_own started (by kernel_rfl) Try.func4
    (ChangeSpec.witness6 (enc := enc) (C := Try.checked) false ⟨#[], diffBatchesArgs, []⟩ 8 (by kernel_rfl) (by kernel_rfl) (by kernel_rfl) (by kernel_rfl))
    diffBatches_laid (by kernel_rfl) rfl ?_ diffBatches_res diffBatches_bool (l := [3, 4, 9, 29, 35, 36, 42]) (by kernel_rfl) (by kernel_rfl) (fun S w0 h => tab_s S w0 h) (fun B args h => diffBatches_wf B args h)
  intro ds hd
  rw [Try.params4] at hd
  match ds, hd with
  | [d0, d1], _ => rfl

theorem diffBatches_named : Try.prog.funcNamed Rows.diffBatchesRow.func = some 4 := by kernel_rfl
theorem diffBatches_mapsRowed : mapsRowed Try.prog = true := by kernel_rfl
theorem diffBatches_inPlace : (Rows.diffBatchesRow.inPlace == Try.prog.inPlace 4) = true := by kernel_rfl
theorem diffBatches_unfollowed : (Rows.diffBatchesRow.unfollowed == Try.prog.unfollowed 4) = true := by kernel_rfl
theorem diffBatches_recurses : (Rows.diffBatchesRow.recurses == Try.prog.recurses 4) = true := by kernel_rfl
theorem diffBatches_vars : (Rows.diffBatchesRow.named == Try.prog.varsNamed 4) = true := by kernel_rfl
theorem diffBatches_plainKeys : (Rows.diffBatchesRow.plainKeys == Try.prog.plainKeys) = true := by kernel_rfl
theorem diffBatches_stopsHeard : Try.prog.stopsHeard = true := by kernel_rfl
theorem diffBatches_mayEnter : Try.prog.mayEnter = true := by kernel_rfl
theorem diffBatches_lifts : (Rows.diffBatchesRow.lifted == Try.prog.liftsFinal) = true := by kernel_rfl
theorem diffBatches_make : (Try.prog.make == some Rows.diffBatchesRow.make) = true := by kernel_rfl
theorem diffBatches_joined : joinedFacts Try.prog 4 Try.f4 Rows.diffBatchesSpec Rows.diffBatchesRow = true := by
  unfold joinedFacts
  rw [diffBatches_laid, diffBatches_mapsRowed, diffBatches_inPlace, diffBatches_unfollowed, diffBatches_recurses, diffBatches_vars, diffBatches_plainKeys, diffBatches_stopsHeard, diffBatches_mayEnter, diffBatches_lifts, diffBatches_make]
  kernel_rfl
theorem diffBatches_instance : Try.f4.isInstance Try.prog Rows.diffBatchesRow.origin Rows.diffBatchesRow.targs := of_decide_eq_true (by kernel_rfl)
theorem diffBatches_wrapper : Try.f4.isWrapper Try.prog Rows.diffBatchesRow.wrapper Rows.diffBatchesRow.mainSum := by
  unfold Func.isWrapper; first | (rw [if_pos (by decide +kernel)]; kernel_rfl) | (rw [if_neg (by decide +kernel)]; exact ⟨rfl, rfl⟩)

theorem diffBatches_holds : Rows.DiffBatchesSaid :=
  OpenClaim.holds_of_wide 4 Try.f4 rfl rfl rfl rfl rfl rfl rfl ⟨rfl, rfl, rfl, rfl, rfl⟩ rfl rfl rfl rfl rfl diffBatches_named Try.func4 diffBatches_joined
    diffBatches_instance diffBatches_wrapper
    (fun os started H enc _ => diffBatches_lifted os started H enc)
end Go.Proofs.Ytfahfccbiolheaa
