/- Proved: for every input the law DiffTells returns true, and its argument reads afterwards as it read before. Conditions: none beyond what the row's own cells say. -/
import Derived.Test.YtfahfccbiolheaaDtC
set_option maxRecDepth 100000
set_option linter.unusedSimpArgs false
set_option linter.unusedVariables false
namespace Go.Proofs.Ytfahfccbiolheaa
open Go.ChangeShapes Go.WideShapes Go.ChangeAt Go.RowKit Go.Proofs.Ytfahfccbiolheaa.Abs Go.Proofs.Ytfahfccbiolheaa.DT

theorem diffTells_own : ownKnob Try.prog.godebug = none := by kernel_rfl
theorem diffTells_laid : laidOutB Try.prog = true := by kernel_rfl
/-- What the reading shows of the arguments. -/
theorem diffTells_shapes : Try.f3.params.toList.map (shapeOf Try.prog) = [(true, 5), (true, 5)] := by kernel_rfl
theorem diffTells_res : Try.f3.resultTypes = #[4] := by kernel_rfl
theorem diffTells_bool : Try.prog.underlying 4 = some .bool := by kernel_rfl

noncomputable def diffTellsArgs : Array Value := #[.agg #[.bool false, .int .i64 (.ofNat 0), .string ⟨#[]⟩, .slice none 0 0, .slice none 0 0], .agg #[.bool false, .int .i64 (.ofNat 0), .string ⟨#[]⟩, .slice none 0 0, .slice none 0 0]]

theorem diffTells_lifted (os : Os) (started : os.Started) (H : Type) (enc : TypeId × Value → H) :
    ReturnsInHanded {} Try.checked os 3 .any (Rows.diffTellsSpec.pre6 enc Try.prog Try.f3 Rows.diffTellsRow.domain Rows.diffTellsRow.apart)
      (Rows.diffTellsSpec.post enc Try.prog Try.f3 Rows.diffTellsRow.apart Rows.diffTellsRow.fresh Rows.diffTellsRow.handsOn Rows.diffTellsRow.again) := by
  refine law_logic (C := Try.checked) diffTells_own started (by kernel_rfl) Try.func3
    (ChangeSpec.witness6 (enc := enc) (C := Try.checked) false ⟨#[], diffTellsArgs, []⟩ 8 (by kernel_rfl) (by kernel_rfl) (by kernel_rfl) (by kernel_rfl))
    diffTells_laid (by kernel_rfl) rfl ?_ diffTells_res diffTells_bool (l := [3, 4, 9, 22, 23, 25, 35, 36, 38, 40]) (by kernel_rfl) (by kernel_rfl) (fun S w0 h => tab_s S w0 h) (fun B args h => diffTells_wf B args h)
  intro ds hd
  rw [Try.params3] at hd
  match ds, hd with
  | [d0, d1], _ => rfl

theorem diffTells_named : Try.prog.funcNamed Rows.diffTellsRow.func = some 3 := by kernel_rfl
theorem diffTells_mapsRowed : mapsRowed Try.prog = true := by kernel_rfl
theorem diffTells_inPlace : (Rows.diffTellsRow.inPlace == Try.prog.inPlace 3) = true := by kernel_rfl
theorem diffTells_unfollowed : (Rows.diffTellsRow.unfollowed == Try.prog.unfollowed 3) = true := by kernel_rfl
theorem diffTells_recurses : (Rows.diffTellsRow.recurses == Try.prog.recurses 3) = true := by kernel_rfl
theorem diffTells_vars : (Rows.diffTellsRow.named == Try.prog.varsNamed 3) = true := by kernel_rfl
theorem diffTells_plainKeys : (Rows.diffTellsRow.plainKeys == Try.prog.plainKeys) = true := by kernel_rfl
theorem diffTells_stopsHeard : Try.prog.stopsHeard = true := by kernel_rfl
theorem diffTells_mayEnter : Try.prog.mayEnter = true := by kernel_rfl
theorem diffTells_lifts : (Rows.diffTellsRow.lifted == Try.prog.liftsFinal) = true := by kernel_rfl
theorem diffTells_make : (Try.prog.make == some Rows.diffTellsRow.make) = true := by kernel_rfl
theorem diffTells_joined : joinedFacts Try.prog 3 Try.f3 Rows.diffTellsSpec Rows.diffTellsRow = true := by
  unfold joinedFacts
  rw [diffTells_laid, diffTells_mapsRowed, diffTells_inPlace, diffTells_unfollowed, diffTells_recurses, diffTells_vars, diffTells_plainKeys, diffTells_stopsHeard, diffTells_mayEnter, diffTells_lifts, diffTells_make]
  kernel_rfl
theorem diffTells_instance : Try.f3.isInstance Try.prog Rows.diffTellsRow.origin Rows.diffTellsRow.targs := of_decide_eq_true (by kernel_rfl)
theorem diffTells_wrapper : Try.f3.isWrapper Try.prog Rows.diffTellsRow.wrapper Rows.diffTellsRow.mainSum := by
  unfold Func.isWrapper; first | (rw [if_pos (by decide +kernel)]; kernel_rfl) | (rw [if_neg (by decide +kernel)]; exact ⟨rfl, rfl⟩)

theorem diffTells_holds : Rows.DiffTellsSaid :=
  OpenClaim.holds_of_wide 3 Try.f3 rfl rfl rfl rfl rfl rfl rfl ⟨rfl, rfl, rfl, rfl, rfl⟩ rfl rfl rfl rfl rfl diffTells_named Try.func3 diffTells_joined
    diffTells_instance diffTells_wrapper
    (fun os started H enc _ => diffTells_lifted os started H enc)
end Go.Proofs.Ytfahfccbiolheaa
