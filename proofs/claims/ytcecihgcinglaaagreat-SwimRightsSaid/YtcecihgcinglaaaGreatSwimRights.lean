/- Proved: for every input the law SwimRights returns true, and its argument reads afterwards as it read before. Conditions: none beyond what the row's own cells say. -/
import Derived.Test.YtcecihgcinglaaaGreatSRSpec
set_option maxRecDepth 100000
set_option linter.unusedSimpArgs false
set_option linter.unusedVariables false
namespace Go.Proofs.YtcecihgcinglaaaGreat
open Go.ChangeShapes Go.WideShapes Go.ChangeAt Go.RowKit Go.Proofs.YtcecihgcinglaaaGreat.Abs Go.Proofs.YtcecihgcinglaaaGreat.SR

theorem swimRights_own : ownKnob Tryz.prog.godebug = none := by kernel_rfl
theorem swimRights_laid : laidOutB Tryz.prog = true := by kernel_rfl
/-- What the reading shows of the arguments. -/
theorem swimRights_shapes : Tryz.f3.params.toList.map (shapeOf Tryz.prog) = [(true, 11)] := by kernel_rfl
theorem swimRights_res : Tryz.f3.resultTypes = #[4] := by kernel_rfl
theorem swimRights_bool : Tryz.prog.underlying 4 = some .bool := by kernel_rfl

noncomputable def swimRightsArgs : Array Value := #[.agg #[.int .i64 (.ofNat 0), .int .i64 (.ofNat 0), .int .i64 (.ofNat 0), .int .i64 (.ofNat 0), .int .i64 (.ofNat 0), .int .i64 (.ofNat 0), .int .i64 (.ofNat 0), .int .i64 (.ofNat 0), .int .i64 (.ofNat 0), .int .i64 (.ofNat 0), .int .i64 (.ofNat 0)]]

theorem swimRights_lifted (os : Os) (started : os.Started) (H : Type) (enc : TypeId × Value → H) :
    ReturnsInHanded {} Tryz.checked os 3 .any (Rows.swimRightsSpec.pre6 enc Tryz.prog Tryz.f3 Rows.swimRightsRow.domain Rows.swimRightsRow.apart)
      (Rows.swimRightsSpec.post enc Tryz.prog Tryz.f3 Rows.swimRightsRow.apart Rows.swimRightsRow.fresh Rows.swimRightsRow.handsOn Rows.swimRightsRow.again) := by
  refine law_logic (C := Tryz.checked) swimRights_own started (by kernel_rfl) Tryz.func3
    (ChangeSpec.witness6 (enc := enc) (C := Tryz.checked) false ⟨#[], swimRightsArgs, []⟩ 8 (by kernel_rfl) (by kernel_rfl) (by kernel_rfl) (by kernel_rfl))
    swimRights_laid (by kernel_rfl) rfl ?_ swimRights_res swimRights_bool (l := [3, 23]) (by kernel_rfl) (by kernel_rfl) (fun S w0 h => tab_s S w0 h) (fun B args h => swimRights_wf B args h)
  intro ds hd
  rw [Tryz.params3] at hd
  match ds, hd with
  | [d0], _ => rfl

theorem swimRights_named : Tryz.prog.funcNamed Rows.swimRightsRow.func = some 3 := by kernel_rfl
theorem swimRights_mapsRowed : mapsRowed Tryz.prog = true := by kernel_rfl
theorem swimRights_inPlace : (Rows.swimRightsRow.inPlace == Tryz.prog.inPlace 3) = true := by kernel_rfl
theorem swimRights_unfollowed : (Rows.swimRightsRow.unfollowed == Tryz.prog.unfollowed 3) = true := by kernel_rfl
theorem swimRights_recurses : (Rows.swimRightsRow.recurses == Tryz.prog.recurses 3) = true := by kernel_rfl
theorem swimRights_vars : (Rows.swimRightsRow.named == Tryz.prog.varsNamed 3) = true := by kernel_rfl
theorem swimRights_plainKeys : (Rows.swimRightsRow.plainKeys == Tryz.prog.plainKeys) = true := by kernel_rfl
theorem swimRights_stopsHeard : Tryz.prog.stopsHeard = true := by kernel_rfl
theorem swimRights_mayEnter : Tryz.prog.mayEnter = true := by kernel_rfl
theorem swimRights_lifts : (Rows.swimRightsRow.lifted == Tryz.prog.liftsFinal) = true := by kernel_rfl
theorem swimRights_make : (Tryz.prog.make == some Rows.swimRightsRow.make) = true := by kernel_rfl
theorem swimRights_joined : joinedFacts Tryz.prog 3 Tryz.f3 Rows.swimRightsSpec Rows.swimRightsRow = true := by
  unfold joinedFacts
  rw [swimRights_laid, swimRights_mapsRowed, swimRights_inPlace, swimRights_unfollowed, swimRights_recurses, swimRights_vars, swimRights_plainKeys, swimRights_stopsHeard, swimRights_mayEnter, swimRights_lifts, swimRights_make]
  kernel_rfl
theorem swimRights_instance : Tryz.f3.isInstance Tryz.prog Rows.swimRightsRow.origin Rows.swimRightsRow.targs := of_decide_eq_true (by kernel_rfl)
theorem swimRights_wrapper : Tryz.f3.isWrapper Tryz.prog Rows.swimRightsRow.wrapper Rows.swimRightsRow.mainSum := by
  unfold Func.isWrapper; first | (rw [if_pos (by decide +kernel)]; kernel_rfl) | (rw [if_neg (by decide +kernel)]; exact ⟨rfl, rfl⟩)

theorem swimRights_holds : Rows.SwimRightsSaid :=
  OpenClaim.holds_of_wide 3 Tryz.f3 rfl rfl rfl rfl rfl rfl rfl ⟨rfl, rfl, rfl, rfl, rfl⟩ rfl rfl rfl rfl rfl swimRights_named Tryz.func3 swimRights_joined
    swimRights_instance swimRights_wrapper
    (fun os started H enc _ => swimRights_lifted os started H enc)
end Go.Proofs.YtcecihgcinglaaaGreat
