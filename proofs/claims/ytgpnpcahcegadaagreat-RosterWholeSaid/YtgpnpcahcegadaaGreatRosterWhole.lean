/- Proved: for every input the law RosterWhole returns true, and its argument reads afterwards as it read before. Conditions: none beyond what the row's own cells say. -/
import Derived.Test.YtgpnpcahcegadaaGreatRoW
set_option maxRecDepth 100000
set_option linter.unusedSimpArgs false
set_option linter.unusedVariables false
namespace Go.Proofs.YtgpnpcahcegadaaGreat
open Go.ChangeShapes Go.WideShapes Go.ChangeAt Go.RowKit Go.Proofs.YtgpnpcahcegadaaGreat.Abs Go.Proofs.YtgpnpcahcegadaaGreat.RO

theorem rosterWhole_own : ownKnob Tryz.prog.godebug = none := by kernel_rfl
theorem rosterWhole_laid : laidOutB Tryz.prog = true := by kernel_rfl
/-- What the reading shows of the arguments. -/
theorem rosterWhole_shapes : Tryz.f4.params.toList.map (shapeOf Tryz.prog) = [(false, 1)] := by kernel_rfl
theorem rosterWhole_res : Tryz.f4.resultTypes = #[4] := by kernel_rfl
theorem rosterWhole_bool : Tryz.prog.underlying 4 = some .bool := by kernel_rfl

noncomputable def rosterWholeArgs : Array Value := #[.slice none 0 0]

theorem rosterWhole_lifted (os : Os) (started : os.Started) (H : Type) (enc : TypeId × Value → H) :
    ReturnsInHanded {} Tryz.checked os 4 .any (Rows.rosterWholeSpec.pre6 enc Tryz.prog Tryz.f4 Rows.rosterWholeRow.domain Rows.rosterWholeRow.apart)
      (Rows.rosterWholeSpec.post enc Tryz.prog Tryz.f4 Rows.rosterWholeRow.apart Rows.rosterWholeRow.fresh Rows.rosterWholeRow.handsOn Rows.rosterWholeRow.again) := by
  refine law_logic (C := Tryz.checked) rosterWhole_own started (by kernel_rfl) Tryz.func4
    (ChangeSpec.witness6 (enc := enc) (C := Tryz.checked) false ⟨#[], rosterWholeArgs, []⟩ 8 (by kernel_rfl) (by kernel_rfl) (by kernel_rfl) (by kernel_rfl))
    rosterWhole_laid (by kernel_rfl) rfl ?_ rosterWhole_res rosterWhole_bool (l := [3, 9, 22, 28, 29, 31, 33, 35]) (by kernel_rfl) (by kernel_rfl) (fun S w0 h => tab_s S w0 h) (fun B args h => rosterWhole_wf B args h)
  intro ds hd
  rw [Tryz.params4] at hd
  match ds, hd with
  | [d0], _ => rfl

theorem rosterWhole_named : Tryz.prog.funcNamed Rows.rosterWholeRow.func = some 4 := by kernel_rfl
theorem rosterWhole_mapsRowed : mapsRowed Tryz.prog = true := by kernel_rfl
theorem rosterWhole_inPlace : (Rows.rosterWholeRow.inPlace == Tryz.prog.inPlace 4) = true := by kernel_rfl
theorem rosterWhole_unfollowed : (Rows.rosterWholeRow.unfollowed == Tryz.prog.unfollowed 4) = true := by kernel_rfl
theorem rosterWhole_recurses : (Rows.rosterWholeRow.recurses == Tryz.prog.recurses 4) = true := by kernel_rfl
theorem rosterWhole_vars : (Rows.rosterWholeRow.named == Tryz.prog.varsNamed 4) = true := by kernel_rfl
theorem rosterWhole_plainKeys : (Rows.rosterWholeRow.plainKeys == Tryz.prog.plainKeys) = true := by kernel_rfl
theorem rosterWhole_stopsHeard : Tryz.prog.stopsHeard = true := by kernel_rfl
theorem rosterWhole_mayEnter : Tryz.prog.mayEnter = true := by kernel_rfl
theorem rosterWhole_lifts : (Rows.rosterWholeRow.lifted == Tryz.prog.liftsFinal) = true := by kernel_rfl
theorem rosterWhole_make : (Tryz.prog.make == some Rows.rosterWholeRow.make) = true := by kernel_rfl
theorem rosterWhole_joined : joinedFacts Tryz.prog 4 Tryz.f4 Rows.rosterWholeSpec Rows.rosterWholeRow = true := by
  unfold joinedFacts
  rw [rosterWhole_laid, rosterWhole_mapsRowed, rosterWhole_inPlace, rosterWhole_unfollowed, rosterWhole_recurses, rosterWhole_vars, rosterWhole_plainKeys, rosterWhole_stopsHeard, rosterWhole_mayEnter, rosterWhole_lifts, rosterWhole_make]
  kernel_rfl
theorem rosterWhole_instance : Tryz.f4.isInstance Tryz.prog Rows.rosterWholeRow.origin Rows.rosterWholeRow.targs := of_decide_eq_true (by kernel_rfl)
theorem rosterWhole_wrapper : Tryz.f4.isWrapper Tryz.prog Rows.rosterWholeRow.wrapper Rows.rosterWholeRow.mainSum := by
  unfold Func.isWrapper; first | (rw [if_pos (by decide +kernel)]; kernel_rfl) | (rw [if_neg (by decide +kernel)]; exact ⟨rfl, rfl⟩)

theorem rosterWhole_holds : Rows.RosterWholeSaid :=
  OpenClaim.holds_of_wide 4 Tryz.f4 rfl rfl rfl rfl rfl rfl rfl ⟨rfl, rfl, rfl, rfl, rfl⟩ rfl rfl rfl rfl rfl rosterWhole_named Tryz.func4 rosterWhole_joined
    rosterWhole_instance rosterWhole_wrapper
    (fun os started H enc _ => rosterWhole_lifted os started H enc)
end Go.Proofs.YtgpnpcahcegadaaGreat
