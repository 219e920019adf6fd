/- Proved: for every input the law RosterBack returns true, and its argument reads afterwards as it read before. Conditions: none beyond what the row's own cells say. -/
import Derived.Test.YtgpnpcahcegadaaGreatRoL
set_option maxRecDepth 100000
set_option linter.unusedSimpArgs false
set_option linter.unusedVariables false
namespace Go.Proofs.YtgpnpcahcegadaaGreat
open Go.ChangeShapes Go.WideShapes Go.ChangeAt Go.RowKit Go.Proofs.YtgpnpcahcegadaaGreat.Abs Go.Proofs.YtgpnpcahcegadaaGreat.RO

theorem rosterBack_own : ownKnob Tryz.prog.godebug = none := by kernel_rfl
theorem rosterBack_laid : laidOutB Tryz.prog = true := by kernel_rfl
/-- What the reading shows of the arguments. -/
theorem rosterBack_shapes : Tryz.f6.params.toList.map (shapeOf Tryz.prog) = [(false, 1)] := by kernel_rfl
theorem rosterBack_res : Tryz.f6.resultTypes = #[4] := by kernel_rfl
theorem rosterBack_bool : Tryz.prog.underlying 4 = some .bool := by kernel_rfl

noncomputable def rosterBackArgs : Array Value := #[.slice none 0 0]

theorem rosterBack_lifted (os : Os) (started : os.Started) (H : Type) (enc : TypeId × Value → H) :
    ReturnsInHanded {} Tryz.checked os 6 .any (Rows.rosterBackSpec.pre6 enc Tryz.prog Tryz.f6 Rows.rosterBackRow.domain Rows.rosterBackRow.apart)
      (Rows.rosterBackSpec.post enc Tryz.prog Tryz.f6 Rows.rosterBackRow.apart Rows.rosterBackRow.fresh Rows.rosterBackRow.handsOn Rows.rosterBackRow.again) := by
  refine law_logic (C := Tryz.checked) rosterBack_own started (by kernel_rfl) Tryz.func6
    (ChangeSpec.witness6 (enc := enc) (C := Tryz.checked) false ⟨#[], rosterBackArgs, []⟩ 8 (by kernel_rfl) (by kernel_rfl) (by kernel_rfl) (by kernel_rfl))
    rosterBack_laid (by kernel_rfl) rfl ?_ rosterBack_res rosterBack_bool (l := [3, 9, 22, 28, 29, 31, 33, 35]) (by kernel_rfl) (by kernel_rfl) (fun S w0 h => tab_s S w0 h) (fun B args h => rosterBack_wf B args h)
  intro ds hd
  rw [Tryz.params6] at hd
  match ds, hd with
  | [d0], _ => rfl

theorem rosterBack_named : Tryz.prog.funcNamed Rows.rosterBackRow.func = some 6 := by kernel_rfl
theorem rosterBack_mapsRowed : mapsRowed Tryz.prog = true := by kernel_rfl
theorem rosterBack_inPlace : (Rows.rosterBackRow.inPlace == Tryz.prog.inPlace 6) = true := by kernel_rfl
theorem rosterBack_unfollowed : (Rows.rosterBackRow.unfollowed == Tryz.prog.unfollowed 6) = true := by kernel_rfl
theorem rosterBack_recurses : (Rows.rosterBackRow.recurses == Tryz.prog.recurses 6) = true := by kernel_rfl
theorem rosterBack_vars : (Rows.rosterBackRow.named == Tryz.prog.varsNamed 6) = true := by kernel_rfl
theorem rosterBack_plainKeys : (Rows.rosterBackRow.plainKeys == Tryz.prog.plainKeys) = true := by kernel_rfl
theorem rosterBack_stopsHeard : Tryz.prog.stopsHeard = true := by kernel_rfl
theorem rosterBack_mayEnter : Tryz.prog.mayEnter = true := by kernel_rfl
theorem rosterBack_lifts : (Rows.rosterBackRow.lifted == Tryz.prog.liftsFinal) = true := by kernel_rfl
theorem rosterBack_make : (Tryz.prog.make == some Rows.rosterBackRow.make) = true := by kernel_rfl
theorem rosterBack_joined : joinedFacts Tryz.prog 6 Tryz.f6 Rows.rosterBackSpec Rows.rosterBackRow = true := by
  unfold joinedFacts
  rw [rosterBack_laid, rosterBack_mapsRowed, rosterBack_inPlace, rosterBack_unfollowed, rosterBack_recurses, rosterBack_vars, rosterBack_plainKeys, rosterBack_stopsHeard, rosterBack_mayEnter, rosterBack_lifts, rosterBack_make]
  kernel_rfl
theorem rosterBack_instance : Tryz.f6.isInstance Tryz.prog Rows.rosterBackRow.origin Rows.rosterBackRow.targs := of_decide_eq_true (by kernel_rfl)
theorem rosterBack_wrapper : Tryz.f6.isWrapper Tryz.prog Rows.rosterBackRow.wrapper Rows.rosterBackRow.mainSum := by
  unfold Func.isWrapper; first | (rw [if_pos (by decide +kernel)]; kernel_rfl) | (rw [if_neg (by decide +kernel)]; exact ⟨rfl, rfl⟩)

theorem rosterBack_holds : Rows.RosterBackSaid :=
  OpenClaim.holds_of_wide 6 Tryz.f6 rfl rfl rfl rfl rfl rfl rfl ⟨rfl, rfl, rfl, rfl, rfl⟩ rfl rfl rfl rfl rfl rosterBack_named Tryz.func6 rosterBack_joined
    rosterBack_instance rosterBack_wrapper
    (fun os started H enc _ => rosterBack_lifted os started H enc)
end Go.Proofs.YtgpnpcahcegadaaGreat
