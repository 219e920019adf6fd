/- Proved: for every input the law RosterPlays returns true, and its argument reads afterwards as it read before. Conditions: none beyond what the row's own cells say. -/
import Derived.Test.YtgpnpcahcegadaaGreatRoP
set_option maxRecDepth 100000
set_option linter.unusedSimpArgs false
set_option linter.unusedVariables false
namespace Go.Proofs.YtgpnpcahcegadaaGreat
open Go.ChangeShapes Go.WideShapes Go.ChangeAt Go.RowKit Go.Proofs.YtgpnpcahcegadaaGreat.Abs Go.Proofs.YtgpnpcahcegadaaGreat.RO

theorem rosterPlays_own : ownKnob Tryz.prog.godebug = none := by kernel_rfl
theorem rosterPlays_laid : laidOutB Tryz.prog = true := by kernel_rfl
/-- What the reading shows of the arguments. -/
theorem rosterPlays_shapes : Tryz.f3.params.toList.map (shapeOf Tryz.prog) = [(false, 1), (false, 1)] := by kernel_rfl
theorem rosterPlays_res : Tryz.f3.resultTypes = #[4] := by kernel_rfl
theorem rosterPlays_bool : Tryz.prog.underlying 4 = some .bool := by kernel_rfl

noncomputable def rosterPlaysArgs : Array Value := #[.int .i64 (.ofNat 0), .slice none 0 0]

theorem rosterPlays_lifted (os : Os) (started : os.Started) (H : Type) (enc : TypeId × Value → H) :
    ReturnsInHanded {} Tryz.checked os 3 .any (Rows.rosterPlaysSpec.pre6 enc Tryz.prog Tryz.f3 Rows.rosterPlaysRow.domain Rows.rosterPlaysRow.apart)
      (Rows.rosterPlaysSpec.post enc Tryz.prog Tryz.f3 Rows.rosterPlaysRow.apart Rows.rosterPlaysRow.fresh Rows.rosterPlaysRow.handsOn Rows.rosterPlaysRow.again) := by
  refine law_logic (C := Tryz.checked) rosterPlays_own started (by kernel_rfl) Tryz.func3
    (ChangeSpec.witness6 (enc := enc) (C := Tryz.checked) false ⟨#[], rosterPlaysArgs, []⟩ 8 (by kernel_rfl) (by kernel_rfl) (by kernel_rfl) (by kernel_rfl))
    rosterPlays_laid (by kernel_rfl) rfl ?_ rosterPlays_res rosterPlays_bool (l := [3, 9, 22, 28, 29, 31, 33, 35]) (by kernel_rfl) (by kernel_rfl) (fun S w0 h => tab_s S w0 h) (fun B args h => rosterPlays_wf B args h)
  intro ds hd
  rw [Tryz.params3] at hd
  match ds, hd with
  | [d0, d1], _ => rfl

theorem rosterPlays_named : Tryz.prog.funcNamed Rows.rosterPlaysRow.func = some 3 := by kernel_rfl
theorem rosterPlays_mapsRowed : mapsRowed Tryz.prog = true := by kernel_rfl
theorem rosterPlays_inPlace : (Rows.rosterPlaysRow.inPlace == Tryz.prog.inPlace 3) = true := by kernel_rfl
theorem rosterPlays_unfollowed : (Rows.rosterPlaysRow.unfollowed == Tryz.prog.unfollowed 3) = true := by kernel_rfl
theorem rosterPlays_recurses : (Rows.rosterPlaysRow.recurses == Tryz.prog.recurses 3) = true := by kernel_rfl
theorem rosterPlays_vars : (Rows.rosterPlaysRow.named == Tryz.prog.varsNamed 3) = true := by kernel_rfl
theorem rosterPlays_plainKeys : (Rows.rosterPlaysRow.plainKeys == Tryz.prog.plainKeys) = true := by kernel_rfl
theorem rosterPlays_stopsHeard : Tryz.prog.stopsHeard = true := by kernel_rfl
theorem rosterPlays_mayEnter : Tryz.prog.mayEnter = true := by kernel_rfl
theorem rosterPlays_lifts : (Rows.rosterPlaysRow.lifted == Tryz.prog.liftsFinal) = true := by kernel_rfl
theorem rosterPlays_make : (Tryz.prog.make == some Rows.rosterPlaysRow.make) = true := by kernel_rfl
theorem rosterPlays_joined : joinedFacts Tryz.prog 3 Tryz.f3 Rows.rosterPlaysSpec Rows.rosterPlaysRow = true := by
  unfold joinedFacts
  rw [rosterPlays_laid, rosterPlays_mapsRowed, rosterPlays_inPlace, rosterPlays_unfollowed, rosterPlays_recurses, rosterPlays_vars, rosterPlays_plainKeys, rosterPlays_stopsHeard, rosterPlays_mayEnter, rosterPlays_lifts, rosterPlays_make]
  kernel_rfl
theorem rosterPlays_instance : Tryz.f3.isInstance Tryz.prog Rows.rosterPlaysRow.origin Rows.rosterPlaysRow.targs := of_decide_eq_true (by kernel_rfl)
theorem rosterPlays_wrapper : Tryz.f3.isWrapper Tryz.prog Rows.rosterPlaysRow.wrapper Rows.rosterPlaysRow.mainSum := by
  unfold Func.isWrapper; first | (rw [if_pos (by decide +kernel)]; kernel_rfl) | (rw [if_neg (by decide +kernel)]; exact ⟨rfl, rfl⟩)

theorem rosterPlays_holds : Rows.RosterPlaysSaid :=
  OpenClaim.holds_of_wide 3 Tryz.f3 rfl rfl rfl rfl rfl rfl rfl ⟨rfl, rfl, rfl, rfl, rfl⟩ rfl rfl rfl rfl rfl rosterPlays_named Tryz.func3 rosterPlays_joined
    rosterPlays_instance rosterPlays_wrapper
    (fun os started H enc _ => rosterPlays_lifted os started H enc)
end Go.Proofs.YtgpnpcahcegadaaGreat
