/- Proved: for every input the law RosterLoads returns true, and its argument reads afterwards as it read before. Conditions: none beyond what the row's own cells say. -/
import Derived.Test.YtgpnpcahcegadaaRoG
set_option maxRecDepth 100000
set_option linter.unusedSimpArgs false
set_option linter.unusedVariables false
namespace Go.Proofs.Ytgpnpcahcegadaa
open Go.ChangeShapes Go.WideShapes Go.ChangeAt Go.RowKit Go.Proofs.Ytgpnpcahcegadaa.Abs Go.Proofs.Ytgpnpcahcegadaa.RO

theorem rosterLoads_own : ownKnob Try.prog.godebug = none := by kernel_rfl
theorem rosterLoads_laid : laidOutB Try.prog = true := by kernel_rfl
/-- What the reading shows of the arguments. -/
theorem rosterLoads_shapes : Try.f3.params.toList.map (shapeOf Try.prog) = [(false, 1), (true, 6)] := by kernel_rfl
theorem rosterLoads_res : Try.f3.resultTypes = #[4] := by kernel_rfl
theorem rosterLoads_bool : Try.prog.underlying 4 = some .bool := by kernel_rfl

noncomputable def rosterLoadsArgs : Array Value := #[.int .i64 (.ofNat 0), .agg #[.slice none 0 0, .slice none 0 0, .slice none 0 0, .int .u64 (.ofNat 0), .int .u64 (.ofNat 0), .int .u64 (.ofNat 0)]]

theorem rosterLoads_lifted (os : Os) (started : os.Started) (H : Type) (enc : TypeId × Value → H) :
    ReturnsInHanded {} Try.checked os 3 .any (Rows.rosterLoadsSpec.pre6 enc Try.prog Try.f3 Rows.rosterLoadsRow.domain Rows.rosterLoadsRow.apart)
      (Rows.rosterLoadsSpec.post enc Try.prog Try.f3 Rows.rosterLoadsRow.apart Rows.rosterLoadsRow.fresh Rows.rosterLoadsRow.handsOn Rows.rosterLoadsRow.again) := by
  refine law_logic (C := Try.checked) rosterLoads_own started (by kernel_rfl) Try.func3
    (ChangeSpec.witness6 (enc := enc) (C := Try.checked) false ⟨#[], rosterLoadsArgs, []⟩ 8 (by kernel_rfl) (by kernel_rfl) (by kernel_rfl) (by kernel_rfl))
    rosterLoads_laid (by kernel_rfl) rfl ?_ rosterLoads_res rosterLoads_bool (l := [3, 9, 22, 23, 24, 25, 26, 28, 50, 56, 58, 63]) (by kernel_rfl) (by kernel_rfl) (fun S w0 h => tab_s S w0 h) (fun B args h => rosterLoads_wf B args h)
  intro ds hd
  rw [Try.params3] at hd
  match ds, hd with
  | [d0, d1], _ => rfl

theorem rosterLoads_named : Try.prog.funcNamed Rows.rosterLoadsRow.func = some 3 := by kernel_rfl
theorem rosterLoads_mapsRowed : mapsRowed Try.prog = true := by kernel_rfl
theorem rosterLoads_inPlace : (Rows.rosterLoadsRow.inPlace == Try.prog.inPlace 3) = true := by kernel_rfl
theorem rosterLoads_unfollowed : (Rows.rosterLoadsRow.unfollowed == Try.prog.unfollowed 3) = true := by kernel_rfl
theorem rosterLoads_recurses : (Rows.rosterLoadsRow.recurses == Try.prog.recurses 3) = true := by kernel_rfl
theorem rosterLoads_vars : (Rows.rosterLoadsRow.named == Try.prog.varsNamed 3) = true := by kernel_rfl
theorem rosterLoads_plainKeys : (Rows.rosterLoadsRow.plainKeys == Try.prog.plainKeys) = true := by kernel_rfl
theorem rosterLoads_stopsHeard : Try.prog.stopsHeard = true := by kernel_rfl
theorem rosterLoads_mayEnter : Try.prog.mayEnter = true := by kernel_rfl
theorem rosterLoads_lifts : (Rows.rosterLoadsRow.lifted == Try.prog.liftsFinal) = true := by kernel_rfl
theorem rosterLoads_make : (Try.prog.make == some Rows.rosterLoadsRow.make) = true := by kernel_rfl
theorem rosterLoads_joined : joinedFacts Try.prog 3 Try.f3 Rows.rosterLoadsSpec Rows.rosterLoadsRow = true := by
  unfold joinedFacts
  rw [rosterLoads_laid, rosterLoads_mapsRowed, rosterLoads_inPlace, rosterLoads_unfollowed, rosterLoads_recurses, rosterLoads_vars, rosterLoads_plainKeys, rosterLoads_stopsHeard, rosterLoads_mayEnter, rosterLoads_lifts, rosterLoads_make]
  kernel_rfl
theorem rosterLoads_instance : Try.f3.isInstance Try.prog Rows.rosterLoadsRow.origin Rows.rosterLoadsRow.targs := of_decide_eq_true (by kernel_rfl)
theorem rosterLoads_wrapper : Try.f3.isWrapper Try.prog Rows.rosterLoadsRow.wrapper Rows.rosterLoadsRow.mainSum := by
  unfold Func.isWrapper; first | (rw [if_pos (by decide +kernel)]; kernel_rfl) | (rw [if_neg (by decide +kernel)]; exact ⟨rfl, rfl⟩)

theorem rosterLoads_holds : Rows.RosterLoadsSaid :=
  OpenClaim.holds_of_wide 3 Try.f3 rfl rfl rfl rfl rfl rfl rfl ⟨rfl, rfl, rfl, rfl, rfl⟩ rfl rfl rfl rfl rfl rosterLoads_named Try.func3 rosterLoads_joined
    rosterLoads_instance rosterLoads_wrapper
    (fun os started H enc _ => rosterLoads_lifted os started H enc)
end Go.Proofs.Ytgpnpcahcegadaa
