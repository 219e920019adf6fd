/- Proved: for every input the law KvHeld returns true, and its argument reads afterwards as it read before. Conditions: none beyond what the row's own cells say. -/
import Derived.Test.YtlfhlkndccjejaaKvP6
set_option maxRecDepth 100000
set_option linter.unusedSimpArgs false
set_option linter.unusedVariables false
namespace Go.Proofs.Ytlfhlkndccjejaa
open Go.ChangeShapes Go.WideShapes Go.ChangeAt Go.RowKit Go.Proofs.Ytlfhlkndccjejaa.Abs Go.Proofs.Ytlfhlkndccjejaa.KV

theorem kvHeld_own : ownKnob Try.prog.godebug = none := by kernel_rfl
theorem kvHeld_laid : laidOutB Try.prog = true := by kernel_rfl
/-- What the reading shows of the arguments. -/
theorem kvHeld_shapes : Try.f7.params.toList.map (shapeOf Try.prog) = [(false, 1), (false, 1), (false, 1)] := by kernel_rfl
theorem kvHeld_res : Try.f7.resultTypes = #[4] := by kernel_rfl
theorem kvHeld_bool : Try.prog.underlying 4 = some .bool := by kernel_rfl

noncomputable def kvHeldArgs : Array Value := #[.string ⟨#[]⟩, .int .u64 (.ofNat 0), .slice none 0 0]

theorem kvHeld_lifted (os : Os) (started : os.Started) (H : Type) (enc : TypeId × Value → H) :
    ReturnsInHanded {} Try.checked os 7 .any (Rows.kvHeldSpec.pre6 enc Try.prog Try.f7 Rows.kvHeldRow.domain Rows.kvHeldRow.apart)
      (Rows.kvHeldSpec.post enc Try.prog Try.f7 Rows.kvHeldRow.apart Rows.kvHeldRow.fresh Rows.kvHeldRow.handsOn Rows.kvHeldRow.again) := by
  refine law_logic (C := Try.checked) kvHeld_own started (by kernel_rfl) Try.func7
    (ChangeSpec.witness6 (enc := enc) (C := Try.checked) false ⟨#[], kvHeldArgs, []⟩ 8 (by kernel_rfl) (by kernel_rfl) (by kernel_rfl) (by kernel_rfl))
    kvHeld_laid (by kernel_rfl) rfl ?_ kvHeld_res kvHeld_bool (l := [3, 9, 25, 52, 58]) (by kernel_rfl) (by kernel_rfl) (fun S w0 h => tab_s S w0 h) (fun B args h => kvHeld_wf B args h)
  intro ds hd
  rw [Try.params7] at hd
  match ds, hd with
  | [d0, d1, d2], _ => rfl

theorem kvHeld_named : Try.prog.funcNamed Rows.kvHeldRow.func = some 7 := by kernel_rfl
theorem kvHeld_mapsRowed : mapsRowed Try.prog = true := by kernel_rfl
theorem kvHeld_inPlace : (Rows.kvHeldRow.inPlace == Try.prog.inPlace 7) = true := by kernel_rfl
theorem kvHeld_unfollowed : (Rows.kvHeldRow.unfollowed == Try.prog.unfollowed 7) = true := by kernel_rfl
theorem kvHeld_recurses : (Rows.kvHeldRow.recurses == Try.prog.recurses 7) = true := by kernel_rfl
theorem kvHeld_vars : (Rows.kvHeldRow.named == Try.prog.varsNamed 7) = true := by kernel_rfl
theorem kvHeld_plainKeys : (Rows.kvHeldRow.plainKeys == Try.prog.plainKeys) = true := by kernel_rfl
theorem kvHeld_stopsHeard : Try.prog.stopsHeard = true := by kernel_rfl
theorem kvHeld_mayEnter : Try.prog.mayEnter = true := by kernel_rfl
theorem kvHeld_lifts : (Rows.kvHeldRow.lifted == Try.prog.liftsFinal) = true := by kernel_rfl
theorem kvHeld_make : (Try.prog.make == some Rows.kvHeldRow.make) = true := by kernel_rfl
theorem kvHeld_joined : joinedFacts Try.prog 7 Try.f7 Rows.kvHeldSpec Rows.kvHeldRow = true := by
  unfold joinedFacts
  rw [kvHeld_laid, kvHeld_mapsRowed, kvHeld_inPlace, kvHeld_unfollowed, kvHeld_recurses, kvHeld_vars, kvHeld_plainKeys, kvHeld_stopsHeard, kvHeld_mayEnter, kvHeld_lifts, kvHeld_make]
  kernel_rfl
theorem kvHeld_instance : Try.f7.isInstance Try.prog Rows.kvHeldRow.origin Rows.kvHeldRow.targs := of_decide_eq_true (by kernel_rfl)
theorem kvHeld_wrapper : Try.f7.isWrapper Try.prog Rows.kvHeldRow.wrapper Rows.kvHeldRow.mainSum := by
  unfold Func.isWrapper; first | (rw [if_pos (by decide +kernel)]; kernel_rfl) | (rw [if_neg (by decide +kernel)]; exact ⟨rfl, rfl⟩)

theorem kvHeld_holds : Rows.KvHeldSaid :=
  OpenClaim.holds_of_wide 7 Try.f7 rfl rfl rfl rfl rfl rfl rfl ⟨rfl, rfl, rfl, rfl, rfl⟩ rfl rfl rfl rfl rfl kvHeld_named Try.func7 kvHeld_joined
    kvHeld_instance kvHeld_wrapper
    (fun os started H enc _ => kvHeld_lifted os started H enc)
end Go.Proofs.Ytlfhlkndccjejaa
