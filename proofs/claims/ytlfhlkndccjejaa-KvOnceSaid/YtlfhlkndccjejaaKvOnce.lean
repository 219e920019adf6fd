/- Proved: for every input the law KvOnce returns true, and its argument reads afterwards as it read before. Conditions: none beyond what the row's own cells say. -/
import Derived.Test.YtlfhlkndccjejaaKvP6
set_option maxRecDepth 100000
set_option linter.unusedSimpArgs false
set_option linter.unusedVariables false
namespace Go.Proofs.Ytlfhlkndccjejaa
open Go.ChangeShapes Go.WideShapes Go.ChangeAt Go.RowKit Go.Proofs.Ytlfhlkndccjejaa.Abs Go.Proofs.Ytlfhlkndccjejaa.KV

theorem kvOnce_own : ownKnob Try.prog.godebug = none := by kernel_rfl
theorem kvOnce_laid : laidOutB Try.prog = true := by kernel_rfl
/-- What the reading shows of the arguments. -/
theorem kvOnce_shapes : Try.f6.params.toList.map (shapeOf Try.prog) = [(false, 1), (false, 1), (true, 2)] := by kernel_rfl
theorem kvOnce_res : Try.f6.resultTypes = #[4] := by kernel_rfl
theorem kvOnce_bool : Try.prog.underlying 4 = some .bool := by kernel_rfl

noncomputable def kvOnceArgs : Array Value := #[.slice none 0 0, .string ⟨#[]⟩, .agg #[.string ⟨#[]⟩, .string ⟨#[]⟩]]

theorem kvOnce_lifted (os : Os) (started : os.Started) (H : Type) (enc : TypeId × Value → H) :
    ReturnsInHanded {} Try.checked os 6 .any (Rows.kvOnceSpec.pre6 enc Try.prog Try.f6 Rows.kvOnceRow.domain Rows.kvOnceRow.apart)
      (Rows.kvOnceSpec.post enc Try.prog Try.f6 Rows.kvOnceRow.apart Rows.kvOnceRow.fresh Rows.kvOnceRow.handsOn Rows.kvOnceRow.again) := by
  refine law_logic (C := Try.checked) kvOnce_own started (by kernel_rfl) Try.func6
    (ChangeSpec.witness6 (enc := enc) (C := Try.checked) false ⟨#[], kvOnceArgs, []⟩ 8 (by kernel_rfl) (by kernel_rfl) (by kernel_rfl) (by kernel_rfl))
    kvOnce_laid (by kernel_rfl) rfl ?_ kvOnce_res kvOnce_bool (l := [3, 9, 25, 52, 58, 66]) (by kernel_rfl) (by kernel_rfl) (fun S w0 h => tab_s S w0 h) (fun B args h => kvOnce_wf B args h)
  intro ds hd
  rw [Try.params6] at hd
  match ds, hd with
  | [d0, d1, d2], _ => rfl

theorem kvOnce_named : Try.prog.funcNamed Rows.kvOnceRow.func = some 6 := by kernel_rfl
theorem kvOnce_mapsRowed : mapsRowed Try.prog = true := by kernel_rfl
theorem kvOnce_inPlace : (Rows.kvOnceRow.inPlace == Try.prog.inPlace 6) = true := by kernel_rfl
theorem kvOnce_unfollowed : (Rows.kvOnceRow.unfollowed == Try.prog.unfollowed 6) = true := by kernel_rfl
theorem kvOnce_recurses : (Rows.kvOnceRow.recurses == Try.prog.recurses 6) = true := by kernel_rfl
theorem kvOnce_vars : (Rows.kvOnceRow.named == Try.prog.varsNamed 6) = true := by kernel_rfl
theorem kvOnce_plainKeys : (Rows.kvOnceRow.plainKeys == Try.prog.plainKeys) = true := by kernel_rfl
theorem kvOnce_stopsHeard : Try.prog.stopsHeard = true := by kernel_rfl
theorem kvOnce_mayEnter : Try.prog.mayEnter = true := by kernel_rfl
theorem kvOnce_lifts : (Rows.kvOnceRow.lifted == Try.prog.liftsFinal) = true := by kernel_rfl
theorem kvOnce_make : (Try.prog.make == some Rows.kvOnceRow.make) = true := by kernel_rfl
theorem kvOnce_joined : joinedFacts Try.prog 6 Try.f6 Rows.kvOnceSpec Rows.kvOnceRow = true := by
  unfold joinedFacts
  rw [kvOnce_laid, kvOnce_mapsRowed, kvOnce_inPlace, kvOnce_unfollowed, kvOnce_recurses, kvOnce_vars, kvOnce_plainKeys, kvOnce_stopsHeard, kvOnce_mayEnter, kvOnce_lifts, kvOnce_make]
  kernel_rfl
theorem kvOnce_instance : Try.f6.isInstance Try.prog Rows.kvOnceRow.origin Rows.kvOnceRow.targs := of_decide_eq_true (by kernel_rfl)
theorem kvOnce_wrapper : Try.f6.isWrapper Try.prog Rows.kvOnceRow.wrapper Rows.kvOnceRow.mainSum := by
  unfold Func.isWrapper; first | (rw [if_pos (by decide +kernel)]; kernel_rfl) | (rw [if_neg (by decide +kernel)]; exact ⟨rfl, rfl⟩)

theorem kvOnce_holds : Rows.KvOnceSaid :=
  OpenClaim.holds_of_wide 6 Try.f6 rfl rfl rfl rfl rfl rfl rfl ⟨rfl, rfl, rfl, rfl, rfl⟩ rfl rfl rfl rfl rfl kvOnce_named Try.func6 kvOnce_joined
    kvOnce_instance kvOnce_wrapper
    (fun os started H enc _ => kvOnce_lifted os started H enc)
end Go.Proofs.Ytlfhlkndccjejaa
