/- Proved: for every input the law KvLoads returns true, and its argument reads afterwards as it read before. Conditions: none beyond what the row's own cells say. -/
import Derived.Test.YtlfhlkndccjejaaKvLo
set_option maxRecDepth 100000
set_option linter.unusedSimpArgs false
set_option linter.unusedVariables false
namespace Go.Proofs.Ytlfhlkndccjejaa
open Go.ChangeShapes Go.WideShapes Go.ChangeAt Go.RowKit Go.Proofs.Ytlfhlkndccjejaa.Abs Go.Proofs.Ytlfhlkndccjejaa.KV

theorem kvLoads_own : ownKnob Try.prog.godebug = none := by kernel_rfl
theorem kvLoads_laid : laidOutB Try.prog = true := by kernel_rfl
/-- What the reading shows of the arguments. -/
theorem kvLoads_shapes : Try.f4.params.toList.map (shapeOf Try.prog) = [(false, 1), (false, 1), (false, 1)] := by kernel_rfl
theorem kvLoads_res : Try.f4.resultTypes = #[4] := by kernel_rfl
theorem kvLoads_bool : Try.prog.underlying 4 = some .bool := by kernel_rfl

noncomputable def kvLoadsArgs : Array Value := #[.int .i64 (.ofNat 0), .slice none 0 0, .int .u64 (.ofNat 0)]

theorem kvLoads_lifted (os : Os) (started : os.Started) (H : Type) (enc : TypeId × Value → H) :
    ReturnsInHanded {} Try.checked os 4 .any (Rows.kvLoadsSpec.pre6 enc Try.prog Try.f4 Rows.kvLoadsRow.domain Rows.kvLoadsRow.apart)
      (Rows.kvLoadsSpec.post enc Try.prog Try.f4 Rows.kvLoadsRow.apart Rows.kvLoadsRow.fresh Rows.kvLoadsRow.handsOn Rows.kvLoadsRow.again) := by
  refine law_logic (C := Try.checked) kvLoads_own started (by kernel_rfl) Try.func4
    (ChangeSpec.witness6 (enc := enc) (C := Try.checked) false ⟨#[], kvLoadsArgs, []⟩ 8 (by kernel_rfl) (by kernel_rfl) (by kernel_rfl) (by kernel_rfl))
    kvLoads_laid (by kernel_rfl) rfl ?_ kvLoads_res kvLoads_bool (l := [3, 9, 25, 44, 60]) (by kernel_rfl) (by kernel_rfl) (fun S w0 h => tab_s S w0 h) (fun B args h => kvLoads_wf B args h)
  intro ds hd
  rw [Try.params4] at hd
  match ds, hd with
  | [d0, d1, d2], _ => rfl

theorem kvLoads_named : Try.prog.funcNamed Rows.kvLoadsRow.func = some 4 := by kernel_rfl
theorem kvLoads_mapsRowed : mapsRowed Try.prog = true := by kernel_rfl
theorem kvLoads_inPlace : (Rows.kvLoadsRow.inPlace == Try.prog.inPlace 4) = true := by kernel_rfl
theorem kvLoads_unfollowed : (Rows.kvLoadsRow.unfollowed == Try.prog.unfollowed 4) = true := by kernel_rfl
theorem kvLoads_recurses : (Rows.kvLoadsRow.recurses == Try.prog.recurses 4) = true := by kernel_rfl
theorem kvLoads_vars : (Rows.kvLoadsRow.named == Try.prog.varsNamed 4) = true := by kernel_rfl
theorem kvLoads_plainKeys : (Rows.kvLoadsRow.plainKeys == Try.prog.plainKeys) = true := by kernel_rfl
theorem kvLoads_stopsHeard : Try.prog.stopsHeard = true := by kernel_rfl
theorem kvLoads_mayEnter : Try.prog.mayEnter = true := by kernel_rfl
theorem kvLoads_lifts : (Rows.kvLoadsRow.lifted == Try.prog.liftsFinal) = true := by kernel_rfl
theorem kvLoads_make : (Try.prog.make == some Rows.kvLoadsRow.make) = true := by kernel_rfl
theorem kvLoads_joined : joinedFacts Try.prog 4 Try.f4 Rows.kvLoadsSpec Rows.kvLoadsRow = true := by
  unfold joinedFacts
  rw [kvLoads_laid, kvLoads_mapsRowed, kvLoads_inPlace, kvLoads_unfollowed, kvLoads_recurses, kvLoads_vars, kvLoads_plainKeys, kvLoads_stopsHeard, kvLoads_mayEnter, kvLoads_lifts, kvLoads_make]
  kernel_rfl
theorem kvLoads_instance : Try.f4.isInstance Try.prog Rows.kvLoadsRow.origin Rows.kvLoadsRow.targs := of_decide_eq_true (by kernel_rfl)
theorem kvLoads_wrapper : Try.f4.isWrapper Try.prog Rows.kvLoadsRow.wrapper Rows.kvLoadsRow.mainSum := by
  unfold Func.isWrapper; first | (rw [if_pos (by decide +kernel)]; kernel_rfl) | (rw [if_neg (by decide +kernel)]; exact ⟨rfl, rfl⟩)

theorem kvLoads_holds : Rows.KvLoadsSaid :=
  OpenClaim.holds_of_wide 4 Try.f4 rfl rfl rfl rfl rfl rfl rfl ⟨rfl, rfl, rfl, rfl, rfl⟩ rfl rfl rfl rfl rfl kvLoads_named Try.func4 kvLoads_joined
    kvLoads_instance kvLoads_wrapper
    (fun os started H enc _ => kvLoads_lifted os started H enc)
end Go.Proofs.Ytlfhlkndccjejaa
