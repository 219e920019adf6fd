/- Proved: for every input the law KvPlays returns true, and its argument reads afterwards as it read before. Conditions: none beyond what the row's own cells say. -/
import Derived.Test.YtlfhlkndccjejaaKvPl
set_option maxRecDepth 100000
set_option linter.unusedSimpArgs false
set_option linter.unusedVariables false
namespace Go.Proofs.Ytlfhlkndccjejaa
open Go.ChangeShapes Go.WideShapes Go.ChangeAt Go.RowKit Go.Proofs.Ytlfhlkndccjejaa.Abs Go.Proofs.Ytlfhlkndccjejaa.KV

theorem kvPlays_own : ownKnob Try.prog.godebug = none := by kernel_rfl
theorem kvPlays_laid : laidOutB Try.prog = true := by kernel_rfl
/-- What the reading shows of the arguments. -/
theorem kvPlays_shapes : Try.f5.params.toList.map (shapeOf Try.prog) = [(false, 1), (false, 1)] := by kernel_rfl
theorem kvPlays_res : Try.f5.resultTypes = #[4] := by kernel_rfl
theorem kvPlays_bool : Try.prog.underlying 4 = some .bool := by kernel_rfl

noncomputable def kvPlaysArgs : Array Value := #[.int .i64 (.ofNat 0), .slice none 0 0]

theorem kvPlays_lifted (os : Os) (started : os.Started) (H : Type) (enc : TypeId × Value → H) :
    ReturnsInHanded {} Try.checked os 5 .any (Rows.kvPlaysSpec.pre6 enc Try.prog Try.f5 Rows.kvPlaysRow.domain Rows.kvPlaysRow.apart)
      (Rows.kvPlaysSpec.post enc Try.prog Try.f5 Rows.kvPlaysRow.apart Rows.kvPlaysRow.fresh Rows.kvPlaysRow.handsOn Rows.kvPlaysRow.again) := by
  refine law_logic (C := Try.checked) kvPlays_own started (by kernel_rfl) Try.func5
    (ChangeSpec.witness6 (enc := enc) (C := Try.checked) false ⟨#[], kvPlaysArgs, []⟩ 8 (by kernel_rfl) (by kernel_rfl) (by kernel_rfl) (by kernel_rfl))
    kvPlays_laid (by kernel_rfl) rfl ?_ kvPlays_res kvPlays_bool (l := [3, 9, 25, 52, 58]) (by kernel_rfl) (by kernel_rfl) (fun S w0 h => tab_s S w0 h) (fun B args h => kvPlays_wf B args h)
  intro ds hd
  rw [Try.params5] at hd
  match ds, hd with
  | [d0, d1], _ => rfl

theorem kvPlays_named : Try.prog.funcNamed Rows.kvPlaysRow.func = some 5 := by kernel_rfl
theorem kvPlays_mapsRowed : mapsRowed Try.prog = true := by kernel_rfl
theorem kvPlays_inPlace : (Rows.kvPlaysRow.inPlace == Try.prog.inPlace 5) = true := by kernel_rfl
theorem kvPlays_unfollowed : (Rows.kvPlaysRow.unfollowed == Try.prog.unfollowed 5) = true := by kernel_rfl
theorem kvPlays_recurses : (Rows.kvPlaysRow.recurses == Try.prog.recurses 5) = true := by kernel_rfl
theorem kvPlays_vars : (Rows.kvPlaysRow.named == Try.prog.varsNamed 5) = true := by kernel_rfl
theorem kvPlays_plainKeys : (Rows.kvPlaysRow.plainKeys == Try.prog.plainKeys) = true := by kernel_rfl
theorem kvPlays_stopsHeard : Try.prog.stopsHeard = true := by kernel_rfl
theorem kvPlays_mayEnter : Try.prog.mayEnter = true := by kernel_rfl
theorem kvPlays_lifts : (Rows.kvPlaysRow.lifted == Try.prog.liftsFinal) = true := by kernel_rfl
theorem kvPlays_make : (Try.prog.make == some Rows.kvPlaysRow.make) = true := by kernel_rfl
theorem kvPlays_joined : joinedFacts Try.prog 5 Try.f5 Rows.kvPlaysSpec Rows.kvPlaysRow = true := by
  unfold joinedFacts
  rw [kvPlays_laid, kvPlays_mapsRowed, kvPlays_inPlace, kvPlays_unfollowed, kvPlays_recurses, kvPlays_vars, kvPlays_plainKeys, kvPlays_stopsHeard, kvPlays_mayEnter, kvPlays_lifts, kvPlays_make]
  kernel_rfl
theorem kvPlays_instance : Try.f5.isInstance Try.prog Rows.kvPlaysRow.origin Rows.kvPlaysRow.targs := of_decide_eq_true (by kernel_rfl)
theorem kvPlays_wrapper : Try.f5.isWrapper Try.prog Rows.kvPlaysRow.wrapper Rows.kvPlaysRow.mainSum := by
  unfold Func.isWrapper; first | (rw [if_pos (by decide +kernel)]; kernel_rfl) | (rw [if_neg (by decide +kernel)]; exact ⟨rfl, rfl⟩)

theorem kvPlays_holds : Rows.KvPlaysSaid :=
  OpenClaim.holds_of_wide 5 Try.f5 rfl rfl rfl rfl rfl rfl rfl ⟨rfl, rfl, rfl, rfl, rfl⟩ rfl rfl rfl rfl rfl kvPlays_named Try.func5 kvPlays_joined
    kvPlays_instance kvPlays_wrapper
    (fun os started H enc _ => kvPlays_lifted os started H enc)
end Go.Proofs.Ytlfhlkndccjejaa
