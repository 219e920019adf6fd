/- Proved: for every input the law KvBack returns true, and its argument reads afterwards as it read before. Conditions: none beyond what the row's own cells say. -/
import Derived.Test.YtlfhlkndccjejaaKvP6
set_option maxRecDepth 100000
set_option linter.unusedSimpArgs false
set_option linter.unusedVariables false
namespace Go.Proofs.Ytlfhlkndccjejaa
open Go.ChangeShapes Go.WideShapes Go.ChangeAt Go.RowKit Go.Proofs.Ytlfhlkndccjejaa.Abs Go.Proofs.Ytlfhlkndccjejaa.KV

theorem kvBack_own : ownKnob Try.prog.godebug = none := by kernel_rfl
theorem kvBack_laid : laidOutB Try.prog = true := by kernel_rfl
/-- What the reading shows of the arguments. -/
theorem kvBack_shapes : Try.f8.params.toList.map (shapeOf Try.prog) = [(false, 1)] := by kernel_rfl
theorem kvBack_res : Try.f8.resultTypes = #[4] := by kernel_rfl
theorem kvBack_bool : Try.prog.underlying 4 = some .bool := by kernel_rfl

noncomputable def kvBackArgs : Array Value := #[.slice none 0 0]

theorem kvBack_lifted (os : Os) (started : os.Started) (H : Type) (enc : TypeId × Value → H) :
    ReturnsInHanded {} Try.checked os 8 .any (Rows.kvBackSpec.pre6 enc Try.prog Try.f8 Rows.kvBackRow.domain Rows.kvBackRow.apart)
      (Rows.kvBackSpec.post enc Try.prog Try.f8 Rows.kvBackRow.apart Rows.kvBackRow.fresh Rows.kvBackRow.handsOn Rows.kvBackRow.again) := by
  refine law_logic (C := Try.checked) kvBack_own started (by kernel_rfl) Try.func8
    (ChangeSpec.witness6 (enc := enc) (C := Try.checked) false ⟨#[], kvBackArgs, []⟩ 8 (by kernel_rfl) (by kernel_rfl) (by kernel_rfl) (by kernel_rfl))
    kvBack_laid (by kernel_rfl) rfl ?_ kvBack_res kvBack_bool (l := [3, 9, 25, 52, 58]) (by kernel_rfl) (by kernel_rfl) (fun S w0 h => tab_s S w0 h) (fun B args h => kvBack_wf B args h)
  intro ds hd
  rw [Try.params8] at hd
  match ds, hd with
  | [d0], _ => rfl

theorem kvBack_named : Try.prog.funcNamed Rows.kvBackRow.func = some 8 := by kernel_rfl
theorem kvBack_mapsRowed : mapsRowed Try.prog = true := by kernel_rfl
theorem kvBack_inPlace : (Rows.kvBackRow.inPlace == Try.prog.inPlace 8) = true := by kernel_rfl
theorem kvBack_unfollowed : (Rows.kvBackRow.unfollowed == Try.prog.unfollowed 8) = true := by kernel_rfl
theorem kvBack_recurses : (Rows.kvBackRow.recurses == Try.prog.recurses 8) = true := by kernel_rfl
theorem kvBack_vars : (Rows.kvBackRow.named == Try.prog.varsNamed 8) = true := by kernel_rfl
theorem kvBack_plainKeys : (Rows.kvBackRow.plainKeys == Try.prog.plainKeys) = true := by kernel_rfl
theorem kvBack_stopsHeard : Try.prog.stopsHeard = true := by kernel_rfl
theorem kvBack_mayEnter : Try.prog.mayEnter = true := by kernel_rfl
theorem kvBack_lifts : (Rows.kvBackRow.lifted == Try.prog.liftsFinal) = true := by kernel_rfl
theorem kvBack_make : (Try.prog.make == some Rows.kvBackRow.make) = true := by kernel_rfl
theorem kvBack_joined : joinedFacts Try.prog 8 Try.f8 Rows.kvBackSpec Rows.kvBackRow = true := by
  unfold joinedFacts
  rw [kvBack_laid, kvBack_mapsRowed, kvBack_inPlace, kvBack_unfollowed, kvBack_recurses, kvBack_vars, kvBack_plainKeys, kvBack_stopsHeard, kvBack_mayEnter, kvBack_lifts, kvBack_make]
  kernel_rfl
theorem kvBack_instance : Try.f8.isInstance Try.prog Rows.kvBackRow.origin Rows.kvBackRow.targs := of_decide_eq_true (by kernel_rfl)
theorem kvBack_wrapper : Try.f8.isWrapper Try.prog Rows.kvBackRow.wrapper Rows.kvBackRow.mainSum := by
  unfold Func.isWrapper; first | (rw [if_pos (by decide +kernel)]; kernel_rfl) | (rw [if_neg (by decide +kernel)]; exact ⟨rfl, rfl⟩)

theorem kvBack_holds : Rows.KvBackSaid :=
  OpenClaim.holds_of_wide 8 Try.f8 rfl rfl rfl rfl rfl rfl rfl ⟨rfl, rfl, rfl, rfl, rfl⟩ rfl rfl rfl rfl rfl kvBack_named Try.func8 kvBack_joined
    kvBack_instance kvBack_wrapper
    (fun os started H enc _ => kvBack_lifted os started H enc)
end Go.Proofs.Ytlfhlkndccjejaa
