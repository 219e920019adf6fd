/- Proved: for every input the law DumpOnce returns true, and its argument reads afterwards as it read before. Conditions: none beyond what the row's own cells say. -/
import Derived.Test.YtdcbglljljfleaaDuL3
set_option maxRecDepth 100000
set_option linter.unusedSimpArgs false
set_option linter.unusedVariables false
namespace Go.Proofs.Ytdcbglljljfleaa
open Go.ChangeShapes Go.WideShapes Go.ChangeAt Go.RowKit Go.Proofs.Ytdcbglljljfleaa.Abs Go.Proofs.Ytdcbglljljfleaa.DU

theorem dumpOnce_own : ownKnob Try.prog.godebug = none := by kernel_rfl
theorem dumpOnce_laid : laidOutB Try.prog = true := by kernel_rfl
/-- What the reading shows of the arguments. -/
theorem dumpOnce_shapes : Try.f6.params.toList.map (shapeOf Try.prog) = [(false, 1)] := by kernel_rfl
theorem dumpOnce_res : Try.f6.resultTypes = #[4] := by kernel_rfl
theorem dumpOnce_bool : Try.prog.underlying 4 = some .bool := by kernel_rfl

noncomputable def dumpOnceArgs : Array Value := #[.slice none 0 0]

theorem dumpOnce_lifted (os : Os) (started : os.Started) (H : Type) (enc : TypeId × Value → H) :
    ReturnsInHanded {} Try.checked os 6 .any (Rows.dumpOnceSpec.pre6 enc Try.prog Try.f6 Rows.dumpOnceRow.domain Rows.dumpOnceRow.apart)
      (Rows.dumpOnceSpec.post enc Try.prog Try.f6 Rows.dumpOnceRow.apart Rows.dumpOnceRow.fresh Rows.dumpOnceRow.handsOn Rows.dumpOnceRow.again) := by
  refine law_logic (C := Try.checked) dumpOnce_own started (by kernel_rfl) Try.func6
    (ChangeSpec.witness6 (enc := enc) (C := Try.checked) false ⟨#[], dumpOnceArgs, []⟩ 8 (by kernel_rfl) (by kernel_rfl) (by kernel_rfl) (by kernel_rfl))
    dumpOnce_laid (by kernel_rfl) rfl ?_ dumpOnce_res dumpOnce_bool (l := [5, 33]) (by kernel_rfl) (by kernel_rfl) (fun S w0 h => tab_s S w0 h) (fun B args h => dumpOnce_wf B args h)
  intro ds hd
  rw [Try.params6] at hd
  match ds, hd with
  | [d0], _ => rfl

theorem dumpOnce_named : Try.prog.funcNamed Rows.dumpOnceRow.func = some 6 := by kernel_rfl
theorem dumpOnce_mapsRowed : mapsRowed Try.prog = true := by kernel_rfl
theorem dumpOnce_inPlace : (Rows.dumpOnceRow.inPlace == Try.prog.inPlace 6) = true := by kernel_rfl
theorem dumpOnce_unfollowed : (Rows.dumpOnceRow.unfollowed == Try.prog.unfollowed 6) = true := by kernel_rfl
theorem dumpOnce_recurses : (Rows.dumpOnceRow.recurses == Try.prog.recurses 6) = true := by kernel_rfl
theorem dumpOnce_vars : (Rows.dumpOnceRow.named == Try.prog.varsNamed 6) = true := by kernel_rfl
theorem dumpOnce_plainKeys : (Rows.dumpOnceRow.plainKeys == Try.prog.plainKeys) = true := by kernel_rfl
theorem dumpOnce_stopsHeard : Try.prog.stopsHeard = true := by kernel_rfl
theorem dumpOnce_mayEnter : Try.prog.mayEnter = true := by kernel_rfl
theorem dumpOnce_lifts : (Rows.dumpOnceRow.lifted == Try.prog.liftsFinal) = true := by kernel_rfl
theorem dumpOnce_make : (Try.prog.make == some Rows.dumpOnceRow.make) = true := by kernel_rfl
theorem dumpOnce_joined : joinedFacts Try.prog 6 Try.f6 Rows.dumpOnceSpec Rows.dumpOnceRow = true := by
  unfold joinedFacts
  rw [dumpOnce_laid, dumpOnce_mapsRowed, dumpOnce_inPlace, dumpOnce_unfollowed, dumpOnce_recurses, dumpOnce_vars, dumpOnce_plainKeys, dumpOnce_stopsHeard, dumpOnce_mayEnter, dumpOnce_lifts, dumpOnce_make]
  kernel_rfl
theorem dumpOnce_instance : Try.f6.isInstance Try.prog Rows.dumpOnceRow.origin Rows.dumpOnceRow.targs := of_decide_eq_true (by kernel_rfl)
theorem dumpOnce_wrapper : Try.f6.isWrapper Try.prog Rows.dumpOnceRow.wrapper Rows.dumpOnceRow.mainSum := by
  unfold Func.isWrapper; first | (rw [if_pos (by decide +kernel)]; kernel_rfl) | (rw [if_neg (by decide +kernel)]; exact ⟨rfl, rfl⟩)

theorem dumpOnce_holds : Rows.DumpOnceSaid :=
  OpenClaim.holds_of_wide 6 Try.f6 rfl rfl rfl rfl rfl rfl rfl ⟨rfl, rfl, rfl, rfl, rfl⟩ rfl rfl rfl rfl rfl dumpOnce_named Try.func6 dumpOnce_joined
    dumpOnce_instance dumpOnce_wrapper
    (fun os started H enc _ => dumpOnce_lifted os started H enc)
end Go.Proofs.Ytdcbglljljfleaa
