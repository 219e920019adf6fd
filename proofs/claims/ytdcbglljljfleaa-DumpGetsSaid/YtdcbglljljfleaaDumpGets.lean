/- Proved: for every input the law DumpGets returns true, and its argument reads afterwards as it read before. Conditions: none beyond what the row's own cells say. -/
import Derived.Test.YtdcbglljljfleaaDuL1
set_option maxRecDepth 100000
set_option linter.unusedSimpArgs false
set_option linter.unusedVariables false
namespace Go.Proofs.Ytdcbglljljfleaa
open Go.ChangeShapes Go.WideShapes Go.ChangeAt Go.RowKit Go.Proofs.Ytdcbglljljfleaa.Abs Go.Proofs.Ytdcbglljljfleaa.DU

theorem dumpGets_own : ownKnob Try.prog.godebug = none := by kernel_rfl
theorem dumpGets_laid : laidOutB Try.prog = true := by kernel_rfl
/-- What the reading shows of the arguments. -/
theorem dumpGets_shapes : Try.f4.params.toList.map (shapeOf Try.prog) = [(false, 1)] := by kernel_rfl
theorem dumpGets_res : Try.f4.resultTypes = #[4] := by kernel_rfl
theorem dumpGets_bool : Try.prog.underlying 4 = some .bool := by kernel_rfl

noncomputable def dumpGetsArgs : Array Value := #[.slice none 0 0]

theorem dumpGets_lifted (os : Os) (started : os.Started) (H : Type) (enc : TypeId × Value → H) :
    ReturnsInHanded {} Try.checked os 4 .any (Rows.dumpGetsSpec.pre6 enc Try.prog Try.f4 Rows.dumpGetsRow.domain Rows.dumpGetsRow.apart)
      (Rows.dumpGetsSpec.post enc Try.prog Try.f4 Rows.dumpGetsRow.apart Rows.dumpGetsRow.fresh Rows.dumpGetsRow.handsOn Rows.dumpGetsRow.again) := by
  refine law_logic (C := Try.checked) dumpGets_own started (by kernel_rfl) Try.func4
    (ChangeSpec.witness6 (enc := enc) (C := Try.checked) false ⟨#[], dumpGetsArgs, []⟩ 8 (by kernel_rfl) (by kernel_rfl) (by kernel_rfl) (by kernel_rfl))
    dumpGets_laid (by kernel_rfl) rfl ?_ dumpGets_res dumpGets_bool (l := [5, 33]) (by kernel_rfl) (by kernel_rfl) (fun S w0 h => tab_s S w0 h) (fun B args h => dumpGets_wf B args h)
  intro ds hd
  rw [Try.params4] at hd
  match ds, hd with
  | [d0], _ => rfl

theorem dumpGets_named : Try.prog.funcNamed Rows.dumpGetsRow.func = some 4 := by kernel_rfl
theorem dumpGets_mapsRowed : mapsRowed Try.prog = true := by kernel_rfl
theorem dumpGets_inPlace : (Rows.dumpGetsRow.inPlace == Try.prog.inPlace 4) = true := by kernel_rfl
theorem dumpGets_unfollowed : (Rows.dumpGetsRow.unfollowed == Try.prog.unfollowed 4) = true := by kernel_rfl
theorem dumpGets_recurses : (Rows.dumpGetsRow.recurses == Try.prog.recurses 4) = true := by kernel_rfl
theorem dumpGets_vars : (Rows.dumpGetsRow.named == Try.prog.varsNamed 4) = true := by kernel_rfl
theorem dumpGets_plainKeys : (Rows.dumpGetsRow.plainKeys == Try.prog.plainKeys) = true := by kernel_rfl
theorem dumpGets_stopsHeard : Try.prog.stopsHeard = true := by kernel_rfl
theorem dumpGets_mayEnter : Try.prog.mayEnter = true := by kernel_rfl
theorem dumpGets_lifts : (Rows.dumpGetsRow.lifted == Try.prog.liftsFinal) = true := by kernel_rfl
theorem dumpGets_make : (Try.prog.make == some Rows.dumpGetsRow.make) = true := by kernel_rfl
theorem dumpGets_joined : joinedFacts Try.prog 4 Try.f4 Rows.dumpGetsSpec Rows.dumpGetsRow = true := by
  unfold joinedFacts
  rw [dumpGets_laid, dumpGets_mapsRowed, dumpGets_inPlace, dumpGets_unfollowed, dumpGets_recurses, dumpGets_vars, dumpGets_plainKeys, dumpGets_stopsHeard, dumpGets_mayEnter, dumpGets_lifts, dumpGets_make]
  kernel_rfl
theorem dumpGets_instance : Try.f4.isInstance Try.prog Rows.dumpGetsRow.origin Rows.dumpGetsRow.targs := of_decide_eq_true (by kernel_rfl)
theorem dumpGets_wrapper : Try.f4.isWrapper Try.prog Rows.dumpGetsRow.wrapper Rows.dumpGetsRow.mainSum := by
  unfold Func.isWrapper; first | (rw [if_pos (by decide +kernel)]; kernel_rfl) | (rw [if_neg (by decide +kernel)]; exact ⟨rfl, rfl⟩)

theorem dumpGets_holds : Rows.DumpGetsSaid :=
  OpenClaim.holds_of_wide 4 Try.f4 rfl rfl rfl rfl rfl rfl rfl ⟨rfl, rfl, rfl, rfl, rfl⟩ rfl rfl rfl rfl rfl dumpGets_named Try.func4 dumpGets_joined
    dumpGets_instance dumpGets_wrapper
    (fun os started H enc _ => dumpGets_lifted os started H enc)
end Go.Proofs.Ytdcbglljljfleaa
