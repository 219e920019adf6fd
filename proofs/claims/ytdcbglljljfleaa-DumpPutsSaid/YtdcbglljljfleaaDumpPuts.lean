/- Proved: for every input the law DumpPuts returns true, and its argument reads afterwards as it read before. Conditions: none beyond what the row's own cells say. -/
import Derived.Test.YtdcbglljljfleaaDuF
set_option maxRecDepth 100000
set_option linter.unusedSimpArgs false
set_option linter.unusedVariables false
namespace Go.Proofs.Ytdcbglljljfleaa
open Go.ChangeShapes Go.WideShapes Go.ChangeAt Go.RowKit Go.Proofs.Ytdcbglljljfleaa.Abs Go.Proofs.Ytdcbglljljfleaa.DU

theorem dumpPuts_own : ownKnob Try.prog.godebug = none := by kernel_rfl
theorem dumpPuts_laid : laidOutB Try.prog = true := by kernel_rfl
/-- What the reading shows of the arguments. -/
theorem dumpPuts_shapes : Try.f3.params.toList.map (shapeOf Try.prog) = [(true, 14)] := by kernel_rfl
theorem dumpPuts_res : Try.f3.resultTypes = #[4] := by kernel_rfl
theorem dumpPuts_bool : Try.prog.underlying 4 = some .bool := by kernel_rfl

noncomputable def dumpPutsArgs : Array Value := #[.agg #[.int .u64 (.ofNat 0), .slice none 0 0, .slice none 0 0, .slice none 0 0, .slice none 0 0, .slice none 0 0, .slice none 0 0, .int .u64 (.ofNat 0), .int .u64 (.ofNat 0), .int .u64 (.ofNat 0), .int .u64 (.ofNat 0), .int .u64 (.ofNat 0), .int .u64 (.ofNat 0), .slice none 0 0]]

theorem dumpPuts_lifted (os : Os) (started : os.Started) (H : Type) (enc : TypeId × Value → H) :
    ReturnsInHanded {} Try.checked os 3 .any (Rows.dumpPutsSpec.pre6 enc Try.prog Try.f3 Rows.dumpPutsRow.domain Rows.dumpPutsRow.apart)
      (Rows.dumpPutsSpec.post enc Try.prog Try.f3 Rows.dumpPutsRow.apart Rows.dumpPutsRow.fresh Rows.dumpPutsRow.handsOn Rows.dumpPutsRow.again) := by
  refine law_logic (C := Try.checked) dumpPuts_own started (by kernel_rfl) Try.func3
    (ChangeSpec.witness6 (enc := enc) (C := Try.checked) false ⟨#[], dumpPutsArgs, []⟩ 8 (by kernel_rfl) (by kernel_rfl) (by kernel_rfl) (by kernel_rfl))
    dumpPuts_laid (by kernel_rfl) rfl ?_ dumpPuts_res dumpPuts_bool (l := [3, 4, 9, 22, 23, 24, 25, 26, 27, 28, 29, 30, 32, 52, 59, 61, 69, 77, 85, 93, 100, 102]) (by kernel_rfl) (by kernel_rfl) (fun S w0 h => tab_s S w0 h) (fun B args h => dumpPuts_wf B args h)
  intro ds hd
  rw [Try.params3] at hd
  match ds, hd with
  | [d0], _ => rfl

theorem dumpPuts_named : Try.prog.funcNamed Rows.dumpPutsRow.func = some 3 := by kernel_rfl
theorem dumpPuts_mapsRowed : mapsRowed Try.prog = true := by kernel_rfl
theorem dumpPuts_inPlace : (Rows.dumpPutsRow.inPlace == Try.prog.inPlace 3) = true := by kernel_rfl
theorem dumpPuts_unfollowed : (Rows.dumpPutsRow.unfollowed == Try.prog.unfollowed 3) = true := by kernel_rfl
theorem dumpPuts_recurses : (Rows.dumpPutsRow.recurses == Try.prog.recurses 3) = true := by kernel_rfl
theorem dumpPuts_vars : (Rows.dumpPutsRow.named == Try.prog.varsNamed 3) = true := by kernel_rfl
theorem dumpPuts_plainKeys : (Rows.dumpPutsRow.plainKeys == Try.prog.plainKeys) = true := by kernel_rfl
theorem dumpPuts_stopsHeard : Try.prog.stopsHeard = true := by kernel_rfl
theorem dumpPuts_mayEnter : Try.prog.mayEnter = true := by kernel_rfl
theorem dumpPuts_lifts : (Rows.dumpPutsRow.lifted == Try.prog.liftsFinal) = true := by kernel_rfl
theorem dumpPuts_make : (Try.prog.make == some Rows.dumpPutsRow.make) = true := by kernel_rfl
theorem dumpPuts_joined : joinedFacts Try.prog 3 Try.f3 Rows.dumpPutsSpec Rows.dumpPutsRow = true := by
  unfold joinedFacts
  rw [dumpPuts_laid, dumpPuts_mapsRowed, dumpPuts_inPlace, dumpPuts_unfollowed, dumpPuts_recurses, dumpPuts_vars, dumpPuts_plainKeys, dumpPuts_stopsHeard, dumpPuts_mayEnter, dumpPuts_lifts, dumpPuts_make]
  kernel_rfl
theorem dumpPuts_instance : Try.f3.isInstance Try.prog Rows.dumpPutsRow.origin Rows.dumpPutsRow.targs := of_decide_eq_true (by kernel_rfl)
theorem dumpPuts_wrapper : Try.f3.isWrapper Try.prog Rows.dumpPutsRow.wrapper Rows.dumpPutsRow.mainSum := by
  unfold Func.isWrapper; first | (rw [if_pos (by decide +kernel)]; kernel_rfl) | (rw [if_neg (by decide +kernel)]; exact ⟨rfl, rfl⟩)

theorem dumpPuts_holds : Rows.DumpPutsSaid :=
  OpenClaim.holds_of_wide 3 Try.f3 rfl rfl rfl rfl rfl rfl rfl ⟨rfl, rfl, rfl, rfl, rfl⟩ rfl rfl rfl rfl rfl dumpPuts_named Try.func3 dumpPuts_joined
    dumpPuts_instance dumpPuts_wrapper
    (fun os started H enc _ => dumpPuts_lifted os started H enc)
end Go.Proofs.Ytdcbglljljfleaa
