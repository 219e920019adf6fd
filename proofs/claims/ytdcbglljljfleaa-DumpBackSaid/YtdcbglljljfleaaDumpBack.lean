/- Proved: for every input the law DumpBack returns true, and its argument reads afterwards as it read before. Conditions: none beyond what the row's own cells say. -/
import Derived.Test.YtdcbglljljfleaaDuL2
set_option maxRecDepth 100000
set_option linter.unusedSimpArgs false
set_option linter.unusedVariables false
namespace Go.Proofs.Ytdcbglljljfleaa
open Go.ChangeShapes Go.WideShapes Go.ChangeAt Go.RowKit Go.Proofs.Ytdcbglljljfleaa.Abs Go.Proofs.Ytdcbglljljfleaa.DU

theorem dumpBack_own : ownKnob Try.prog.godebug = none := by kernel_rfl
theorem dumpBack_laid : laidOutB Try.prog = true := by kernel_rfl
/-- What the reading shows of the arguments. -/
theorem dumpBack_shapes : Try.f5.params.toList.map (shapeOf Try.prog) = [(true, 14)] := by kernel_rfl
theorem dumpBack_res : Try.f5.resultTypes = #[4] := by kernel_rfl
theorem dumpBack_bool : Try.prog.underlying 4 = some .bool := by kernel_rfl

noncomputable def dumpBackArgs : Array Value := #[.agg #[.int .u64 (.ofNat 0), .slice none 0 0, .slice none 0 0, .slice none 0 0, .slice none 0 0, .slice none 0 0, .slice none 0 0, .int .u64 (.ofNat 0), .int .u64 (.ofNat 0), .int .u64 (.ofNat 0), .int .u64 (.ofNat 0), .int .u64 (.ofNat 0), .int .u64 (.ofNat 0), .slice none 0 0]]

theorem dumpBack_lifted (os : Os) (started : os.Started) (H : Type) (enc : TypeId × Value → H) :
    ReturnsInHanded {} Try.checked os 5 .any (Rows.dumpBackSpec.pre6 enc Try.prog Try.f5 Rows.dumpBackRow.domain Rows.dumpBackRow.apart)
      (Rows.dumpBackSpec.post enc Try.prog Try.f5 Rows.dumpBackRow.apart Rows.dumpBackRow.fresh Rows.dumpBackRow.handsOn Rows.dumpBackRow.again) := by
  refine law_logic (C := Try.checked) dumpBack_own started (by kernel_rfl) Try.func5
    (ChangeSpec.witness6 (enc := enc) (C := Try.checked) false ⟨#[], dumpBackArgs, []⟩ 8 (by kernel_rfl) (by kernel_rfl) (by kernel_rfl) (by kernel_rfl))
    dumpBack_laid (by kernel_rfl) rfl ?_ dumpBack_res dumpBack_bool (l := [3, 4, 9, 22, 23, 24, 25, 26, 27, 28, 29, 30, 32, 52, 59, 61, 69, 77, 85, 93, 100, 102]) (by kernel_rfl) (by kernel_rfl) (fun S w0 h => tab_s S w0 h) (fun B args h => dumpBack_wf B args h)
  intro ds hd
  rw [Try.params5] at hd
  match ds, hd with
  | [d0], _ => rfl

theorem dumpBack_named : Try.prog.funcNamed Rows.dumpBackRow.func = some 5 := by kernel_rfl
theorem dumpBack_mapsRowed : mapsRowed Try.prog = true := by kernel_rfl
theorem dumpBack_inPlace : (Rows.dumpBackRow.inPlace == Try.prog.inPlace 5) = true := by kernel_rfl
theorem dumpBack_unfollowed : (Rows.dumpBackRow.unfollowed == Try.prog.unfollowed 5) = true := by kernel_rfl
theorem dumpBack_recurses : (Rows.dumpBackRow.recurses == Try.prog.recurses 5) = true := by kernel_rfl
theorem dumpBack_vars : (Rows.dumpBackRow.named == Try.prog.varsNamed 5) = true := by kernel_rfl
theorem dumpBack_plainKeys : (Rows.dumpBackRow.plainKeys == Try.prog.plainKeys) = true := by kernel_rfl
theorem dumpBack_stopsHeard : Try.prog.stopsHeard = true := by kernel_rfl
theorem dumpBack_mayEnter : Try.prog.mayEnter = true := by kernel_rfl
theorem dumpBack_lifts : (Rows.dumpBackRow.lifted == Try.prog.liftsFinal) = true := by kernel_rfl
theorem dumpBack_make : (Try.prog.make == some Rows.dumpBackRow.make) = true := by kernel_rfl
theorem dumpBack_joined : joinedFacts Try.prog 5 Try.f5 Rows.dumpBackSpec Rows.dumpBackRow = true := by
  unfold joinedFacts
  rw [dumpBack_laid, dumpBack_mapsRowed, dumpBack_inPlace, dumpBack_unfollowed, dumpBack_recurses, dumpBack_vars, dumpBack_plainKeys, dumpBack_stopsHeard, dumpBack_mayEnter, dumpBack_lifts, dumpBack_make]
  kernel_rfl
theorem dumpBack_instance : Try.f5.isInstance Try.prog Rows.dumpBackRow.origin Rows.dumpBackRow.targs := of_decide_eq_true (by kernel_rfl)
theorem dumpBack_wrapper : Try.f5.isWrapper Try.prog Rows.dumpBackRow.wrapper Rows.dumpBackRow.mainSum := by
  unfold Func.isWrapper; first | (rw [if_pos (by decide +kernel)]; kernel_rfl) | (rw [if_neg (by decide +kernel)]; exact ⟨rfl, rfl⟩)

theorem dumpBack_holds : Rows.DumpBackSaid :=
  OpenClaim.holds_of_wide 5 Try.f5 rfl rfl rfl rfl rfl rfl rfl ⟨rfl, rfl, rfl, rfl, rfl⟩ rfl rfl rfl rfl rfl dumpBack_named Try.func5 dumpBack_joined
    dumpBack_instance dumpBack_wrapper
    (fun os started H enc _ => dumpBack_lifted os started H enc)
end Go.Proofs.Ytdcbglljljfleaa
