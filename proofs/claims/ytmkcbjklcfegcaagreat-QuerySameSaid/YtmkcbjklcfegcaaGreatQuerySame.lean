/- Proved: for every input the law QuerySame returns true, and its argument reads afterwards as it read before. Conditions: none beyond what the row's own cells say. -/
import Derived.Test.YtmkcbjklcfegcaaGreatQS4
set_option maxRecDepth 100000
set_option linter.unusedSimpArgs false
set_option linter.unusedVariables false
namespace Go.Proofs.YtmkcbjklcfegcaaGreat
open Go.ChangeShapes Go.WideShapes Go.ChangeAt Go.RowKit Go.Proofs.YtmkcbjklcfegcaaGreat.Abs Go.Proofs.YtmkcbjklcfegcaaGreat.QS

theorem querySame_own : ownKnob Tryz.prog.godebug = none := by kernel_rfl
theorem querySame_laid : laidOutB Tryz.prog = true := by kernel_rfl
/-- What the reading shows of the arguments. -/
theorem querySame_shapes : Tryz.f3.params.toList.map (shapeOf Tryz.prog) = [(true, 11), (true, 11)] := by kernel_rfl
theorem querySame_res : Tryz.f3.resultTypes = #[4] := by kernel_rfl
theorem querySame_bool : Tryz.prog.underlying 4 = some .bool := by kernel_rfl

noncomputable def querySameArgs : Array Value := #[.agg #[.int .i64 (.ofNat 0), .int .u64 (.ofNat 0), .bool false, .int .i64 (.ofNat 0), .string ⟨#[]⟩, .slice none 0 0, .slice none 0 0, .slice none 0 0, .slice none 0 0, .slice none 0 0, .slice none 0 0], .agg #[.int .i64 (.ofNat 0), .int .u64 (.ofNat 0), .bool false, .int .i64 (.ofNat 0), .string ⟨#[]⟩, .slice none 0 0, .slice none 0 0, .slice none 0 0, .slice none 0 0, .slice none 0 0, .slice none 0 0]]

theorem querySame_lifted (os : Os) (started : os.Started) (H : Type) (enc : TypeId × Value → H) :
    ReturnsInHanded {} Tryz.checked os 3 .any (Rows.querySameSpec.pre6 enc Tryz.prog Tryz.f3 Rows.querySameRow.domain Rows.querySameRow.apart)
      (Rows.querySameSpec.post enc Tryz.prog Tryz.f3 Rows.querySameRow.apart Rows.querySameRow.fresh Rows.querySameRow.handsOn Rows.querySameRow.again) := by
  refine law_logic (C := Tryz.checked) querySame_own started (by kernel_rfl) Tryz.func3
    (ChangeSpec.witness6 (enc := enc) (C := Tryz.checked) false ⟨#[], querySameArgs, []⟩ 8 (by kernel_rfl) (by kernel_rfl) (by kernel_rfl) (by kernel_rfl))
    querySame_laid (by kernel_rfl) rfl ?_ querySame_res querySame_bool (l := [3, 4, 9, 22, 23, 24, 26, 27, 28, 29, 30, 32, 35, 37, 39, 45, 48, 52, 55]) (by kernel_rfl) (by kernel_rfl) (fun S w0 h => tab_s S w0 h) (fun B args h => querySame_wf B args h)
  intro ds hd
  rw [Tryz.params3] at hd
  match ds, hd with
  | [d0, d1], _ => rfl

theorem querySame_named : Tryz.prog.funcNamed Rows.querySameRow.func = some 3 := by kernel_rfl
theorem querySame_mapsRowed : mapsRowed Tryz.prog = true := by kernel_rfl
theorem querySame_inPlace : (Rows.querySameRow.inPlace == Tryz.prog.inPlace 3) = true := by kernel_rfl
theorem querySame_unfollowed : (Rows.querySameRow.unfollowed == Tryz.prog.unfollowed 3) = true := by kernel_rfl
theorem querySame_recurses : (Rows.querySameRow.recurses == Tryz.prog.recurses 3) = true := by kernel_rfl
theorem querySame_vars : (Rows.querySameRow.named == Tryz.prog.varsNamed 3) = true := by kernel_rfl
theorem querySame_plainKeys : (Rows.querySameRow.plainKeys == Tryz.prog.plainKeys) = true := by kernel_rfl
theorem querySame_stopsHeard : Tryz.prog.stopsHeard = true := by kernel_rfl
theorem querySame_mayEnter : Tryz.prog.mayEnter = true := by kernel_rfl
theorem querySame_lifts : (Rows.querySameRow.lifted == Tryz.prog.liftsFinal) = true := by kernel_rfl
theorem querySame_make : (Tryz.prog.make == some Rows.querySameRow.make) = true := by kernel_rfl
theorem querySame_joined : joinedFacts Tryz.prog 3 Tryz.f3 Rows.querySameSpec Rows.querySameRow = true := by
  unfold joinedFacts
  rw [querySame_laid, querySame_mapsRowed, querySame_inPlace, querySame_unfollowed, querySame_recurses, querySame_vars, querySame_plainKeys, querySame_stopsHeard, querySame_mayEnter, querySame_lifts, querySame_make]
  kernel_rfl
theorem querySame_instance : Tryz.f3.isInstance Tryz.prog Rows.querySameRow.origin Rows.querySameRow.targs := of_decide_eq_true (by kernel_rfl)
theorem querySame_wrapper : Tryz.f3.isWrapper Tryz.prog Rows.querySameRow.wrapper Rows.querySameRow.mainSum := by
  unfold Func.isWrapper; first | (rw [if_pos (by decide +kernel)]; kernel_rfl) | (rw [if_neg (by decide +kernel)]; exact ⟨rfl, rfl⟩)

theorem querySame_holds : Rows.QuerySameSaid :=
  OpenClaim.holds_of_wide 3 Tryz.f3 rfl rfl rfl rfl rfl rfl rfl ⟨rfl, rfl, rfl, rfl, rfl⟩ rfl rfl rfl rfl rfl querySame_named Tryz.func3 querySame_joined
    querySame_instance querySame_wrapper
    (fun os started H enc _ => querySame_lifted os started H enc)
end Go.Proofs.YtmkcbjklcfegcaaGreat
