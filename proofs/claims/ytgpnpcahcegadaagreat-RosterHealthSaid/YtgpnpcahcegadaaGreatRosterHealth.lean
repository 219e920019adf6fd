/- Proved: for every input the law RosterHealth returns true, and its argument reads afterwards as it read before. Conditions: none beyond what the row's own cells say. -/
import Derived.Test.YtgpnpcahcegadaaGreatRoH
set_option maxRecDepth 100000
set_option linter.unusedSimpArgs false
set_option linter.unusedVariables false
namespace Go.Proofs.YtgpnpcahcegadaaGreat
open Go.ChangeShapes Go.WideShapes Go.ChangeAt Go.RowKit Go.Proofs.YtgpnpcahcegadaaGreat.Abs Go.Proofs.YtgpnpcahcegadaaGreat.RO

theorem rosterHealth_own : ownKnob Tryz.prog.godebug = none := by kernel_rfl
theorem rosterHealth_laid : laidOutB Tryz.prog = true := by kernel_rfl
/-- What the reading shows of the arguments. -/
theorem rosterHealth_shapes : Tryz.f5.params.toList.map (shapeOf Tryz.prog) = [(false, 1), (true, 7), (false, 1)] := by kernel_rfl
theorem rosterHealth_res : Tryz.f5.resultTypes = #[4] := by kernel_rfl
theorem rosterHealth_bool : Tryz.prog.underlying 4 = some .bool := by kernel_rfl

noncomputable def rosterHealthArgs : Array Value := #[.slice none 0 0, .agg #[.int .i64 (.ofNat 0), .string ⟨#[]⟩, .string ⟨#[]⟩, .string ⟨#[]⟩, .int .i64 (.ofNat 0), .int .u64 (.ofNat 0), .int .u64 (.ofNat 0)], .string ⟨#[]⟩]

theorem rosterHealth_lifted (os : Os) (started : os.Started) (H : Type) (enc : TypeId × Value → H) :
    ReturnsInHanded {} Tryz.checked os 5 .any (Rows.rosterHealthSpec.pre6 enc Tryz.prog Tryz.f5 Rows.rosterHealthRow.domain Rows.rosterHealthRow.apart)
      (Rows.rosterHealthSpec.post enc Tryz.prog Tryz.f5 Rows.rosterHealthRow.apart Rows.rosterHealthRow.fresh Rows.rosterHealthRow.handsOn Rows.rosterHealthRow.again) := by
  refine law_logic (C := Tryz.checked) rosterHealth_own started (by kernel_rfl) Tryz.func5
    (ChangeSpec.witness6 (enc := enc) (C := Tryz.checked) false ⟨#[], rosterHealthArgs, []⟩ 8 (by kernel_rfl) (by kernel_rfl) (by kernel_rfl) (by kernel_rfl))
    rosterHealth_laid (by kernel_rfl) rfl ?_ rosterHealth_res rosterHealth_bool (l := [3, 9, 22, 28, 29, 31, 33, 35]) (by kernel_rfl) (by kernel_rfl) (fun S w0 h => tab_s S w0 h) (fun B args h => rosterHealth_wf B args h)
  intro ds hd
  rw [Tryz.params5] at hd
  match ds, hd with
  | [d0, d1, d2], _ => rfl

theorem rosterHealth_named : Tryz.prog.funcNamed Rows.rosterHealthRow.func = some 5 := by kernel_rfl
theorem rosterHealth_mapsRowed : mapsRowed Tryz.prog = true := by kernel_rfl
theorem rosterHealth_inPlace : (Rows.rosterHealthRow.inPlace == Tryz.prog.inPlace 5) = true := by kernel_rfl
theorem rosterHealth_unfollowed : (Rows.rosterHealthRow.unfollowed == Tryz.prog.unfollowed 5) = true := by kernel_rfl
theorem rosterHealth_recurses : (Rows.rosterHealthRow.recurses == Tryz.prog.recurses 5) = true := by kernel_rfl
theorem rosterHealth_vars : (Rows.rosterHealthRow.named == Tryz.prog.varsNamed 5) = true := by kernel_rfl
theorem rosterHealth_plainKeys : (Rows.rosterHealthRow.plainKeys == Tryz.prog.plainKeys) = true := by kernel_rfl
theorem rosterHealth_stopsHeard : Tryz.prog.stopsHeard = true := by kernel_rfl
theorem rosterHealth_mayEnter : Tryz.prog.mayEnter = true := by kernel_rfl
theorem rosterHealth_lifts : (Rows.rosterHealthRow.lifted == Tryz.prog.liftsFinal) = true := by kernel_rfl
theorem rosterHealth_make : (Tryz.prog.make == some Rows.rosterHealthRow.make) = true := by kernel_rfl
theorem rosterHealth_joined : joinedFacts Tryz.prog 5 Tryz.f5 Rows.rosterHealthSpec Rows.rosterHealthRow = true := by
  unfold joinedFacts
  rw [rosterHealth_laid, rosterHealth_mapsRowed, rosterHealth_inPlace, rosterHealth_unfollowed, rosterHealth_recurses, rosterHealth_vars, rosterHealth_plainKeys, rosterHealth_stopsHeard, rosterHealth_mayEnter, rosterHealth_lifts, rosterHealth_make]
  kernel_rfl
theorem rosterHealth_instance : Tryz.f5.isInstance Tryz.prog Rows.rosterHealthRow.origin Rows.rosterHealthRow.targs := of_decide_eq_true (by kernel_rfl)
theorem rosterHealth_wrapper : Tryz.f5.isWrapper Tryz.prog Rows.rosterHealthRow.wrapper Rows.rosterHealthRow.mainSum := by
  unfold Func.isWrapper; first | (rw [if_pos (by decide +kernel)]; kernel_rfl) | (rw [if_neg (by decide +kernel)]; exact ⟨rfl, rfl⟩)

theorem rosterHealth_holds : Rows.RosterHealthSaid :=
  OpenClaim.holds_of_wide 5 Tryz.f5 rfl rfl rfl rfl rfl rfl rfl ⟨rfl, rfl, rfl, rfl, rfl⟩ rfl rfl rfl rfl rfl rosterHealth_named Tryz.func5 rosterHealth_joined
    rosterHealth_instance rosterHealth_wrapper
    (fun os started H enc _ => rosterHealth_lifted os started H enc)
end Go.Proofs.YtgpnpcahcegadaaGreat
