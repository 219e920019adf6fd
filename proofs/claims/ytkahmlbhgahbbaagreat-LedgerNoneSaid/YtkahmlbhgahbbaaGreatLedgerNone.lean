/- Proved: for every input the law LedgerNone returns true, and its argument reads afterwards as it read before. Conditions: none beyond what the row's own cells say. -/
import Derived.Test.YtkahmlbhgahbbaaGreatLedgerNoneTab
set_option maxRecDepth 100000
set_option linter.unusedSimpArgs false
set_option linter.unusedVariables false
namespace Go.Proofs.YtkahmlbhgahbbaaGreat
open Go.ChangeShapes Go.WideShapes Go.ChangeAt Go.RowKit Go.Proofs.YtkahmlbhgahbbaaGreat.Abs Go.Proofs.YtkahmlbhgahbbaaGreat.AbsLedgerNone

/-- The evaluator's run of the law, over tokens. -/
theorem ledgerNone_run : isT (run (fun _ => []) tab 10000 (.func 3) (argToks [(true, 19), (false, 1)] 0) ⟨.e, 0⟩) = true := by kernel_rfl

theorem ledgerNone_own : ownKnob Tryz.prog.godebug = none := by kernel_rfl
theorem ledgerNone_laid : laidOutB Tryz.prog = true := by kernel_rfl
theorem ledgerNone_shapes : Tryz.f3.params.toList.map (shapeOf Tryz.prog) = [(true, 19), (false, 1)] := by kernel_rfl
theorem ledgerNone_res : Tryz.f3.resultTypes = #[4] := by kernel_rfl
theorem ledgerNone_bool : Tryz.prog.underlying 4 = some .bool := by kernel_rfl

noncomputable def ledgerNoneArgs : Array Value := #[.agg #[.int .i64 (.ofNat 0), .int .u32 (.ofNat 0), .int .i64 (.ofNat 0), .int .i64 (.ofNat 0), .int .i64 (.ofNat 0), .int .i64 (.ofNat 0), .string ⟨#[]⟩, .string ⟨#[]⟩, .string ⟨#[]⟩, .string ⟨#[]⟩, .string ⟨#[]⟩, .string ⟨#[]⟩, .string ⟨#[]⟩, .string ⟨#[]⟩, .slice none 0 0, .bool false, .int .u64 (.ofNat 0), .int .u64 (.ofNat 0), .slice none 0 0], .int .i64 (.ofNat 0)]

theorem ledgerNone_lifted (os : Os) (started : os.Started) (H : Type) (enc : TypeId × Value → H) :
    ReturnsInHanded {} Tryz.checked os 3 .any (Rows.ledgerNoneSpec.pre6 enc Tryz.prog Tryz.f3 Rows.ledgerNoneRow.domain Rows.ledgerNoneRow.apart)
      (Rows.ledgerNoneSpec.post enc Tryz.prog Tryz.f3 Rows.ledgerNoneRow.apart Rows.ledgerNoneRow.fresh Rows.ledgerNoneRow.handsOn Rows.ledgerNoneRow.again) := by
  refine law_true (C := Tryz.checked) ledgerNone_own started (by kernel_rfl) Tryz.func3
    (ChangeSpec.witness6 (enc := enc) (C := Tryz.checked) false ⟨#[], ledgerNoneArgs, []⟩ 8 (by kernel_rfl) (by kernel_rfl) (by kernel_rfl) (by kernel_rfl))
    ledgerNone_laid (by kernel_rfl) rfl ?_ ledgerNone_res ledgerNone_bool ?_
  · intro ds hd
    rw [Tryz.params3] at hd
    match ds, hd with
    | [d0, d1], _ => rfl
  · intro W base args hsz hval
    exact calls_true_any tab_ok ledgerNone_run ledgerNone_shapes hsz hval

theorem ledgerNone_named : Tryz.prog.funcNamed Rows.ledgerNoneRow.func = some 3 := by kernel_rfl
theorem ledgerNone_mapsRowed : mapsRowed Tryz.prog = true := by kernel_rfl
theorem ledgerNone_inPlace : (Rows.ledgerNoneRow.inPlace == Tryz.prog.inPlace 3) = true := by kernel_rfl
theorem ledgerNone_unfollowed : (Rows.ledgerNoneRow.unfollowed == Tryz.prog.unfollowed 3) = true := by kernel_rfl
theorem ledgerNone_recurses : (Rows.ledgerNoneRow.recurses == Tryz.prog.recurses 3) = true := by kernel_rfl
theorem ledgerNone_vars : (Rows.ledgerNoneRow.named == Tryz.prog.varsNamed 3) = true := by kernel_rfl
theorem ledgerNone_plainKeys : (Rows.ledgerNoneRow.plainKeys == Tryz.prog.plainKeys) = true := by kernel_rfl
theorem ledgerNone_stopsHeard : Tryz.prog.stopsHeard = true := by kernel_rfl
theorem ledgerNone_mayEnter : Tryz.prog.mayEnter = true := by kernel_rfl
theorem ledgerNone_lifts : (Rows.ledgerNoneRow.lifted == Tryz.prog.liftsFinal) = true := by kernel_rfl
theorem ledgerNone_make : (Tryz.prog.make == some Rows.ledgerNoneRow.make) = true := by kernel_rfl
theorem ledgerNone_joined : joinedFacts Tryz.prog 3 Tryz.f3 Rows.ledgerNoneSpec Rows.ledgerNoneRow = true := by
  unfold joinedFacts
  rw [ledgerNone_laid, ledgerNone_mapsRowed, ledgerNone_inPlace, ledgerNone_unfollowed, ledgerNone_recurses, ledgerNone_vars, ledgerNone_plainKeys, ledgerNone_stopsHeard, ledgerNone_mayEnter, ledgerNone_lifts, ledgerNone_make]
  kernel_rfl
theorem ledgerNone_instance : Tryz.f3.isInstance Tryz.prog Rows.ledgerNoneRow.origin Rows.ledgerNoneRow.targs := of_decide_eq_true (by kernel_rfl)
theorem ledgerNone_wrapper : Tryz.f3.isWrapper Tryz.prog Rows.ledgerNoneRow.wrapper Rows.ledgerNoneRow.mainSum := by
  unfold Func.isWrapper; first | (rw [if_pos (by decide +kernel)]; kernel_rfl) | (rw [if_neg (by decide +kernel)]; exact ⟨rfl, rfl⟩)

theorem ledgerNone_holds : Rows.LedgerNoneSaid :=
  OpenClaim.holds_of_wide 3 Tryz.f3 rfl rfl rfl rfl rfl rfl rfl ⟨rfl, rfl, rfl, rfl, rfl⟩ rfl rfl rfl rfl rfl ledgerNone_named Tryz.func3 ledgerNone_joined
    ledgerNone_instance ledgerNone_wrapper
    (fun os started H enc _ => ledgerNone_lifted os started H enc)
end Go.Proofs.YtkahmlbhgahbbaaGreat
