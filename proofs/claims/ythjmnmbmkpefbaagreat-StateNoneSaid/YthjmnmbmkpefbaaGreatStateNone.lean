/- Proved: for every input the law StateNone returns true, and its argument reads afterwards as it read before. Conditions: none beyond what the row's own cells say. -/
import Derived.Test.YthjmnmbmkpefbaaGreatStateNoneTab
set_option maxRecDepth 100000
set_option linter.unusedSimpArgs false
set_option linter.unusedVariables false
namespace Go.Proofs.YthjmnmbmkpefbaaGreat
open Go.ChangeShapes Go.WideShapes Go.ChangeAt Go.RowKit Go.Proofs.YthjmnmbmkpefbaaGreat.Abs Go.Proofs.YthjmnmbmkpefbaaGreat.AbsStateNone

/-- The evaluator's run of the law, over tokens. -/
theorem stateNone_run : isT (run (fun _ => []) tab 200 (.func 3) [.agg (toksOf 19)] ⟨.e, 0⟩) = true := by kernel_rfl

theorem stateNone_own : ownKnob Tryz.prog.godebug = none := by kernel_rfl
theorem stateNone_laid : laidOutB Tryz.prog = true := by kernel_rfl
theorem stateNone_cells : Tryz.prog.cellsOf 29 = 19 := by kernel_rfl
theorem stateNone_res : Tryz.f3.resultTypes = #[4] := by kernel_rfl
theorem stateNone_bool : Tryz.prog.underlying 4 = some .bool := by kernel_rfl

noncomputable def stateNoneArg : Value := .agg #[.int .i64 (.ofNat 0), .int .u32 (.ofNat 0), .int .i64 (.ofNat 0), .int .i64 (.ofNat 0), .int .i64 (.ofNat 0), .int .i64 (.ofNat 0), .string ⟨#[]⟩, .string ⟨#[]⟩, .string ⟨#[]⟩, .string ⟨#[]⟩, .string ⟨#[]⟩, .string ⟨#[]⟩, .string ⟨#[]⟩, .string ⟨#[]⟩, .slice none 0 0, .bool false, .int .u64 (.ofNat 0), .int .u64 (.ofNat 0), .slice none 0 0]

theorem stateNone_lifted (os : Os) (started : os.Started) (H : Type) (enc : TypeId × Value → H) :
    ReturnsInHanded {} Tryz.checked os 3 .any (Rows.stateNoneSpec.pre6 enc Tryz.prog Tryz.f3 Rows.stateNoneRow.domain Rows.stateNoneRow.apart)
      (Rows.stateNoneSpec.post enc Tryz.prog Tryz.f3 Rows.stateNoneRow.apart Rows.stateNoneRow.fresh Rows.stateNoneRow.handsOn Rows.stateNoneRow.again) := by
  refine law_true (C := Tryz.checked) stateNone_own started (by kernel_rfl) Tryz.func3
    (ChangeSpec.witness6 (enc := enc) (C := Tryz.checked) false ⟨#[], #[stateNoneArg], []⟩ 8 (by kernel_rfl) (by kernel_rfl) (by kernel_rfl) (by kernel_rfl))
    stateNone_laid (by kernel_rfl) rfl ?_ stateNone_res stateNone_bool ?_
  · intro ds hd
    rw [Tryz.params3] at hd
    match ds, hd with
    | [d], _ => rfl
  · intro W base args hsz hval
    rw [Tryz.params3] at hsz hval
    have hs0 : 0 < args.size := by rw [hsz]; decide
    obtain ⟨cs, h1, h2, h3⟩ := okWide_agg Tryz.underlying29 (hval 0 29 args[0] rfl (Array.getElem?_eq_getElem hs0))
    have hargs : args = #[.agg cs] := by
      apply Array.ext
      · rw [hsz]; rfl
      · intro i hi1 hi2
        have : i = 0 := by rw [hsz] at hi1; exact Nat.lt_one_iff.1 hi1
        subst this
        exact h1
    subst hargs
    exact calls_true tab_ok stateNone_run _ ⟨VR_toks h3 (by rw [h2, stateNone_cells]), trivial⟩

theorem stateNone_named : Tryz.prog.funcNamed Rows.stateNoneRow.func = some 3 := by kernel_rfl
theorem stateNone_mapsRowed : mapsRowed Tryz.prog = true := by kernel_rfl
theorem stateNone_inPlace : (Rows.stateNoneRow.inPlace == Tryz.prog.inPlace 3) = true := by kernel_rfl
theorem stateNone_unfollowed : (Rows.stateNoneRow.unfollowed == Tryz.prog.unfollowed 3) = true := by kernel_rfl
theorem stateNone_recurses : (Rows.stateNoneRow.recurses == Tryz.prog.recurses 3) = true := by kernel_rfl
theorem stateNone_vars : (Rows.stateNoneRow.named == Tryz.prog.varsNamed 3) = true := by kernel_rfl
theorem stateNone_plainKeys : (Rows.stateNoneRow.plainKeys == Tryz.prog.plainKeys) = true := by kernel_rfl
theorem stateNone_stopsHeard : Tryz.prog.stopsHeard = true := by kernel_rfl
theorem stateNone_mayEnter : Tryz.prog.mayEnter = true := by kernel_rfl
theorem stateNone_lifts : (Rows.stateNoneRow.lifted == Tryz.prog.liftsFinal) = true := by kernel_rfl
theorem stateNone_make : (Tryz.prog.make == some Rows.stateNoneRow.make) = true := by kernel_rfl
theorem stateNone_joined : joinedFacts Tryz.prog 3 Tryz.f3 Rows.stateNoneSpec Rows.stateNoneRow = true := by
  unfold joinedFacts
  rw [stateNone_laid, stateNone_mapsRowed, stateNone_inPlace, stateNone_unfollowed, stateNone_recurses, stateNone_vars, stateNone_plainKeys, stateNone_stopsHeard, stateNone_mayEnter, stateNone_lifts, stateNone_make]
  kernel_rfl
theorem stateNone_instance : Tryz.f3.isInstance Tryz.prog Rows.stateNoneRow.origin Rows.stateNoneRow.targs := of_decide_eq_true (by kernel_rfl)
theorem stateNone_wrapper : Tryz.f3.isWrapper Tryz.prog Rows.stateNoneRow.wrapper Rows.stateNoneRow.mainSum := by
  unfold Func.isWrapper; first | (rw [if_pos (by decide +kernel)]; kernel_rfl) | (rw [if_neg (by decide +kernel)]; exact ⟨rfl, rfl⟩)

theorem stateNone_holds : Rows.StateNoneSaid :=
  OpenClaim.holds_of_wide 3 Tryz.f3 rfl rfl rfl rfl rfl rfl rfl ⟨rfl, rfl, rfl, rfl, rfl⟩ rfl rfl rfl rfl rfl stateNone_named Tryz.func3 stateNone_joined
    stateNone_instance stateNone_wrapper
    (fun os started H enc _ => stateNone_lifted os started H enc)
end Go.Proofs.YthjmnmbmkpefbaaGreat
