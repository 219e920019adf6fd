/- Proved: for every input the law WaiterNone returns true, and its argument reads afterwards as it read before. Conditions: none beyond what the row's own cells say. -/
import Derived.Test.YthjmnmbmkpefbaaGreatWaiterNoneTab
set_option maxRecDepth 100000
set_option linter.unusedSimpArgs false
set_option linter.unusedVariables false
namespace Go.Proofs.YthjmnmbmkpefbaaGreat
open Go.ChangeShapes Go.WideShapes Go.ChangeAt Go.RowKit Go.Proofs.YthjmnmbmkpefbaaGreat.Abs Go.Proofs.YthjmnmbmkpefbaaGreat.AbsWaiterNone

/-- The evaluator's run of the law, over tokens. -/
theorem waiterNone_run : isT (run (fun _ => []) tab 80 (.func 5) [.agg (toksOf 10)] ⟨.e, 0⟩) = true := by kernel_rfl

theorem waiterNone_own : ownKnob Tryz.prog.godebug = none := by kernel_rfl
theorem waiterNone_laid : laidOutB Tryz.prog = true := by kernel_rfl
theorem waiterNone_cells : Tryz.prog.cellsOf 80 = 10 := by kernel_rfl
theorem waiterNone_res : Tryz.f5.resultTypes = #[4] := by kernel_rfl
theorem waiterNone_bool : Tryz.prog.underlying 4 = some .bool := by kernel_rfl

noncomputable def waiterNoneArg : Value := .agg #[.int .i64 (.ofNat 0), .int .u32 (.ofNat 0), .int .i64 (.ofNat 0), .int .i64 (.ofNat 0), .string ⟨#[]⟩, .string ⟨#[]⟩, .string ⟨#[]⟩, .bool false, .int .u64 (.ofNat 0), .int .i64 (.ofNat 0)]

theorem waiterNone_lifted (os : Os) (started : os.Started) (H : Type) (enc : TypeId × Value → H) :
    ReturnsInHanded {} Tryz.checked os 5 .any (Rows.waiterNoneSpec.pre6 enc Tryz.prog Tryz.f5 Rows.waiterNoneRow.domain Rows.waiterNoneRow.apart)
      (Rows.waiterNoneSpec.post enc Tryz.prog Tryz.f5 Rows.waiterNoneRow.apart Rows.waiterNoneRow.fresh Rows.waiterNoneRow.handsOn Rows.waiterNoneRow.again) := by
  refine law_true (C := Tryz.checked) waiterNone_own started (by kernel_rfl) Tryz.func5
    (ChangeSpec.witness6 (enc := enc) (C := Tryz.checked) false ⟨#[], #[waiterNoneArg], []⟩ 8 (by kernel_rfl) (by kernel_rfl) (by kernel_rfl) (by kernel_rfl))
    waiterNone_laid (by kernel_rfl) rfl ?_ waiterNone_res waiterNone_bool ?_
  · intro ds hd
    rw [Tryz.params5] at hd
    match ds, hd with
    | [d], _ => rfl
  · intro W base args hsz hval
    rw [Tryz.params5] at hsz hval
    have hs0 : 0 < args.size := by rw [hsz]; decide
    obtain ⟨cs, h1, h2, h3⟩ := okWide_agg Tryz.underlying80 (hval 0 80 args[0] rfl (Array.getElem?_eq_getElem hs0))
    have hargs : args = #[.agg cs] := by
      apply Array.ext
      · rw [hsz]; rfl
      · intro i hi1 hi2
        have : i = 0 := by rw [hsz] at hi1; exact Nat.lt_one_iff.1 hi1
        subst this
        exact h1
    subst hargs
    exact calls_true tab_ok waiterNone_run _ ⟨VR_toks h3 (by rw [h2, waiterNone_cells]), trivial⟩

theorem waiterNone_named : Tryz.prog.funcNamed Rows.waiterNoneRow.func = some 5 := by kernel_rfl
theorem waiterNone_mapsRowed : mapsRowed Tryz.prog = true := by kernel_rfl
theorem waiterNone_inPlace : (Rows.waiterNoneRow.inPlace == Tryz.prog.inPlace 5) = true := by kernel_rfl
theorem waiterNone_unfollowed : (Rows.waiterNoneRow.unfollowed == Tryz.prog.unfollowed 5) = true := by kernel_rfl
theorem waiterNone_recurses : (Rows.waiterNoneRow.recurses == Tryz.prog.recurses 5) = true := by kernel_rfl
theorem waiterNone_vars : (Rows.waiterNoneRow.named == Tryz.prog.varsNamed 5) = true := by kernel_rfl
theorem waiterNone_plainKeys : (Rows.waiterNoneRow.plainKeys == Tryz.prog.plainKeys) = true := by kernel_rfl
theorem waiterNone_stopsHeard : Tryz.prog.stopsHeard = true := by kernel_rfl
theorem waiterNone_mayEnter : Tryz.prog.mayEnter = true := by kernel_rfl
theorem waiterNone_lifts : (Rows.waiterNoneRow.lifted == Tryz.prog.liftsFinal) = true := by kernel_rfl
theorem waiterNone_make : (Tryz.prog.make == some Rows.waiterNoneRow.make) = true := by kernel_rfl
theorem waiterNone_joined : joinedFacts Tryz.prog 5 Tryz.f5 Rows.waiterNoneSpec Rows.waiterNoneRow = true := by
  unfold joinedFacts
  rw [waiterNone_laid, waiterNone_mapsRowed, waiterNone_inPlace, waiterNone_unfollowed, waiterNone_recurses, waiterNone_vars, waiterNone_plainKeys, waiterNone_stopsHeard, waiterNone_mayEnter, waiterNone_lifts, waiterNone_make]
  kernel_rfl
theorem waiterNone_instance : Tryz.f5.isInstance Tryz.prog Rows.waiterNoneRow.origin Rows.waiterNoneRow.targs := of_decide_eq_true (by kernel_rfl)
theorem waiterNone_wrapper : Tryz.f5.isWrapper Tryz.prog Rows.waiterNoneRow.wrapper Rows.waiterNoneRow.mainSum := by
  unfold Func.isWrapper; first | (rw [if_pos (by decide +kernel)]; kernel_rfl) | (rw [if_neg (by decide +kernel)]; exact ⟨rfl, rfl⟩)

theorem waiterNone_holds : Rows.WaiterNoneSaid :=
  OpenClaim.holds_of_wide 5 Tryz.f5 rfl rfl rfl rfl rfl rfl rfl ⟨rfl, rfl, rfl, rfl, rfl⟩ rfl rfl rfl rfl rfl waiterNone_named Tryz.func5 waiterNone_joined
    waiterNone_instance waiterNone_wrapper
    (fun os started H enc _ => waiterNone_lifted os started H enc)
end Go.Proofs.YthjmnmbmkpefbaaGreat
