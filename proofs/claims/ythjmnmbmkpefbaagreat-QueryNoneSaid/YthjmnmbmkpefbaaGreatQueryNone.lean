/- Proved: for every input the law QueryNone returns true, and its argument reads afterwards as it read before. Conditions: none beyond what the row's own cells say. -/
import Derived.Test.YthjmnmbmkpefbaaGreatQueryNoneTab
set_option maxRecDepth 100000
set_option linter.unusedSimpArgs false
set_option linter.unusedVariables false
namespace Go.Proofs.YthjmnmbmkpefbaaGreat
open Go.ChangeShapes Go.WideShapes Go.ChangeAt Go.RowKit Go.Proofs.YthjmnmbmkpefbaaGreat.Abs Go.Proofs.YthjmnmbmkpefbaaGreat.AbsQueryNone

/-- The evaluator's run of the law, over tokens. -/
theorem queryNone_run : isT (run (fun _ => []) tab 80 (.func 4) [.agg (toksOf 6)] ⟨.e, 0⟩) = true := by kernel_rfl

theorem queryNone_own : ownKnob Tryz.prog.godebug = none := by kernel_rfl
theorem queryNone_laid : laidOutB Tryz.prog = true := by kernel_rfl
theorem queryNone_cells : Tryz.prog.cellsOf 69 = 6 := by kernel_rfl
theorem queryNone_res : Tryz.f4.resultTypes = #[4] := by kernel_rfl
theorem queryNone_bool : Tryz.prog.underlying 4 = some .bool := by kernel_rfl

noncomputable def queryNoneArg : Value := .agg #[.int .i64 (.ofNat 0), .int .i64 (.ofNat 0), .string ⟨#[]⟩, .string ⟨#[]⟩, .string ⟨#[]⟩, .bool false]

theorem queryNone_lifted (os : Os) (started : os.Started) (H : Type) (enc : TypeId × Value → H) :
    ReturnsInHanded {} Tryz.checked os 4 .any (Rows.queryNoneSpec.pre6 enc Tryz.prog Tryz.f4 Rows.queryNoneRow.domain Rows.queryNoneRow.apart)
      (Rows.queryNoneSpec.post enc Tryz.prog Tryz.f4 Rows.queryNoneRow.apart Rows.queryNoneRow.fresh Rows.queryNoneRow.handsOn Rows.queryNoneRow.again) := by
  refine law_true (C := Tryz.checked) queryNone_own started (by kernel_rfl) Tryz.func4
    (ChangeSpec.witness6 (enc := enc) (C := Tryz.checked) false ⟨#[], #[queryNoneArg], []⟩ 8 (by kernel_rfl) (by kernel_rfl) (by kernel_rfl) (by kernel_rfl))
    queryNone_laid (by kernel_rfl) rfl ?_ queryNone_res queryNone_bool ?_
  · intro ds hd
    rw [Tryz.params4] at hd
    match ds, hd with
    | [d], _ => rfl
  · intro W base args hsz hval
    rw [Tryz.params4] at hsz hval
    have hs0 : 0 < args.size := by rw [hsz]; decide
    obtain ⟨cs, h1, h2, h3⟩ := okWide_agg Tryz.underlying69 (hval 0 69 args[0] rfl (Array.getElem?_eq_getElem hs0))
    have hargs : args = #[.agg cs] := by
      apply Array.ext
      · rw [hsz]; rfl
      · intro i hi1 hi2
        have : i = 0 := by rw [hsz] at hi1; exact Nat.lt_one_iff.1 hi1
        subst this
        exact h1
    subst hargs
    exact calls_true tab_ok queryNone_run _ ⟨VR_toks h3 (by rw [h2, queryNone_cells]), trivial⟩

theorem queryNone_named : Tryz.prog.funcNamed Rows.queryNoneRow.func = some 4 := by kernel_rfl
theorem queryNone_mapsRowed : mapsRowed Tryz.prog = true := by kernel_rfl
theorem queryNone_inPlace : (Rows.queryNoneRow.inPlace == Tryz.prog.inPlace 4) = true := by kernel_rfl
theorem queryNone_unfollowed : (Rows.queryNoneRow.unfollowed == Tryz.prog.unfollowed 4) = true := by kernel_rfl
theorem queryNone_recurses : (Rows.queryNoneRow.recurses == Tryz.prog.recurses 4) = true := by kernel_rfl
theorem queryNone_vars : (Rows.queryNoneRow.named == Tryz.prog.varsNamed 4) = true := by kernel_rfl
theorem queryNone_plainKeys : (Rows.queryNoneRow.plainKeys == Tryz.prog.plainKeys) = true := by kernel_rfl
theorem queryNone_stopsHeard : Tryz.prog.stopsHeard = true := by kernel_rfl
theorem queryNone_mayEnter : Tryz.prog.mayEnter = true := by kernel_rfl
theorem queryNone_lifts : (Rows.queryNoneRow.lifted == Tryz.prog.liftsFinal) = true := by kernel_rfl
theorem queryNone_make : (Tryz.prog.make == some Rows.queryNoneRow.make) = true := by kernel_rfl
theorem queryNone_joined : joinedFacts Tryz.prog 4 Tryz.f4 Rows.queryNoneSpec Rows.queryNoneRow = true := by
  unfold joinedFacts
  rw [queryNone_laid, queryNone_mapsRowed, queryNone_inPlace, queryNone_unfollowed, queryNone_recurses, queryNone_vars, queryNone_plainKeys, queryNone_stopsHeard, queryNone_mayEnter, queryNone_lifts, queryNone_make]
  kernel_rfl
theorem queryNone_instance : Tryz.f4.isInstance Tryz.prog Rows.queryNoneRow.origin Rows.queryNoneRow.targs := of_decide_eq_true (by kernel_rfl)
theorem queryNone_wrapper : Tryz.f4.isWrapper Tryz.prog Rows.queryNoneRow.wrapper Rows.queryNoneRow.mainSum := by
  unfold Func.isWrapper; first | (rw [if_pos (by decide +kernel)]; kernel_rfl) | (rw [if_neg (by decide +kernel)]; exact ⟨rfl, rfl⟩)

theorem queryNone_holds : Rows.QueryNoneSaid :=
  OpenClaim.holds_of_wide 4 Tryz.f4 rfl rfl rfl rfl rfl rfl rfl ⟨rfl, rfl, rfl, rfl, rfl⟩ rfl rfl rfl rfl rfl queryNone_named Tryz.func4 queryNone_joined
    queryNone_instance queryNone_wrapper
    (fun os started H enc _ => queryNone_lifted os started H enc)
end Go.Proofs.YthjmnmbmkpefbaaGreat
