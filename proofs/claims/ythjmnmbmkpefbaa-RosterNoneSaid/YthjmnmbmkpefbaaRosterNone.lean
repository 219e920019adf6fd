/- Proved: for every input the law RosterNone returns true, and its argument reads afterwards as it read before. Conditions: none beyond the row's own (it takes calls unfollowed and recursion, as the row's cells say). -/
import Derived.Test.YthjmnmbmkpefbaaAbsTab
set_option maxRecDepth 100000
set_option linter.unusedSimpArgs false
set_option linter.unusedVariables false
namespace Go.Proofs.Ythjmnmbmkpefbaa
open Go.ChangeShapes Go.WideShapes Go.ChangeAt Go.RowKit Go.Proofs.Ythjmnmbmkpefbaa.Abs

/-- The evaluator's run of the law, over tokens. -/
theorem rosterNone_run : isT (run (fun _ => []) tab 60 (.func 3) [.agg (toksOf 18)] ⟨.e, 0⟩) = true := by kernel_rfl

theorem rosterNone_own : ownKnob Try.prog.godebug = none := by kernel_rfl
theorem rosterNone_laid : laidOutB Try.prog = true := by kernel_rfl
theorem rosterNone_cells : Try.prog.cellsOf 29 = 18 := by kernel_rfl
theorem rosterNone_res : Try.f3.resultTypes = #[4] := by kernel_rfl
theorem rosterNone_bool : Try.prog.underlying 4 = some .bool := by kernel_rfl

noncomputable def rosterNoneArg : Value := .agg #[.int .i64 0, .int .i64 0, .string ⟨#[]⟩, .int .i64 0, .string ⟨#[]⟩, .string ⟨#[]⟩, .slice none 0 0, .int .i64 0, .int .u64 0, .int .u64 0,
  .int .i64 0, .string ⟨#[]⟩, .string ⟨#[]⟩, .string ⟨#[]⟩, .int .i64 0, .int .u64 0, .int .u64 0, .int .u64 0]

theorem rosterNone_lifted (os : Os) (started : os.Started) (H : Type) (enc : TypeId × Value → H) :
    ReturnsInHanded {} Try.checked os 3 .any (Rows.rosterNoneSpec.pre6 enc Try.prog Try.f3 Rows.rosterNoneRow.domain Rows.rosterNoneRow.apart)
      (Rows.rosterNoneSpec.post enc Try.prog Try.f3 Rows.rosterNoneRow.apart Rows.rosterNoneRow.fresh Rows.rosterNoneRow.handsOn Rows.rosterNoneRow.again) := by
  refine law_true (C := Try.checked) rosterNone_own started (by kernel_rfl) Try.func3
    (ChangeSpec.witness6 (enc := enc) (C := Try.checked) false ⟨#[], #[rosterNoneArg], []⟩ 8 (by kernel_rfl) (by kernel_rfl) (by kernel_rfl) (by kernel_rfl))
    rosterNone_laid (by kernel_rfl) rfl ?_ rosterNone_res rosterNone_bool ?_
  · intro ds hd
    rw [Try.params3] at hd
    match ds, hd with
    | [d], _ => rfl
  · intro W base args hsz hval
    rw [Try.params3] at hsz hval
    have hs0 : 0 < args.size := by rw [hsz]; decide
    obtain ⟨cs, h1, h2, h3⟩ := okWide_agg Try.underlying29 (hval 0 29 args[0] rfl (Array.getElem?_eq_getElem hs0))
    have hargs : args = #[.agg cs] := by
      apply Array.ext
      · rw [hsz]; rfl
      · intro i hi1 hi2
        have : i = 0 := by rw [hsz] at hi1; exact Nat.lt_one_iff.1 hi1
        subst this
        exact h1
    subst hargs
    exact calls_true tab_ok rosterNone_run _ ⟨VR_toks h3 (by rw [h2, rosterNone_cells]), trivial⟩

theorem rosterNone_holds : Rows.RosterNoneSaid :=
  OpenClaim.holds_of_wide 3 Try.f3 rfl rfl rfl rfl rfl rfl rfl ⟨rfl, rfl, rfl, rfl, rfl⟩ rfl rfl rfl rfl rfl (by kernel_rfl) Try.func3 (by kernel_rfl)
    (of_decide_eq_true (by kernel_rfl)) (by unfold Func.isWrapper; first | (rw [if_pos (by decide +kernel)]; kernel_rfl) | (rw [if_neg (by decide +kernel)]; exact ⟨rfl, rfl⟩))
    (fun os started H enc _ => rosterNone_lifted os started H enc)
end Go.Proofs.Ythjmnmbmkpefbaa
