/- Proved: for every input the law KvNone returns true, and its argument reads afterwards as it read before. Conditions: none beyond what the row's own cells say. -/
import Derived.Test.YthjmnmbmkpefbaaKvNoneTab
set_option maxRecDepth 100000
set_option linter.unusedSimpArgs false
set_option linter.unusedVariables false
namespace Go.Proofs.Ythjmnmbmkpefbaa
open Go.ChangeShapes Go.WideShapes Go.ChangeAt Go.RowKit Go.Proofs.Ythjmnmbmkpefbaa.Abs Go.Proofs.Ythjmnmbmkpefbaa.AbsKvNone

/-- The evaluator's run of the law, over tokens. -/
theorem kvNone_run : isT (run (fun _ => []) tab 60 (.func 4) [.agg (toksOf 6)] ⟨.e, 0⟩) = true := by kernel_rfl

theorem kvNone_own : ownKnob Try.prog.godebug = none := by kernel_rfl
theorem kvNone_laid : laidOutB Try.prog = true := by kernel_rfl
theorem kvNone_cells : Try.prog.cellsOf 57 = 6 := by kernel_rfl
theorem kvNone_res : Try.f4.resultTypes = #[4] := by kernel_rfl
theorem kvNone_bool : Try.prog.underlying 4 = some .bool := by kernel_rfl

noncomputable def kvNoneArg : Value := .agg #[.int .i64 (.ofNat 0), .string ⟨#[]⟩, .string ⟨#[]⟩, .int .u64 (.ofNat 0), .int .u64 (.ofNat 0), .int .u64 (.ofNat 0)]

theorem kvNone_lifted (os : Os) (started : os.Started) (H : Type) (enc : TypeId × Value → H) :
    ReturnsInHanded {} Try.checked os 4 .any (Rows.kvNoneSpec.pre6 enc Try.prog Try.f4 Rows.kvNoneRow.domain Rows.kvNoneRow.apart)
      (Rows.kvNoneSpec.post enc Try.prog Try.f4 Rows.kvNoneRow.apart Rows.kvNoneRow.fresh Rows.kvNoneRow.handsOn Rows.kvNoneRow.again) := by
  refine law_true (C := Try.checked) kvNone_own started (by kernel_rfl) Try.func4
    (ChangeSpec.witness6 (enc := enc) (C := Try.checked) false ⟨#[], #[kvNoneArg], []⟩ 8 (by kernel_rfl) (by kernel_rfl) (by kernel_rfl) (by kernel_rfl))
    kvNone_laid (by kernel_rfl) rfl ?_ kvNone_res kvNone_bool ?_
  · intro ds hd
    rw [Try.params4] at hd
    match ds, hd with
    | [d], _ => rfl
  · intro W base args hsz hval
    rw [Try.params4] at hsz hval
    have hs0 : 0 < args.size := by rw [hsz]; decide
    obtain ⟨cs, h1, h2, h3⟩ := okWide_agg Try.underlying57 (hval 0 57 args[0] rfl (Array.getElem?_eq_getElem hs0))
    have hargs : args = #[.agg cs] := by
      apply Array.ext
      · rw [hsz]; rfl
      · intro i hi1 hi2
        have : i = 0 := by rw [hsz] at hi1; exact Nat.lt_one_iff.1 hi1
        subst this
        exact h1
    subst hargs
    exact calls_true tab_ok kvNone_run _ ⟨VR_toks h3 (by rw [h2, kvNone_cells]), trivial⟩

theorem kvNone_holds : Rows.KvNoneSaid :=
  OpenClaim.holds_of_wide 4 Try.f4 rfl rfl rfl rfl rfl rfl rfl ⟨rfl, rfl, rfl, rfl, rfl⟩ rfl rfl rfl rfl rfl (by kernel_rfl) Try.func4 (by kernel_rfl)
    (of_decide_eq_true (by kernel_rfl)) (by unfold Func.isWrapper; first | (rw [if_pos (by decide +kernel)]; kernel_rfl) | (rw [if_neg (by decide +kernel)]; exact ⟨rfl, rfl⟩))
    (fun os started H enc _ => kvNone_lifted os started H enc)
end Go.Proofs.Ythjmnmbmkpefbaa
