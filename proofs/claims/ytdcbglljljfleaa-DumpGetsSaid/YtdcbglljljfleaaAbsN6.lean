/- The logic: maps by texts. -/
import Derived.Test.YtdcbglljljfleaaAbsN5
set_option linter.unusedSimpArgs false
set_option linter.unusedVariables false
set_option linter.unusedSectionVars false
set_option linter.constructorNameAsVariable false
namespace Go.Proofs.Ytdcbglljljfleaa.Abs
section n6
variable {B : Nat → List AV} {T : Tr FnI}
end n6
theorem WC.cut {B : Nat → List AV} {T : Tr FnI} {nt : Nat} {rdn : Option Nat} {t : EL} {H : HL} {Q : AExit → EL → HL → Prop} {X : Type} {a b : AC} (ts : X → EL) (hs : X → HL) (P : X → Prop) (w : WC B T nt rdn a t H fun ex t' H' => ex = .normal ∧ ∃ x, Sub1 (ts x) t' ∧ SubP (hs x) H' ∧ P x)
  (k : ∀ x, P x → WC B T nt rdn b (ts x) (hs x) Q) : WC B T nt rdn (.seq a b) t H Q := WC.seq (WC.mono w (by
 rintro ex t' H' ⟨rfl, x, h1, h2, h3⟩
 exact WC.le h1 (WC.lessP h2 (k x h3))))
end Go.Proofs.Ytdcbglljljfleaa.Abs
