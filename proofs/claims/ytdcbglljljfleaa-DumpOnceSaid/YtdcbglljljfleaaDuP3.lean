/- What the functions do, shown by the logic. -/
import Derived.Test.YtdcbglljljfleaaDuP2
set_option linter.unusedSimpArgs false
set_option linter.unusedVariables false
set_option linter.unusedSectionVars false
set_option maxRecDepth 20000
namespace Go.Proofs.Ytdcbglljljfleaa.DU
open Go.Proofs.Ytdcbglljljfleaa.Abs
variable {B : Nat → List AV}
theorem badL_of {l : List (List Fd)} {r : List Fd} (h : r ∈ l) (k : ¬ rightRow r) : badL l := ⟨r, h, k⟩
end Go.Proofs.Ytdcbglljljfleaa.DU
