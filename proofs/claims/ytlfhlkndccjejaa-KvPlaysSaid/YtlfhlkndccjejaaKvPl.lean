/- What the functions do, shown by the logic. -/
import Derived.Test.YtlfhlkndccjejaaKvP5
set_option linter.unusedSimpArgs false
set_option linter.unusedVariables false
set_option maxRecDepth 20000
namespace Go.Proofs.Ytlfhlkndccjejaa.KV
open Go.Proofs.Ytlfhlkndccjejaa.Abs
variable {B : Nat → List AV}
theorem kvPlays_wf (B : Nat → List AV) (args : List AV) (h : ArgIs Try.prog B Try.f5.params.toList args) : WF B tab (.func 5) args [] fun v _ => v = .bool true := by
  rw [show Try.f5.params.toList = [3, 52] from by kernel_rfl] at h
  match args, h with
  | [a, b], ⟨⟨n, cs, h, ha⟩, ⟨n2, ds, k, hb⟩, _⟩ =>
    rw [show (shapeOf Try.prog 3).1 = false from by kernel_rfl] at ha
    rw [show (shapeOf Try.prog 52).1 = false from by kernel_rfl] at hb
    simp only at ha hb
    obtain ⟨m, rfl, _⟩ := h.int t3
    obtain ⟨m2, w, xs, rfl, k1, k2, k3⟩ := k.slice t52
    obtain ⟨l, rfl, hl⟩ := sts_of k3
    cases ha
    cases hb
    exact plays_ok k1 (by simpa using k2) hl
end Go.Proofs.Ytlfhlkndccjejaa.KV
