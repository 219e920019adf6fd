/- Slices and flat structs among the arguments. -/
import Derived.Test.YtdcbglljljfleaaAbsN
import Derived.Test.YtdcbglljljfleaaAbsJ
set_option linter.unusedSimpArgs false
set_option linter.unusedVariables false
set_option linter.unusedSectionVars false
set_option linter.constructorNameAsVariable false
namespace Go.Proofs.Ytdcbglljljfleaa.Abs
section n2
variable {P : Program} {B : Nat → List AV}
theorem Is.sliceB {n t e esz : Nat} {cs : List AV} (h : Is P B n t cs) (ht : tyOf P t = .sl e esz) : ∃ m v xs, cs = [v] ∧ SlIs B [] v esz xs ∧ xs.length ≤ 9223372036854775807 ∧ xs.length * P.bytesOf e ≤ reachBytes ∧ ∀ (i : Nat) c, xs[i]? = some c → Is P B m e c := by
 obtain ⟨m, rfl | ⟨id, len, rfl, hl, hby, h⟩⟩ := h.slB ht
 ·exact ⟨m, .nilsl, [], rfl, .inl ⟨rfl, rfl⟩, by simp, by simp, by simp⟩
 ·have key : ∀ i c, ((List.range len).map fun i => ((B id).drop (i * esz)).take esz)[i]? = some c → takeN ((B id).drop (i * esz)) esz = some c ∧ Is P B m e c := by
   intro i c hc
   rw [List.getElem?_map] at hc
   rcases Nat.lt_or_ge i len with h1 | h1
   ·rw [List.getElem?_range h1] at hc
    simp only [Option.map_some, Option.some.injEq] at hc
    obtain ⟨d, k1, k2⟩ := h i h1
    have := (takeN_some k1).2.2.2
    rw [← hc, ← this]
    exact ⟨k1, k2⟩
   ·rw [List.getElem?_eq_none (by simpa using h1)] at hc; cases hc
  refine ⟨m, _, (List.range len).map fun i => ((B id).drop (i * esz)).take esz, rfl, .inr ⟨⟨true, id, 0⟩, by simp, fun i c hc => ?_⟩, by simpa [maxLen] using hl, by simpa using hby, fun i c hc => (key i c hc).2⟩
  exact .inl ⟨rfl, by simpa using (key i c hc).1⟩
theorem Is.slice {n t e esz : Nat} {cs : List AV} (h : Is P B n t cs) (ht : tyOf P t = .sl e esz) : ∃ m v xs, cs = [v] ∧ SlIs B [] v esz xs ∧ xs.length ≤ 9223372036854775807 ∧ ∀ (i : Nat) c, xs[i]? = some c → Is P B m e c := by
 obtain ⟨m, v, xs, h1, h2, h3, _, h4⟩ := h.sliceB ht
 exact ⟨m, v, xs, h1, h2, h3, h4⟩
def CT.ty : CT → Ty
 | .int k => .int k
 | .str => .str
 | .bool => .bool
def TysAre (P : Program) : List (Nat × Nat × Nat) → List CT → Prop
 | [], [] => True
 | f :: fs, c :: cs => tyOf P f.2.2 = c.ty ∧ TysAre P fs cs
 | _, _ => False
theorem allT_of {m : Nat} : ∀ {fs : List (Nat × Nat × Nat)} {cts : List CT} {c : List AV}, IsAll (Is P B m) fs c → TysAre P fs cts → AllT cts c := by
 intro fs
 induction fs with
 | nil => intro cts c h k; cases cts with
  | nil => exact h
  | cons _ _ => exact k.elim
 | cons f fs ih =>
  intro cts c h k
  cases cts with
  | nil => exact k.elim
  | cons x cts =>
   obtain ⟨k1, k2⟩ := k
   obtain ⟨p, r, rfl, _, h1, h2⟩ := h
   cases x with
   | int k => obtain ⟨i, rfl, _, _⟩ := h1.int k1; exact ⟨_, _, rfl, ⟨i, rfl⟩, ih h2 k2⟩
   | str => obtain ⟨i, rfl, _, _⟩ := h1.str k1; exact ⟨_, _, rfl, ⟨i, rfl⟩, ih h2 k2⟩
   | bool => obtain ⟨i, rfl⟩ := h1.bool k1; exact ⟨_, _, rfl, ⟨i, rfl⟩, ih h2 k2⟩
theorem Is.flat {n t e esz : Nat} {cs : List AV} {fs : List (Nat × Nat × Nat)} {cts : List CT} (h : Is P B n t cs) (ht : tyOf P t = .sl e esz) (he : tyOf P e = .st fs) (hf : TysAre P fs cts) :
  ∃ v xs, cs = [v] ∧ SlIs B [] v esz xs ∧ (∀ (i : Nat) c, xs[i]? = some c → AllT cts c) ∧ xs.length ≤ 9223372036854775807 := by
 obtain ⟨m, v, xs, rfl, h1, h2, h3⟩ := h.slice ht
 refine ⟨v, xs, rfl, h1, fun i c hc => ?_, h2⟩
 obtain ⟨m', h4⟩ := (h3 i c hc).st he
 exact allT_of h4 hf
theorem Is.texts {n t e : Nat} {cs : List AV} (h : Is P B n t cs) (ht : tyOf P t = .sl e 1) (he : tyOf P e = .str) :
  ∃ v xs, cs = [v] ∧ SlIs B [] v 1 xs ∧ (∀ (i : Nat) c, xs[i]? = some c → AllT [.str] c) ∧ xs.length ≤ 9223372036854775807 := by
 obtain ⟨m, v, xs, rfl, h1, h2, h3⟩ := h.slice ht
 refine ⟨v, xs, rfl, h1, fun i c hc => ?_, h2⟩
 obtain ⟨s, rfl, _, _⟩ := (h3 i c hc).str he
 exact ⟨_, _, rfl, ⟨s, rfl⟩, rfl⟩
theorem Is.textsB {n t e : Nat} {cs : List AV} (h : Is P B n t cs) (ht : tyOf P t = .sl e 1) (he : tyOf P e = .str) :
  ∃ v xs, cs = [v] ∧ SlIs B [] v 1 xs ∧ (∀ (i : Nat) c, xs[i]? = some c → AllT [.str] c) ∧ xs.length * P.bytesOf e ≤ reachBytes := by
 obtain ⟨m, v, xs, rfl, h1, _, h2, h3⟩ := h.sliceB ht
 refine ⟨v, xs, rfl, h1, fun i c hc => ?_, h2⟩
 obtain ⟨s, rfl, _, _⟩ := (h3 i c hc).str he
 exact ⟨_, _, rfl, ⟨s, rfl⟩, rfl⟩
theorem Rel2.of {α : Type} {R : List AV → α → Prop} {xs : List (List AV)} (h : ∀ (i : Nat) c, xs[i]? = some c → ∃ u, R c u) : ∃ us, Rel2 R xs us := by
 induction xs with
 | nil => exact ⟨[], rfl, fun i c u h => by simp at h⟩
 | cons x xs ih =>
  obtain ⟨u, hu⟩ := h 0 x rfl
  obtain ⟨us, h1, h2⟩ := ih fun i c hc => h (i + 1) c (by simpa using hc)
  refine ⟨u :: us, by simp [h1], fun i c v hc hv => ?_⟩
  cases i with
  | zero => cases hc; cases hv; exact hu
  | succ i => exact h2 i c v (by simpa using hc) (by simpa using hv)
end n2
end Go.Proofs.Ytdcbglljljfleaa.Abs
