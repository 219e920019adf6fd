/- What the functions do, shown by the logic. -/
import Derived.Test.YtgpnpcahcegadaaGreatRoG
import Derived.Test.YtgpnpcahcegadaaGreatAbsN2
set_option linter.unusedSimpArgs false
set_option linter.unusedVariables false
set_option linter.unusedSectionVars false
set_option maxRecDepth 20000
namespace Go.Proofs.YtgpnpcahcegadaaGreat.RO
open Go.Proofs.YtgpnpcahcegadaaGreat.Abs
variable {B : Nat → List AV}
theorem t3 : tyOf Tryz.prog 3 = .int .i64 := by kernel_rfl
theorem t9 : tyOf Tryz.prog 9 = .str := by kernel_rfl
theorem t25 : tyOf Tryz.prog 29 = .int .u64 := by kernel_rfl
theorem t56 : tyOf Tryz.prog 28 = .sl 9 1 := by kernel_rfl
theorem t58 : tyOf Tryz.prog 31 = .st [(0, 1, 3), (1, 1, 9), (2, 1, 9), (3, 1, 28), (4, 1, 3), (5, 1, 29), (6, 1, 29)] := by kernel_rfl
theorem t63 : tyOf Tryz.prog 33 = .st [(0, 1, 3), (1, 1, 9), (2, 1, 9), (3, 1, 9), (4, 1, 3), (5, 1, 29), (6, 1, 29)] := by kernel_rfl
theorem t35 : tyOf Tryz.prog 35 = .st [(0, 1, 3), (1, 1, 3), (2, 1, 9), (3, 7, 31), (10, 7, 33), (17, 1, 29)] := by kernel_rfl
theorem t22 : tyOf Tryz.prog 22 = .sl 35 18 := by kernel_rfl
theorem b9 : Tryz.prog.bytesOf 9 = 16 := by kernel_rfl
theorem list_of {α : Type} {P : α → Prop} {f : α → List AV} {xs : List (List AV)} (h : ∀ (i : Nat) c, xs[i]? = some c → ∃ a, c = f a ∧ P a) : ∃ l : List α, xs = l.map f ∧ ∀ a, a ∈ l → P a := by
  induction xs with
  | nil => exact ⟨[], rfl, fun a ha => by cases ha⟩
  | cons c xs ih =>
    obtain ⟨l, e, hl⟩ := ih fun i c' h' => h (i + 1) c' (by simpa using h')
    obtain ⟨a, e2, ha⟩ := h 0 c (by simp)
    refine ⟨a :: l, by rw [e, e2]; rfl, fun b hb => ?_⟩
    rcases List.mem_cons.1 hb with h3 | h3
    · rw [h3]; exact ha
    · exact hl b h3
theorem strF {m : Nat} {o sz : Nat} {fs : List (Nat × Nat × Nat)} {cs : List AV} (h : IsAll (Is Tryz.prog B m) ((o, sz, 9) :: fs) cs) : ∃ s r, cs = .str s :: r ∧ s.length ≤ 140737488351232 ∧ IsAll (Is Tryz.prog B m) fs r := by
  obtain ⟨p, r, e, _, h1, h2⟩ := h.cons
  obtain ⟨s, e2, h3⟩ := h1.strB t9
  exact ⟨s, r, by rw [e, e2]; rfl, h3, h2⟩
theorem check_of {n : Nat} {c : List AV} (h : Is Tryz.prog B n 33 c) : ∃ e : TE KC, c = entC e ∧ CkIs e.v := by
  obtain ⟨m, h0⟩ := h.st t63
  obtain ⟨a1, r1, e1, _, _, h1⟩ := h0.int t3
  obtain ⟨a2, r2, e2, b2, h2⟩ := strF h1
  obtain ⟨a3, r3, e3, b3, h3⟩ := strF h2
  obtain ⟨a4, r4, e4, b4, h4⟩ := strF h3
  obtain ⟨a5, r5, e5, _, _, h5⟩ := h4.int t3
  obtain ⟨a6, r6, e6, _, _, h6⟩ := h5.int t25
  obtain ⟨a7, r7, e7, _, _, h7⟩ := h6.int t25
  have e8 := h7.nil
  exact ⟨⟨[], ⟨a1, a2, a3, a4, a5⟩, a6, a7⟩, by rw [e1, e2, e3, e4, e5, e6, e7, e8]; rfl, ⟨b2, b3, b4⟩⟩
theorem service_of {n : Nat} {c : List AV} (h : Is Tryz.prog B n 31 c) : ∃ p : TE KS × AV, c = entS p.1 p.2 ∧ SvIs B [] p.1.v p.2 := by
  obtain ⟨m, h0⟩ := h.st t58
  obtain ⟨a1, r1, e1, _, _, h1⟩ := h0.int t3
  obtain ⟨a2, r2, e2, b2, h2⟩ := strF h1
  obtain ⟨a3, r3, e3, b3, h3⟩ := strF h2
  obtain ⟨p4, r4, e4, _, g4, h4⟩ := h3.cons
  obtain ⟨m2, tg, xs, e4b, k1, k2, k3, k4⟩ := g4.sliceB t56
  obtain ⟨tags, kt, ks⟩ := list_of (α := List Nat) (P := fun s => s.length ≤ 9223372036854775807) (f := strC) (xs := xs) fun i c hc => by
    obtain ⟨s, e, _, hl⟩ := (k4 i c hc).str t9
    exact ⟨s, e, hl⟩
  obtain ⟨a5, r5, e5, _, _, h5⟩ := h4.int t3
  obtain ⟨a6, r6, e6, _, _, h6⟩ := h5.int t25
  obtain ⟨a7, r7, e7, _, _, h7⟩ := h6.int t25
  have e8 := h7.nil
  rw [kt] at k1 k3
  rw [b9, List.length_map] at k3
  have k5 : tags.length ≤ 8796093021952 := by
    have : reachBytes = 140737488351232 := rfl
    omega
  refine ⟨(⟨[], ⟨a1, a2, a3, tags, a5⟩, a6, a7⟩, tg), by rw [e1, e2, e3, e4, e4b, e5, e6, e7, e8]; rfl, ⟨k1, (by have q := src_of (H := []) k1; rw [List.length_map] at q; exact q), k5, b2, b3, ks⟩⟩
theorem step_of {n : Nat} {c : List AV} (h : Is Tryz.prog B n 35 c) : ∃ t : St, c = stepC t ∧ StIs B t := by
  obtain ⟨m, h0⟩ := h.st t35
  obtain ⟨a1, r1, e1, _, _, h1⟩ := h0.int t3
  obtain ⟨a2, r2, e2, _, _, h2⟩ := h1.int t3
  obtain ⟨a3, r3, e3, b3, h3⟩ := strF h2
  obtain ⟨p4, r4, e4, _, g4, h4⟩ := h3.cons
  obtain ⟨p5, r5, e5, _, g5, h5⟩ := h4.cons
  obtain ⟨a6, r6, e6, _, _, h6⟩ := h5.int t25
  have e7 := h6.nil
  obtain ⟨s, es, hs⟩ := service_of g4
  obtain ⟨k, ek, hk⟩ := check_of g5
  exact ⟨⟨a1, a2, a3, s.1.v, s.2, s.1.mke, s.1.ix, k.v, k.mke, k.ix, a6⟩, by rw [e1, e2, e3, e4, e5, e6, e7, es, ek]; rfl, ⟨hs, hk, b3⟩⟩
theorem steps_of {n : Nat} {c : List AV} (h : Is Tryz.prog B n 22 c) : ∃ (w : AV) (l : List St), c = [w] ∧ (∀ H : HL, SlIs B H w 18 (l.map stepC)) ∧ l.length ≤ 9223372036854775807 ∧ ∀ (i : Nat) (h : i < l.length), StIs B l[i] := by
  obtain ⟨m2, w, xs, e, k1, k2, k3⟩ := h.slice t22
  obtain ⟨l, el, hl⟩ := list_of (f := stepC) fun i c hc => step_of (k3 i c hc)
  rw [el] at k1 k2
  rw [List.length_map] at k2
  exact ⟨w, l, e, fun H => k1.any, k2, fun i h => hl _ (List.getElem_mem h)⟩
end Go.Proofs.YtgpnpcahcegadaaGreat.RO
