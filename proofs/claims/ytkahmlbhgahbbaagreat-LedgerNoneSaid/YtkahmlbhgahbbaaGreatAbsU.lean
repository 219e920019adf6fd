/- Every operation but a call of a function: sound. -/
import Derived.Test.YtkahmlbhgahbbaaGreatAbsT
set_option linter.unusedSimpArgs false
set_option linter.unusedVariables false
set_option linter.unusedSectionVars false
set_option linter.constructorNameAsVariable false
namespace Go.Proofs.YtkahmlbhgahbbaaGreat.Abs

theorem c1_some {x : Operand} {k : AO → AOp} {ao : AOp} (e : c1 x k = some ao) : ∃ a, cAO x = some a ∧ ao = k a := by
  unfold c1 at e
  split at e
  · rename_i a ha; cases e; exact ⟨a, ha, rfl⟩
  · cases e
theorem c2_some {x y : Operand} {k : AO → AO → AOp} {ao : AOp} (e : c2 x y k = some ao) : ∃ a b, cAO x = some a ∧ cAO y = some b ∧ ao = k a b := by
  unfold c2 at e
  split at e
  · rename_i a ha
    split at e
    · rename_i b hb; cases e; exact ⟨a, b, ha, hb, rfl⟩
    · cases e
  · cases e

section ops
variable {S : Sta} {w0 : World} {ρ : Ren} {h : AH} {w : World}

theorem VR.cells' {v : AV} {c : Value} (hv : VR S ρ v c) : VRs S ρ v.cells c.cells.toList := by
  cases hcell : v.isCell with
  | true =>
    have e4 : v.cells = [v] := by cases v <;> first | rfl | simp [AV.isCell] at hcell
    rw [e4, cells_one (hv.cell hcell)]; exact ⟨hv, trivial⟩
  | false =>
    cases v <;> simp [AV.isCell] at hcell
    · obtain ⟨y, rfl, hys⟩ := hv; exact hys
    · obtain ⟨y, rfl, hys⟩ := hv; exact ⟨⟨y, rfl, hys⟩, trivial⟩

theorem VRs.cells_one {v : AV} {c : Value} (hv : VR S ρ v c) : True := trivial

theorem asAddr_VR {a : AA} {c : Value} (hc : VR S ρ (.ptr a) c) : ∃ x, c = .pointer (some x) ∧ AddrR S ρ a x := hc

theorem AddrR.plain {a : AA} {x : Addr} (hx : AddrR S ρ a x) : x = ⟨x.block, x.off, none⟩ := by
  unfold AddrR at hx
  split at hx
  · rw [hx]
  · obtain ⟨l, _, rfl⟩ := hx; rfl

theorem AddrR.add {a : AA} {x : Addr} (hx : AddrR S ρ a x) (n : Nat) : AddrR S ρ ⟨a.ro, a.id, a.off + n⟩ (x.add n) := by
  unfold AddrR at hx ⊢
  cases hro : a.ro with
  | true => rw [hro] at hx; simp only at hx ⊢; rw [hx, addr_add, Nat.add_assoc]
  | false => rw [hro] at hx; simp only at hx ⊢; obtain ⟨l, h1, rfl⟩ := hx; exact ⟨l, h1, by rw [addr_add, Nat.add_assoc]⟩

theorem repl_get {α : Type} (z : List α) (hz : 0 < z.length) : ∀ (n j : Nat), ((List.replicate n z).flatten)[j]? = if j < n * z.length then z[j % z.length]? else none := by
  intro n
  induction n with
  | zero => intro j; simp
  | succ n ih =>
    intro j
    rw [List.replicate_succ, List.flatten_cons]
    by_cases hj : j < z.length
    · rw [List.getElem?_append_left hj, if_pos (by rw [Nat.add_mul]; omega), Nat.mod_eq_of_lt hj]
    · rw [List.getElem?_append_right (by omega), ih (j - z.length)]
      by_cases h2 : j < (n + 1) * z.length
      · rw [if_pos h2, if_pos (by rw [Nat.add_mul] at h2; omega), Nat.mod_eq_sub_mod (a := j) (by omega)]
      · rw [if_neg h2, if_neg (by rw [Nat.add_mul] at h2; omega)]

theorem repl_VRs {z : List AV} {c : Array Value} (hc : VRs S ρ z c.toList) (hz : 0 < z.length) (n : Nat) :
    VRs S ρ (List.replicate n z).flatten ((Array.range (n * z.length)).map (c[· % c.size]!)).toList := by
  have hl : z.length = c.size := by rw [hc.length, Array.length_toList]
  refine VRs.iff.2 ⟨by simp, fun i v hv => ?_⟩
  rw [repl_get z hz] at hv
  split at hv
  · rename_i hi
    obtain ⟨y, h1, h2⟩ := hc.get hv
    refine ⟨y, ?_, h2⟩
    have hm : i % z.length < c.size := by rw [← hl]; exact Nat.mod_lt _ hz
    have h1' : c[i % z.length]? = some y := by simpa using h1
    have h3 : c[i % z.length]! = y := by
      rw [Array.getElem!_eq_getD, Array.getD_eq_getD_getElem?, h1']; rfl
    simp [hi, ← hl, h3]
  · cases hv

/-! ### One by one -/
section one
variable {a : Act} {env : Tr AV} {nt : Nat} (henv : EnvR S ρ nt env a.tmps) (r : Rel S w0 ρ h w) {v : AV} {h' : AH}
include henv r

theorem mov_sound {x : Operand} {ax : AO} (hx : cAO x = some ax) (he : aop S.B (.mov ax) env h = .val v h') {res : Result Next} (hr : res = .ok (.value (a.eval x)) w) : OpRes S w0 ρ h w res v h' := by
  simp only [aop] at he
  obtain ⟨h1, rfl⟩ := pure1_val he
  exact OpRes.val r (rd_VR henv hx h1) hr

theorem newRow_op {cs : List AV} {k : Nat → AV} (he : newRow h cs k = .val v h') (hf : Free ρ h.next h'.next) {cells : Array Value} (hcs : VRs S ρ cs cells.toList) {e : TypeId} {res : Result Next} {c : Value}
    (hr : res = .ok (.value c) (w.alloc (.cells cells e))) (hv : VR S (ρ.put h.next ⟨w.heap.size, 0, cells.size⟩) (k h.next) c) : OpRes S w0 ρ h w res v h' := by
  obtain ⟨hcell, rfl, rfl⟩ := newRow_val he
  exact ⟨_, _, c, newRow_stp r hcell hcs (hf _ (Nat.le_refl _) (by simp)), hv, .inl hr⟩
end one
end ops
end Go.Proofs.YtkahmlbhgahbbaaGreat.Abs
