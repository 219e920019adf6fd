/- A region whose order is open: the run, the order, and how the heap grows in any order. -/
import Derived.Test.YtkahmlbhgahbbaaGreatAbsD1
import Derived.OrdersIn
set_option linter.unusedSimpArgs false
set_option linter.unusedVariables false
set_option linter.unusedSectionVars false
set_option linter.constructorNameAsVariable false
namespace Go.Proofs.YtkahmlbhgahbbaaGreat.Abs

/-! ### The evaluator's own run -/
def DStep (B : Nat → List AV) (call : Caller) (d : DOper) (env : Tr AV) (h : AH) (hist : List (Nat × AH)) (v : AV) (env' : Tr AV) (h' : AH) (hist' : List (Nat × AH)) : Prop :=
  env' = setD env d.o.dst v ∧ hist' = (match d.k with | .loud => (d.i, h') :: hist | _ => hist) ∧ h.next ≤ h'.next ∧
  ((wanted d.o.guard env = some false ∧ v = .undef ∧ h' = h) ∨
   (wanted d.o.guard env = some true ∧ match d.k with
     | .loud => evOp B call d.o.op env h = .val v h'
     | .quiet => aop B d.o.op env h = .val v h'
     | .load => h' = h ∧ loadAt B d.o.op env d.bs hist = some v))

def fcons {α : Type} (x : α) (f : Nat → α) : Nat → α
  | 0 => x
  | s + 1 => f s

theorem evD_trace {B : Nat → List AV} {call : Caller} (hle : ∀ f args h v h', call f args h = .val v h' → h.next ≤ h'.next) :
    ∀ (ds : List DOper) {env : Tr AV} {h : AH} {hist : List (Nat × AH)} {env' : Tr AV} {h' : AH}, evD B call ds env h hist = .ok env' h' →
      ∃ (E : Nat → Tr AV) (A : Nat → AH) (G : Nat → List (Nat × AH)) (V : Nat → AV), E 0 = env ∧ A 0 = h ∧ G 0 = hist ∧ E ds.length = env' ∧ A ds.length = h' ∧
        ∀ (s : Nat) (d : DOper), ds[s]? = some d → DStep B call d (E s) (A s) (G s) (V s) (E (s + 1)) (A (s + 1)) (G (s + 1)) := by
  intro ds
  induction ds with
  | nil =>
    intro env h hist env' h' e
    cases e
    exact ⟨fun _ => env, fun _ => h, fun _ => hist, fun _ => .undef, rfl, rfl, rfl, rfl, rfl, fun s d h => by simp at h⟩
  | cons d ds ih =>
    intro env h hist env' h' e
    have fin : ∀ (v : AV) (h1 : AH) (hist1 : List (Nat × AH)), evD B call ds (setD env d.o.dst v) h1 hist1 = .ok env' h' → DStep B call d env h hist v (setD env d.o.dst v) h1 hist1 →
        ∃ (E : Nat → Tr AV) (A : Nat → AH) (G : Nat → List (Nat × AH)) (V : Nat → AV), E 0 = env ∧ A 0 = h ∧ G 0 = hist ∧ E (d :: ds).length = env' ∧ A (d :: ds).length = h' ∧
          ∀ (s : Nat) (d' : DOper), (d :: ds)[s]? = some d' → DStep B call d' (E s) (A s) (G s) (V s) (E (s + 1)) (A (s + 1)) (G (s + 1)) := by
      intro v h1 hist1 e1 st
      obtain ⟨E, A, G, V, e0, a0, g0, e9, a9, hs⟩ := ih e1
      refine ⟨fcons env E, fcons h A, fcons hist G, fcons v V, rfl, rfl, rfl, e9, a9, fun s d' hd => ?_⟩
      cases s with
      | zero =>
        simp at hd; subst hd
        show DStep B call d env h hist v (E 0) (A 0) (G 0)
        rw [e0, a0, g0]; exact st
      | succ s => exact hs s d' (by simpa using hd)
    simp only [evD] at e
    split at e
    · cases e
    · rename_i hw
      split at e
      · rename_i hk
        exact fin _ _ _ e ⟨rfl, by rw [hk], Nat.le_refl _, .inl ⟨hw, rfl, rfl⟩⟩
      · rename_i hk
        refine fin _ _ _ e ⟨rfl, ?_, Nat.le_refl _, .inl ⟨hw, rfl, rfl⟩⟩
        split
        · rename_i hk'; exact absurd hk' (by simpa using hk)
        · rfl
    · rename_i hw
      split at e
      · rename_i hk
        split at e
        · cases e
        · rename_i v h1 he
          rw [forceV_eq] at e
          exact fin _ _ _ e ⟨rfl, by rw [hk], evOp_next hle he, .inr ⟨hw, by rw [hk]; exact he⟩⟩
      · rename_i hk
        split at e
        · cases e
        · rename_i v h1 he
          rw [forceV_eq] at e
          exact fin _ _ _ e ⟨rfl, by rw [hk], aop_next he, .inr ⟨hw, by rw [hk]; exact he⟩⟩
      · rename_i hk
        split at e
        · rename_i v he
          rw [forceV_eq] at e
          exact fin _ _ _ e ⟨rfl, by rw [hk], Nat.le_refl _, .inr ⟨hw, by rw [hk]; exact ⟨rfl, he⟩⟩⟩
        · cases e

/-! ### The order -/
theorem land_eq_right {a b j : Nat} (h : a &&& b = b) (hj : b.testBit j = true) : a.testBit j = true := by
  rw [← h, Nat.testBit_and, Bool.and_eq_true] at hj
  exact hj.1

theorem orderOk_spec {n : Nat} : ∀ (ds : List DOper) (done : Nat), orderOk n ds done = true →
    (∀ i, i < n → done.testBit i = true ∨ ∃ (s : Nat) (d : DOper), ds[s]? = some d ∧ d.i = i) ∧
    ∀ (s : Nat) (d : DOper), ds[s]? = some d → d.i < n ∧ done.testBit d.i = false ∧ (∀ (p : Nat) (q : DOper), p < s → ds[p]? = some q → q.i ≠ d.i) ∧
      (∀ j, d.bs.testBit j = true → done.testBit j = true ∨ ∃ (p : Nat) (q : DOper), p < s ∧ ds[p]? = some q ∧ q.i = j) ∧
      (d.k = .loud → ∀ (p : Nat) (q : DOper), p < s → ds[p]? = some q → d.bs.testBit q.i = true) ∧ (d.k = .loud → ∀ j, done.testBit j = true → d.bs.testBit j = true) := by
  intro ds
  induction ds with
  | nil =>
    intro done h
    have h := Nat.eq_of_beq_eq_true h
    refine ⟨fun i hi => .inl ?_, fun s d h => by simp at h⟩
    rw [h, Nat.testBit_two_pow_sub_one]; simpa using hi
  | cons d0 ds ih =>
    intro done h
    simp only [orderOk] at h
    split at h
    · rename_i hc
      simp only [Bool.and_eq_true, Bool.not_eq_true', Nat.blt_eq] at hc
      obtain ⟨c1, c2, c3, c4⟩ := hc
      have c3 := Nat.eq_of_beq_eq_true c3
      obtain ⟨i1, i2⟩ := ih _ h
      have bit : ∀ j, (done ||| 2 ^ d0.i).testBit j = true → done.testBit j = true ∨ j = d0.i := fun j hj => by
        rw [Nat.testBit_or, Bool.or_eq_true] at hj
        exact hj.imp id (testBit_two_pow' _ _)
      have bit2 : (done ||| 2 ^ d0.i).testBit d0.i = true := by rw [Nat.testBit_or, Nat.testBit_two_pow]; simp
      have bit3 : ∀ j, done.testBit j = true → (done ||| 2 ^ d0.i).testBit j = true := fun j hj => by rw [Nat.testBit_or, hj]; simp
      refine ⟨fun i hi => ?_, fun s d hd => ?_⟩
      · rcases i1 i hi with h1 | ⟨s, d, h1, h2⟩
        · rcases bit _ h1 with h1 | rfl
          · exact .inl h1
          · exact .inr ⟨0, d0, rfl, rfl⟩
        · exact .inr ⟨s + 1, d, by simpa using h1, h2⟩
      · cases s with
        | zero =>
          simp at hd; subst hd
          refine ⟨c1, c2, fun p q hp => absurd hp (Nat.not_lt_zero _), fun j hj => .inl (land_eq_right c3 hj), fun _ p q hp => absurd hp (Nat.not_lt_zero _), fun hk j hj => ?_⟩
          rw [hk] at c4
          have c4 := Nat.eq_of_beq_eq_true c4
          rw [← c4, Nat.testBit_and, Bool.and_eq_true] at hj
          exact hj.2
        | succ s =>
          obtain ⟨e1, e2, e3, e4, e5, e6⟩ := i2 s d (by simpa using hd)
          have hne : d0.i ≠ d.i := fun e => by rw [← e, bit2] at e2; cases e2
          refine ⟨e1, ?_, fun p q hp hq => ?_, fun j hj => ?_, fun hk p q hp hq => ?_, fun hk j hj => e6 hk j (bit3 j hj)⟩
          · rw [Nat.testBit_or, Bool.or_eq_false_iff] at e2; exact e2.1
          · cases p with
            | zero => simp at hq; subst hq; exact hne
            | succ p => exact e3 p q (by omega) (by simpa using hq)
          · rcases e4 j hj with h1 | ⟨p, q, h1, h2, h3⟩
            · rcases bit _ h1 with h1 | rfl
              · exact .inl h1
              · exact .inr ⟨0, d0, by omega, rfl, rfl⟩
            · exact .inr ⟨p + 1, q, by omega, by simpa using h2, h3⟩
          · cases p with
            | zero => simp at hq; subst hq; exact e6 hk _ bit2
            | succ p => exact e5 hk p q (by omega) (by simpa using hq)
    · cases h

theorem pairOk_spec {d : DOper} : ∀ (ds : List DOper), pairOk d ds = true → ∀ (s : Nat) (q : DOper), ds[s]? = some q →
    (∀ t, q.o.dst = some t → t ∈ names d.o → q.bs.testBit d.i = true) ∧ (∀ t, d.o.dst = some t → t ∈ names q.o → q.bs.testBit d.i = true) := by
  intro ds
  induction ds with
  | nil => intro _ s q h; simp at h
  | cons q0 ds ih =>
    intro h s q hq
    simp only [pairOk] at h
    split at h
    · rename_i hc
      rw [Bool.and_eq_true] at hc
      cases s with
      | zero =>
        simp at hq; subst hq
        refine ⟨fun t ht hm => ?_, fun t ht hm => ?_⟩
        · have h1 := hc.1
          simp only [ht, List.contains_iff_mem.2 hm] at h1
          exact h1
        · have h1 := hc.2
          simp only [ht, List.contains_iff_mem.2 hm] at h1
          exact h1
      | succ s => exact ih h s q (by simpa using hq)
    · cases h

theorem tmpsOk_spec : ∀ (ds : List DOper), tmpsOk ds = true → ∀ (p s : Nat) (d q : DOper), p < s → ds[p]? = some d → ds[s]? = some q →
    (∀ t, q.o.dst = some t → t ∈ names d.o → q.bs.testBit d.i = true) ∧ (∀ t, d.o.dst = some t → t ∈ names q.o → q.bs.testBit d.i = true) := by
  intro ds
  induction ds with
  | nil => intro _ p s d q _ h; simp at h
  | cons d0 ds ih =>
    intro h p s d q hps hd hq
    simp only [tmpsOk] at h
    split at h
    · rename_i hc
      cases s with
      | zero => omega
      | succ s =>
        cases p with
        | zero => simp at hd; subst hd; exact pairOk_spec ds hc s q (by simpa using hq)
        | succ p => exact ih h p s d q (by omega) (by simpa using hd) (by simpa using hq)
    · cases h

theorem edgesIn_spec {md : Region.Mode} {done : Nat} : ∀ (es : List Edge), edgesIn md done es = true → ∀ e ∈ es, Region.binds md e = true → done.testBit e.on = true := by
  intro es
  induction es with
  | nil => intro _ e h; simp at h
  | cons x es ih =>
    intro h e he hb
    simp only [edgesIn] at h
    split at h
    · rename_i hx
      rcases List.mem_cons.1 he with rfl | he
      · rw [hx] at hb; cases hb
      · exact ih h e he hb
    · split at h
      · rename_i hx
        rcases List.mem_cons.1 he with rfl | he
        · exact hx
        · exact ih h e he hb
      · cases h

theorem topo_ready {md md2 : Region.Mode} {ops : Array Oper} (hmd : ∀ e, Region.binds md e = true → Region.binds md2 e = true) {listed : Array Bool} (hl : listed.size = ops.size) :
    ∀ (L : List Nat) (done : Nat), topoOk md2 ops.toList ops.size L done = true → (∀ j, done.testBit j = true → listed.getD j false = true) →
      (∀ i, i < ops.size → listed.getD i false = true) ∨ ∃ i, i ∈ Region.ready md ops listed := by
  intro L
  induction L with
  | nil =>
    intro done h hd
    have h := Nat.eq_of_beq_eq_true h
    refine .inl fun i hi => hd i ?_
    rw [h, Nat.testBit_two_pow_sub_one]; simpa using hi
  | cons i L ih =>
    intro done h hd
    simp only [topoOk] at h
    split at h
    · cases h
    · rename_i o ho
      split at h
      · rename_i he
        cases hli : listed.getD i false with
        | true =>
          refine ih _ h fun j hj => ?_
          rw [Nat.testBit_or, Bool.or_eq_true] at hj
          rcases hj with hj | hj
          · exact hd j hj
          · rw [testBit_two_pow' _ _ hj]; exact hli
        | false =>
          have ho' : ops[i]? = some o := by simpa using ho
          have hi : i < listed.size := by rw [hl]; exact (Array.getElem?_eq_some_iff.1 ho').1
          refine .inr ⟨i, mem_ready.2 ⟨?_, o, ho', fun e hee hb => hd _ (edgesIn_spec _ he e (by simpa using hee) (hmd e hb))⟩⟩
          simp [hi] at hli ⊢; exact hli
      · cases h

/-! ### The heap, in any order -/
structure Big (S : Sta) (w0 : World) (ρ0 : Ren) (h0 : AH) (wi : World) (N : Nat) (ρ : Ren) (g : Nat → Option AObj) (w : World) : Prop where
  dom : ∀ id o, g id = some o → id < N
  obj : ∀ id o, g id = some o → o.live = true → ∃ l, ρ id = some l ∧ w0.heap.size ≤ l.b ∧ ObjR S ρ o w.heap l
  inj : ∀ i j oi oj li lj, g i = some oi → oi.live = true → g j = some oj → oj.live = true → ρ i = some li → ρ j = some lj → li.b = lj.b → i = j
  old : ∀ b, b < w0.heap.size → w.heap[b]? = w0.heap[b]?
  size : w0.heap.size ≤ w.heap.size
  os : w.os = w0.os
  output : w.output = w0.output
  keep : ∀ id, (id < h0.next ∨ N ≤ id) → ρ id = ρ0 id
  frame : ∀ b, b < wi.heap.size → ¬ Owned ρ0 h0 b → w.heap[b]? = wi.heap[b]?
  grow : wi.heap.size ≤ w.heap.size
  own : ∀ id o l, g id = some o → o.live = true → ρ id = some l → Owned ρ0 h0 l.b ∨ wi.heap.size ≤ l.b

section big
variable {S : Sta} {w0 : World} {ρ0 : Ren} {h0 : AH} {wi : World} {N : Nat} {ρ ρ' : Ren} {g g' : Nat → Option AObj} {w w' : World} {k k' : AH}

theorem Big.rel (b : Big S w0 ρ0 h0 wi N ρ g w) (hs : ∀ id o, k.get id = some o → g id = some o) (hd : ∀ id o, k.get id = some o → id < k.next) : Rel S w0 ρ k w :=
  ⟨hd, fun id o h hl => b.obj id o (hs id o h) hl, fun i j oi oj li lj h1 h2 h3 h4 h5 h6 h7 => b.inj i j oi oj li lj (hs _ _ h1) h2 (hs _ _ h3) h4 h5 h6 h7, b.old, b.size, b.os, b.output⟩

theorem Big.of_rel (r : Rel S w0 ρ0 h0 wi) (hN : h0.next ≤ N) : Big S w0 ρ0 h0 wi N ρ0 h0.get wi :=
  ⟨fun id o h => Nat.lt_of_lt_of_le (r.dom id o h) hN, r.obj, r.inj, r.old, r.size, r.os, r.output, fun _ _ => rfl, fun _ _ _ => rfl, Nat.le_refl _, fun id o l h1 h2 h3 => .inl ⟨id, o, l, h1, h2, h3, rfl⟩⟩

theorem Big.join (b : Big S w0 ρ0 h0 wi N ρ g w) (hs : ∀ id o, k.get id = some o → g id = some o) (st : Stp S w0 ρ k w ρ' k' w') (hf : Free ρ k.next k'.next)
    (h1 : h0.next ≤ k.next) (h2 : k'.next ≤ N)
    (hg : ∀ id o, g' id = some o → k'.get id = some o ∨ (g id = some o ∧ k.get id = none ∧ (id < k.next ∨ k'.next ≤ id))) : Big S w0 ρ0 h0 wi N ρ' g' w' := by
  have sub := st.sub hf
  have noOwn : ∀ id o l, g id = some o → o.live = true → k.get id = none → ρ id = some l → ¬ Owned ρ k l.b := by
    rintro id o l h1 h2 h3 h4 ⟨id', o', l', q1, q2, q3, q4⟩
    have := b.inj id' id o' o l' l (hs _ _ q1) q2 h1 h2 q3 h4 q4
    subst this
    rw [h3] at q1; cases q1
  have lt : ∀ id o l, g id = some o → o.live = true → ρ id = some l → l.b < w.heap.size := by
    intro id o l h1 h2 h3
    obtain ⟨l', q1, _, q2⟩ := b.obj id o h1 h2
    rw [h3] at q1; cases q1
    exact q2.block_lt h2
  have ownBig : ∀ x, Owned ρ k x → Owned ρ0 h0 x ∨ wi.heap.size ≤ x := by
    rintro x ⟨id, o, l, q1, q2, q3, rfl⟩
    exact b.own id o l (hs _ _ q1) q2 q3
  have keep : ∀ id, (id < k.next ∨ k'.next ≤ id) → ρ' id = ρ id := st.keep
  refine ⟨fun id o h => ?_, fun id o h hl => ?_, fun i j oi oj li lj hi hil hj hjl hli hlj hb => ?_, st.rel.old, st.rel.size, st.rel.os, st.rel.output, fun id hid => ?_, fun x hx hno => ?_, Nat.le_trans b.grow st.grow, fun id o l h hl hρ => ?_⟩
  · rcases hg id o h with h | ⟨h, _, _⟩
    · exact Nat.lt_of_lt_of_le (st.rel.dom id o h) h2
    · exact b.dom id o h
  · rcases hg id o h with h | ⟨h, hn, hid⟩
    · exact st.rel.obj id o h hl
    · obtain ⟨l, q1, q2, q3⟩ := b.obj id o h hl
      exact ⟨l, sub _ _ q1, q2, (q3.mono sub).heap (st.frame _ (q3.block_lt hl) (noOwn id o l h hl hn q1))⟩
  · rcases hg i oi hi with hi | ⟨hi, hin, hii⟩ <;> rcases hg j oj hj with hj | ⟨hj, hjn, hjj⟩
    · exact st.rel.inj i j oi oj li lj hi hil hj hjl hli hlj hb
    · exfalso
      rw [keep j hjj] at hlj
      rcases st.own li.b ⟨i, oi, li, hi, hil, hli, rfl⟩ with h | h
      · rw [hb] at h; exact noOwn j oj lj hj hjl hjn hlj h
      · have := lt j oj lj hj hjl hlj; omega
    · exfalso
      rw [keep i hii] at hli
      rcases st.own lj.b ⟨j, oj, lj, hj, hjl, hlj, rfl⟩ with h | h
      · rw [← hb] at h; exact noOwn i oi li hi hil hin hli h
      · have := lt i oi li hi hil hli; omega
    · rw [keep i hii] at hli; rw [keep j hjj] at hlj
      exact b.inj i j oi oj li lj hi hil hj hjl hli hlj hb
  · rw [keep id (by have := st.le; omega)]; exact b.keep id hid
  · rw [st.frame x (Nat.lt_of_lt_of_le hx b.grow) fun ho => ?_]
    · exact b.frame x hx hno
    · rcases ownBig x ho with h | h
      · exact hno h
      · omega
  · rcases hg id o h with h | ⟨h, hn, hid⟩
    · rcases st.own l.b ⟨id, o, l, h, hl, hρ, rfl⟩ with h | h
      · exact ownBig _ h
      · exact .inr (Nat.le_trans b.grow h)
    · rw [keep id hid] at hρ
      exact b.own id o l h hl hρ

theorem Big.stp (b : Big S w0 ρ0 h0 wi k.next ρ g w) (hs : ∀ id o, k.get id = some o → g id = some o) (hd : ∀ id o, k.get id = some o → id < k.next) (hle : h0.next ≤ k.next) : Stp S w0 ρ0 h0 wi ρ k w :=
  ⟨b.keep, hle, b.rel hs hd, b.frame, b.grow, by rintro x ⟨id, o, l, h1, h2, h3, rfl⟩; exact b.own id o l (hs _ _ h1) h2 h3⟩
end big
end Go.Proofs.YtkahmlbhgahbbaaGreat.Abs
