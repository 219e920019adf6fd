/- What the functions do, shown by the logic. -/
import Derived.Test.YtgpnpcahcegadaaROTab
import Derived.Test.YtgpnpcahcegadaaAbsN6
import Derived.Test.YtgpnpcahcegadaaAbsN2
set_option linter.unusedSimpArgs false
set_option linter.unusedVariables false
set_option maxRecDepth 20000
namespace Go.Proofs.Ytgpnpcahcegadaa.RO
open Go.Proofs.Ytgpnpcahcegadaa.Abs
variable {B : Nat → List AV}
/-- The least index at which it holds. -/
def isLeast (p : Nat → Prop) (n k : Nat) : Prop := k ≤ n ∧ (∀ m, m < k → ¬ p m) ∧ (∀ m, k ≤ m → m < n → p m)
/-- A row of a table: its key, its value, its indexes. -/
structure TE (V : Type) where
  key : List Nat
  v : V
  mke : Int
  ix : Int
theorem rd_ld0 {t : EL} {H : HL} {x : AO} {a : AA} {v : AV} (hx : gl t x = some (.ptr a)) (hl : Ld B H a 1 [v]) : Rd B (.load false 1 x) t H v := rd_ld hx hl rfl
theorem less_cons {x y : Nat} {a b : List Nat} : strLess (x :: a) (y :: b) = true ↔ x < y ∨ (x = y ∧ strLess a b = true) := by
  have h1 : Nat.beq x y = true ↔ x = y := ⟨Nat.eq_of_beq_eq_true, fun e => by rw [e]; exact Nat.beq_refl y⟩
  simp only [strLess, Bool.or_eq_true, Bool.and_eq_true, h1, Nat.blt_eq]
theorem less_trans : ∀ {a b c : List Nat}, strLess a b = true → strLess b c = true → strLess a c = true := by
  intro a
  induction a with
  | nil =>
    intro b c h1 h2
    cases b with
    | nil => cases h1
    | cons y b => cases c with
      | nil => cases h2
      | cons z c => rfl
  | cons x a ih =>
    intro b c h1 h2
    cases b with
    | nil => cases h1
    | cons y b => cases c with
      | nil => cases h2
      | cons z c =>
        rw [less_cons] at h1 h2 ⊢
        rcases h1 with h1 | ⟨rfl, h1⟩
        · rcases h2 with h2 | ⟨rfl, h2⟩
          · left; omega
          · left; exact h1
        · rcases h2 with h2 | ⟨rfl, h2⟩
          · left; exact h2
          · right; exact ⟨rfl, ih h1 h2⟩
theorem less_irr : ∀ {a : List Nat}, strLess a a = false := by
  intro a
  induction a with
  | nil => rfl
  | cons x a ih =>
    rw [Bool.eq_false_iff, Ne, less_cons]
    rintro (h | ⟨_, h⟩)
    · omega
    · rw [ih] at h; cases h
theorem less_total : ∀ {a b : List Nat}, strLess a b = false → strLess b a = false → a = b := by
  intro a
  induction a with
  | nil =>
    intro b h1 h2
    cases b with
    | nil => rfl
    | cons y b => cases h1
  | cons x a ih =>
    intro b h1 h2
    cases b with
    | nil => cases h2
    | cons y b =>
      have e1 : ¬ (x < y ∨ x = y ∧ strLess a b = true) := by
        intro h; rw [Bool.eq_false_iff] at h1; apply h1
        exact less_cons.2 h
      have e2 : ¬ (y < x ∨ y = x ∧ strLess b a = true) := by
        intro h; rw [Bool.eq_false_iff] at h2; apply h2
        exact less_cons.2 h
      have hxy : x = y := by omega
      subst hxy
      have h3 : strLess a b = false := by rw [Bool.eq_false_iff]; intro h; exact e1 (.inr ⟨rfl, h⟩)
      have h4 : strLess b a = false := by rw [Bool.eq_false_iff]; intro h; exact e2 (.inr ⟨rfl, h⟩)
      rw [ih h3 h4]
/-- Keys rise. -/
def Sorted {V : Type} (es : List (TE V)) : Prop := ∀ (i j : Nat) (hi : i < es.length) (hj : j < es.length), i < j → strLess es[i].key es[j].key = true
def notBelow {V : Type} (es : List (TE V)) (key : List Nat) (m : Nat) : Prop := ∃ h : m < es.length, ¬ strLess es[m].key key = true
theorem notBelow_mono {V : Type} {es : List (TE V)} {key : List Nat} (so : Sorted es) : ∀ i j, i ≤ j → j < es.length → notBelow es key i → notBelow es key j := by
  rintro i j hij hj ⟨hi, h⟩
  refine ⟨hj, fun h2 => ?_⟩
  rcases Nat.lt_or_ge i j with h1 | h1
  · exact h (less_trans (so i j hi hj h1) h2)
  · obtain rfl : i = j := by omega
    exact h h2
section kl
variable {V : Type}
def findE : List (TE V) → List Nat → Option (TE V)
  | [], _ => none
  | x :: r, key => if x.key = key then some x else findE r key
def putE : List (TE V) → TE V → List (TE V)
  | [], e => [e]
  | x :: r, e => if x.key = e.key then { e with mke := x.mke } :: r else if strLess e.key x.key = true then e :: x :: r else x :: putE r e
def dropE : List (TE V) → List Nat → List (TE V)
  | [], _ => []
  | x :: r, key => if x.key = key then dropE r key else x :: dropE r key
theorem less_asymm {a b : List Nat} (h : strLess a b = true) : ¬ strLess b a = true := fun h2 => by
  have := less_trans h h2
  rw [less_irr] at this; cases this
theorem less_ne {a b : List Nat} (h : strLess a b = true) : a ≠ b := by
  rintro rfl
  rw [less_irr] at h; cases h
def AllBelow (es : List (TE V)) (key : List Nat) : Prop := ∀ x, x ∈ es → strLess x.key key = true
def Above (es : List (TE V)) (key : List Nat) : Prop := ∀ x, x ∈ es → strLess key x.key = true
inductive Rise : List (TE V) → Prop
  | nil : Rise []
  | cons {x : TE V} {r : List (TE V)} (h : Above r x.key) (k : Rise r) : Rise (x :: r)
theorem rise_of : ∀ {es : List (TE V)}, Sorted es → Rise es := by
  intro es
  induction es with
  | nil => intro _; exact .nil
  | cons x r ih =>
    intro s
    refine .cons (fun y hy => ?_) (ih fun i j hi hj h => ?_)
    · obtain ⟨j, hj, rfl⟩ := List.getElem_of_mem hy
      exact s 0 (j + 1) (by simp) (by simpa using hj) (by omega)
    · exact s (i + 1) (j + 1) (by simpa using hi) (by simpa using hj) (by omega)
theorem sorted_of : ∀ {es : List (TE V)}, Rise es → Sorted es := by
  intro es h
  induction h with
  | nil => intro i j hi; exact absurd hi (by simp)
  | @cons x r h k ih =>
    intro i j hi hj hij
    cases j with
    | zero => omega
    | succ j =>
      cases i with
      | zero => exact h _ (List.getElem_mem _)
      | succ i => exact ih i j (by simpa using hi) (by simpa using hj) (by omega)
theorem find_below {A Bs : List (TE V)} {key : List Nat} (h : AllBelow A key) : findE (A ++ Bs) key = findE Bs key := by
  induction A with
  | nil => rfl
  | cons x A ih =>
    have hx := h x (by simp)
    simp only [List.cons_append, findE, if_neg (less_ne hx)]
    exact ih fun y hy => h y (by simp [hy])
theorem put_below {A Bs : List (TE V)} {e : TE V} (h : AllBelow A e.key) : putE (A ++ Bs) e = A ++ putE Bs e := by
  induction A with
  | nil => rfl
  | cons x A ih =>
    have hx := h x (by simp)
    simp only [List.cons_append, putE, if_neg (less_ne hx), if_neg (less_asymm hx)]
    rw [ih fun y hy => h y (by simp [hy])]
theorem drop_below {A Bs : List (TE V)} {key : List Nat} (h : AllBelow A key) : dropE (A ++ Bs) key = A ++ dropE Bs key := by
  induction A with
  | nil => rfl
  | cons x A ih =>
    have hx := h x (by simp)
    simp only [List.cons_append, dropE, if_neg (less_ne hx)]
    rw [ih fun y hy => h y (by simp [hy])]
theorem find_above {Bs : List (TE V)} {key : List Nat} (h : Above Bs key) : findE Bs key = none := by
  induction Bs with
  | nil => rfl
  | cons x Bs ih =>
    have hx := h x (by simp)
    simp only [findE, if_neg (less_ne hx).symm]
    exact ih fun y hy => h y (by simp [hy])
theorem drop_above {Bs : List (TE V)} {key : List Nat} (h : Above Bs key) : dropE Bs key = Bs := by
  induction Bs with
  | nil => rfl
  | cons x Bs ih =>
    have hx := h x (by simp)
    simp only [dropE, if_neg (less_ne hx).symm]
    rw [ih fun y hy => h y (by simp [hy])]
theorem put_above {Bs : List (TE V)} {e : TE V} (h : Above Bs e.key) : putE Bs e = e :: Bs := by
  cases Bs with
  | nil => rfl
  | cons x Bs =>
    have hx := h x (by simp)
    simp only [putE, if_neg (less_ne hx).symm, if_pos hx]
theorem put_hit {Bs : List (TE V)} {x e : TE V} (h : x.key = e.key) : putE (x :: Bs) e = { e with mke := x.mke } :: Bs := by simp only [putE, if_pos h]
theorem find_hit {Bs : List (TE V)} {x : TE V} {key : List Nat} (h : x.key = key) : findE (x :: Bs) key = some x := by simp only [findE, if_pos h]
theorem drop_hit {Bs : List (TE V)} {x : TE V} {key : List Nat} (h : x.key = key) : dropE (x :: Bs) key = dropE Bs key := by simp only [dropE, if_pos h]
/-- Where a key stands, or would. -/
theorem halves_at {es : List (TE V)} {key : List Nat} {k : Nat} (so : Sorted es) (hk : isLeast (notBelow es key) es.length k) :
    AllBelow (es.take k) key ∧ ((∃ h : k < es.length, es[k].key = key ∧ Above (es.drop (k + 1)) key ∧ es.drop k = es[k] :: es.drop (k + 1)) ∨ ((¬ ∃ h : k < es.length, es[k].key = key) ∧ Above (es.drop k) key)) := by
  obtain ⟨h0, h1, h2⟩ := hk
  constructor
  · intro x hx
    obtain ⟨j, hj, rfl⟩ := List.getElem_of_mem hx
    rw [List.length_take] at hj
    rw [List.getElem_take]
    have := h1 j (by omega)
    simp only [notBelow, not_exists, Decidable.not_not] at this
    exact this (by omega)
  · by_cases hc : ∃ h : k < es.length, es[k].key = key
    · obtain ⟨hlt, hkey⟩ := hc
      refine .inl ⟨hlt, hkey, ?_, List.drop_eq_getElem_cons hlt⟩
      intro x hx
      obtain ⟨j, hj, rfl⟩ := List.getElem_of_mem hx
      rw [List.length_drop] at hj
      rw [List.getElem_drop]
      have := so k (k + 1 + j) hlt (by omega) (by omega)
      rw [← hkey]; exact this
    · refine .inr ⟨hc, ?_⟩
      have hfst : ∀ (hlt : k < es.length), strLess key es[k].key = true := fun hlt => by
        obtain ⟨_, hn⟩ := h2 k (Nat.le_refl _) hlt
        cases hb : strLess key es[k].key with
        | true => rfl
        | false => exact absurd ⟨hlt, less_total (Bool.eq_false_iff.2 hn) hb⟩ hc
      intro x hx
      obtain ⟨j, hj, rfl⟩ := List.getElem_of_mem hx
      rw [List.length_drop] at hj
      rw [List.getElem_drop]
      have h3 := hfst (by omega)
      cases j with
      | zero => simpa using h3
      | succ j => exact less_trans h3 (so k (k + (j + 1)) (by omega) (by omega) (by omega))
theorem find_at {es : List (TE V)} {key : List Nat} {k : Nat} (so : Sorted es) (hk : isLeast (notBelow es key) es.length k) :
    (∃ h : k < es.length, es[k].key = key ∧ findE es key = some es[k]) ∨ ((¬ ∃ h : k < es.length, es[k].key = key) ∧ findE es key = none) := by
  obtain ⟨h1, h2⟩ := halves_at so hk
  have e : findE es key = findE (es.drop k) key := by
    rw [← find_below (Bs := es.drop k) h1, List.take_append_drop]
  rcases h2 with ⟨h, h3, h4, h5⟩ | ⟨h3, h4⟩
  · exact .inl ⟨h, h3, by rw [e, h5, find_hit h3]⟩
  · exact .inr ⟨h3, by rw [e, find_above h4]⟩
theorem put_at {es : List (TE V)} {e : TE V} {k : Nat} (so : Sorted es) (hk : isLeast (notBelow es e.key) es.length k) :
    (∃ h : k < es.length, es[k].key = e.key ∧ putE es e = es.take k ++ { e with mke := es[k].mke } :: es.drop (k + 1)) ∨ ((¬ ∃ h : k < es.length, es[k].key = e.key) ∧ putE es e = es.take k ++ e :: es.drop k) := by
  obtain ⟨h1, h2⟩ := halves_at so hk
  have q : putE es e = es.take k ++ putE (es.drop k) e := by
    rw [← put_below (Bs := es.drop k) h1, List.take_append_drop]
  rcases h2 with ⟨h, h3, h4, h5⟩ | ⟨h3, h4⟩
  · exact .inl ⟨h, h3, by rw [q, h5, put_hit h3]⟩
  · exact .inr ⟨h3, by rw [q, put_above h4]⟩
theorem drop_at {es : List (TE V)} {key : List Nat} {k : Nat} (so : Sorted es) (hk : isLeast (notBelow es key) es.length k) :
    (∃ h : k < es.length, es[k].key = key ∧ dropE es key = es.take k ++ es.drop (k + 1)) ∨ ((¬ ∃ h : k < es.length, es[k].key = key) ∧ dropE es key = es) := by
  obtain ⟨h1, h2⟩ := halves_at so hk
  have q : dropE es key = es.take k ++ dropE (es.drop k) key := by
    rw [← drop_below (Bs := es.drop k) h1, List.take_append_drop]
  rcases h2 with ⟨h, h3, h4, h5⟩ | ⟨h3, h4⟩
  · exact .inl ⟨h, h3, by rw [q, h5, drop_hit h3, drop_above h4]⟩
  · exact .inr ⟨h3, by rw [q, drop_above h4, List.take_append_drop]⟩
theorem mem_put {es : List (TE V)} {e x : TE V} (h : x ∈ putE es e) : x ∈ es ∨ x.key = e.key ∧ x.v = e.v := by
  induction es with
  | nil => simp only [putE, List.mem_singleton] at h; subst h; exact .inr ⟨rfl, rfl⟩
  | cons y r ih =>
    simp only [putE] at h
    split at h
    · rcases List.mem_cons.1 h with rfl | h
      · exact .inr ⟨rfl, rfl⟩
      · exact .inl (by simp [h])
    · split at h
      · rcases List.mem_cons.1 h with rfl | h
        · exact .inr ⟨rfl, rfl⟩
        · exact .inl h
      · rcases List.mem_cons.1 h with rfl | h
        · exact .inl (by simp)
        · rcases ih h with h | h
          · exact .inl (by simp [h])
          · exact .inr h
theorem rise_put {es : List (TE V)} {e : TE V} (h : Rise es) : Rise (putE es e) := by
  induction h with
  | nil => exact .cons (fun _ h => by simp at h) .nil
  | @cons y r h k ih =>
    simp only [putE]
    split
    · rename_i hk
      exact .cons (fun z hz => by show strLess e.key z.key = true; rw [← hk]; exact h z hz) k
    · rename_i hk
      split
      · rename_i hl
        refine .cons (fun z hz => ?_) (.cons h k)
        rcases List.mem_cons.1 hz with rfl | hz
        · exact hl
        · exact less_trans hl (h z hz)
      · rename_i hl
        refine .cons (fun z hz => ?_) ih
        rcases mem_put hz with hz | ⟨hz, _⟩
        · exact h z hz
        · rw [hz]
          cases hb : strLess y.key e.key with
          | true => rfl
          | false => exact absurd (less_total hb (Bool.eq_false_iff.2 hl)) hk
theorem mem_drop {es : List (TE V)} {key : List Nat} {x : TE V} (h : x ∈ dropE es key) : x ∈ es := by
  induction es with
  | nil => simp [dropE] at h
  | cons y r ih =>
    simp only [dropE] at h
    split at h
    · exact List.mem_cons_of_mem _ (ih h)
    · rcases List.mem_cons.1 h with rfl | h
      · simp
      · exact List.mem_cons_of_mem _ (ih h)
theorem rise_drop {es : List (TE V)} {key : List Nat} (h : Rise es) : Rise (dropE es key) := by
  induction h with
  | nil => exact .nil
  | @cons y r h k ih =>
    simp only [dropE]
    split
    · exact ih
    · exact .cons (fun z hz => h z (mem_drop hz)) ih
theorem drop_len {es : List (TE V)} {key : List Nat} : (dropE es key).length ≤ es.length := by
  induction es with
  | nil => exact Nat.le_refl _
  | cons y r ih => simp only [dropE]; split <;> simp only [List.length_cons] <;> omega
theorem put_len {es : List (TE V)} {e : TE V} : (putE es e).length = es.length + (match findE es e.key with | some _ => 0 | none => 1) ∨ ¬ Rise es := by
  induction es with
  | nil => exact .inl rfl
  | cons y r ih =>
    simp only [putE, findE]
    split
    · exact .inl (by simp)
    · split
      · rename_i h1 h2
        by_cases hr : Rise (y :: r)
        · cases hr with
          | cons h k => exact .inl (by rw [find_above (fun z hz => less_trans h2 (h z hz))]; simp)
        · exact .inr hr
      · rcases ih with ih | ih
        · exact .inl (by simp only [List.length_cons, ih]; omega)
        · exact .inr fun hr => by cases hr with | cons h k => exact ih k
/-- What is found behind a change. -/
theorem find_put {es : List (TE V)} {e : TE V} (h : Rise es) : findE (putE es e) e.key = some (match findE es e.key with | some x => { e with mke := x.mke } | none => e) := by
  induction h with
  | nil => simp [putE, findE]
  | @cons y r h k ih =>
    simp only [putE, findE]
    split
    · simp [findE]
    · rename_i h1
      split
      · rename_i h2
        rw [find_above (fun z hz => less_trans h2 (h z hz))]
        simp [findE]
      · simp only [findE, if_neg h1, ih]
theorem find_put_ne {es : List (TE V)} {e : TE V} {key : List Nat} (hne : e.key ≠ key) : findE (putE es e) key = findE es key := by
  induction es with
  | nil => simp [putE, findE, hne]
  | cons y r ih =>
    simp only [putE, findE]
    split
    · rename_i h1
      simp only [findE, if_neg hne, if_neg (fun h => hne (h1.symm.trans h))]
    · split
      · simp only [findE, if_neg hne]
      · simp only [findE, ih]
theorem find_drop_ne {es : List (TE V)} {k key : List Nat} (hne : k ≠ key) : findE (dropE es k) key = findE es key := by
  induction es with
  | nil => rfl
  | cons y r ih =>
    simp only [dropE, findE]
    split
    · rename_i h1
      simp only [if_neg (fun h => hne (h1.symm.trans h)), ih]
    · simp only [findE, ih]
theorem find_key {es : List (TE V)} {key : List Nat} {x : TE V} (h : findE es key = some x) : x ∈ es ∧ x.key = key := by
  induction es with
  | nil => cases h
  | cons y r ih =>
    simp only [findE] at h
    split at h
    · cases h; rename_i h1; exact ⟨by simp, h1⟩
    · obtain ⟨a, b⟩ := ih h; exact ⟨by simp [a], b⟩
end kl
theorem search74_ok {H : HL} (n : Nat) (hn : n ≤ 4611686018427387903) (g : Nat) (cap : List AV) (p : Nat → Prop) (mono : ∀ i j, i ≤ j → j < n → p i → p j)
    (hy : ∀ m, m < n → WF B tab (.func g) ([] ++ ([.int .i64 (.ofNat m)] ++ cap)) H fun r H' => H' = H ∧ ∃ b : Bool, r = .bool b ∧ (b = true ↔ p m)) :
    WF B tab (.func 74) [.int .i64 (.ofNat n), .fn (.func g) [] cap] H fun r H' => H' = H ∧ ∃ k : Nat, r = .int .i64 (.ofNat k) ∧ isLeast p n k := by
  refine WF.fnR g74 rfl ?_
  repeat' (first
    | apply WOps.nil | apply WC.seq | apply WC.reg | apply WC.block | (apply WOps.purG; rfl; (intro _; rfl)))
  refine WC.loop ?_
  obtain ⟨i, hi⟩ : ∃ i : Nat, i = 0 := ⟨0, rfl⟩
  obtain ⟨j, hj⟩ : ∃ j : Nat, j = n := ⟨n, rfl⟩
  refine WL.le (t' := [(1, .fn (.func g) [] cap), (5, .int .i64 (.ofNat i)), (6, .int .i64 (.ofNat j))]) (by subst hi; subst hj; exact Sub1.cons rfl (Sub1.cons rfl (Sub1.cons rfl Sub1.nil))) ?_
  have hij : i ≤ j := by omega
  have hjn : j ≤ n := by omega
  have hlo : ∀ m, m < i → ¬ p m := by intro m hm; omega
  have hhi : ∀ m, j ≤ m → m < n → p m := by intro m hm; omega
  clear hi hj
  induction hk : j - i using Nat.strongRecOn generalizing i j with | _ k ih => ?_
  apply WL.step
  repeat' (first
    | apply WOps.nil | apply WC.seq | apply WC.reg | apply WC.skip | apply WC.ret | apply WC.exit | apply WC.block | (apply WOps.addN; rfl; rfl; rfl; omega) | (apply WOps.cvU; rfl; rfl; omega) | (apply WOps.half; rfl; rfl; rfl) | (apply WOps.cvI; rfl; rfl; omega) | (apply WOps.cvR; rfl; rfl; rfl; exact hy _ (by have h0 := ‹true = true ↔ cmpP BinOp.lss (Int.ofNat i) (Int.ofNat j)›; simp [cmpP] at h0; omega); rintro _ ⟨bb, rfl, hbb⟩) | (apply WOps.cmp; rfl; rfl; rfl; rfl; intro _ _) | (apply WOps.purG; rfl; (intro _; rfl)) | (apply WC.condA; rfl; all_goals (intro hb; try subst hb)))
  · have hlt : i < j := by have h0 := ‹true = true ↔ cmpP BinOp.lss (Int.ofNat i) (Int.ofNat j)›; simp [cmpP] at h0; omega
    have hbf : bb = false := by simpa using hb
    refine WL.le (t' := [(1, .fn (.func g) [] cap), (5, .int .i64 (.ofNat ((i + j) / 2 + 1))), (6, .int .i64 (.ofNat j))]) (Sub1.cons rfl (Sub1.cons rfl (Sub1.cons rfl Sub1.nil))) (ih _ (by omega) _ _ (by omega) (by omega) ?_ hhi rfl)
    intro m hm hp
    have h1 : bb = true := hbb.2 (mono m _ (by omega) (by omega) hp)
    rw [hbf] at h1; cases h1
  · have hlt : i < j := by have h0 := ‹true = true ↔ cmpP BinOp.lss (Int.ofNat i) (Int.ofNat j)›; simp [cmpP] at h0; omega
    have hbt : bb = true := by simpa using hb
    refine WL.le (t' := [(1, .fn (.func g) [] cap), (5, .int .i64 (.ofNat i)), (6, .int .i64 (.ofNat ((i + j) / 2)))]) (Sub1.cons rfl (Sub1.cons rfl (Sub1.cons rfl Sub1.nil))) (ih _ (by omega) _ _ (by omega) (by omega) hlo ?_ rfl)
    intro m hm hmn
    exact mono _ m hm hmn (hbb.1 hbt)
  · rename_i hge
    have hge : j ≤ i := by have h0 := hge; simp [cmpP] at h0; omega
    refine ⟨trivial, List.Sublist.refl _, [_], ⟨_, [], rfl, rfl, rfl⟩, i, rfl, by omega, hlo, fun m h1 h2 => hhi m (by omega) h2⟩
/-- How many there may be. -/
def mostOf (m : Int) : Nat := if m < 1 then 1 else if 64 < m then 64 else m.toNat
theorem mostOf_ge (m : Int) : 1 ≤ mostOf m := by unfold mostOf; split <;> (try split) <;> omega
theorem mostOf_le (m : Int) : mostOf m ≤ 64 := by unfold mostOf; split <;> (try split) <;> omega
def maxI (a b : Int) : Int := if b > a then b else a
theorem own_src {v : AV} {cells : List AV} {n esz : Nat} {hs R : HL} (o : OwnSl v cells n esz hs) : SrcIs B (hs ++ R) v esz n cells := by
  rcases o with ⟨rfl, rfl, rfl, rfl⟩ | ⟨id, rfl, rfl, hl⟩
  · exact .inl ⟨rfl, rfl, rfl⟩
  · refine .inr ⟨_, rfl, .inr (Ld.own Tk.head ?_)⟩
    rw [List.drop_zero, takeN_of (by omega), List.take_of_length_le (by omega)]
theorem src_cons {H : HL} {p : Nat × AObj} {u : AV} {esz m : Nat} {xs : List AV} (h : SrcIs B H u esz m xs) : SrcIs B (p :: H) u esz m xs := by
  rcases h with h | ⟨a, h1, h | h⟩
  · exact .inl h
  · exact .inr ⟨a, h1, .inl h⟩
  · exact .inr ⟨a, h1, .inr h.cons⟩
theorem putN_of {cs vs : List AV} {off : Nat} (h : off + vs.length ≤ cs.length) : putN cs off vs = some (cs.take off ++ (vs ++ cs.drop (off + vs.length))) := by
  unfold putN
  rw [putAt_of h]
  simp only [forceL_eq]
def tblC (most : Nat) (v : AV) (last : Int) : List AV := [.int .i64 (.ofNat most), v, .int .u64 last]
theorem eq_of_ff {p : Prop} (h : false = true ↔ p) : ¬ p := fun k => by have := h.2 k; cases this
theorem WL.heq {T : Tr FnI} {nt : Nat} {rdn : Option Nat} {c : AC} {t : EL} {H H' : HL} {Q : AExit → EL → HL → Prop} (e : H = H') (w : WL B T nt rdn c t H' Q) : WL B T nt rdn c t H Q := e ▸ w
theorem WD.bx {T : Tr FnI} {t : EL} {H : HL} {HH : List (Nat × HL)} {Q : EL → HL → Prop} {os : List DOper} {k : Nat} {g : Option (Nat × Bool)} {i bs : Nat} {x : AO} {v : AV} {cs : List AV} (hg : wantedL g t = some true) (hx : gl t x = some v) (he : v.cells = cs) (hc : allCell cs = true) (w : ∀ id, WD B T os ((k, .ptr ⟨false, id, 0⟩) :: t) ((id, .row cs) :: H) HH Q) :
    WD B T (⟨⟨some k, .box x, g⟩, .quiet, i, bs⟩ :: os) t H HH Q := WD.quiet hg (fun _ _ h => by cases h) (fun _ _ h => by cases h) (by subst he; exact WOp.box hx hc w)
def fullP {V : Type} (most : Nat) (es : List (TE V)) (key : List Nat) : Prop := findE es key = none ∧ most ≤ es.length
def atIx {V : Type} (e : TE V) (ix : Int) : TE V := { e with mke := ix, ix := ix }
/-- A slice of texts. -/
structure Tg where
  a : AV
  c : a.isCell = true
theorem Tg.cells (t : Tg) : t.a.cells = [t.a] := by
  obtain ⟨a, c⟩ := t
  cases a <;> first | rfl | cases c
structure NV where
  node : Int
  addr : List Nat
  jm : Int
  ji : Int
structure SV where
  node : Int
  id : List Nat
  name : List Nat
  tags : List (List Nat)
  tg : Tg
  port : Int
  jm : Int
  ji : Int
structure CV where
  node : Int
  id : List Nat
  svc : List Nat
  note : List Nat
  st : Int
  jm : Int
  ji : Int
def valN (v : NV) : List AV := [.int .i64 v.node, .str v.addr, .int .u64 v.jm, .int .u64 v.ji]
def valS (v : SV) : List AV := [.int .i64 v.node, .str v.id, .str v.name, v.tg.a, .int .i64 v.port, .int .u64 v.jm, .int .u64 v.ji]
def valC (v : CV) : List AV := [.int .i64 v.node, .str v.id, .str v.svc, .str v.note, .int .i64 v.st, .int .u64 v.jm, .int .u64 v.ji]
def rowN (e : TE NV) : List AV := [.str e.key, .int .i64 e.v.node, .str e.v.addr, .int .u64 e.v.jm, .int .u64 e.v.ji, .int .u64 e.mke, .int .u64 e.ix]
def rowS (e : TE SV) : List AV := [.str e.key, .int .i64 e.v.node, .str e.v.id, .str e.v.name, e.v.tg.a, .int .i64 e.v.port, .int .u64 e.v.jm, .int .u64 e.v.ji, .int .u64 e.mke, .int .u64 e.ix]
def rowC (e : TE CV) : List AV := [.str e.key, .int .i64 e.v.node, .str e.v.id, .str e.v.svc, .str e.v.note, .int .i64 e.v.st, .int .u64 e.v.jm, .int .u64 e.v.ji, .int .u64 e.mke, .int .u64 e.ix]
def zeN : TE NV := ⟨[], ⟨.ofNat 0, [], .ofNat 0, .ofNat 0⟩, .ofNat 0, .ofNat 0⟩
def zeS : TE SV := ⟨[], ⟨.ofNat 0, [], [], [], ⟨.nilsl, rfl⟩, .ofNat 0, .ofNat 0, .ofNat 0⟩, .ofNat 0, .ofNat 0⟩
def zeC : TE CV := ⟨[], ⟨.ofNat 0, [], [], [], .ofNat 0, .ofNat 0, .ofNat 0⟩, .ofNat 0, .ofNat 0⟩
theorem acRN (e : TE NV) : allCell (rowN e) = true := by
  have h := trivial
  repeat' (first | exact ac0 | apply ac1)
  all_goals first | rfl | assumption
theorem acVN (v : NV) : allCell (valN v) = true := by
  have h := trivial
  repeat' (first | exact ac0 | apply ac1)
  all_goals first | rfl | assumption
theorem acRS (e : TE SV) : allCell (rowS e) = true := by
  have h := e.v.tg.c
  repeat' (first | exact ac0 | apply ac1)
  all_goals first | rfl | assumption
theorem acVS (v : SV) : allCell (valS v) = true := by
  have h := v.tg.c
  repeat' (first | exact ac0 | apply ac1)
  all_goals first | rfl | assumption
theorem acRC (e : TE CV) : allCell (rowC e) = true := by
  have h := trivial
  repeat' (first | exact ac0 | apply ac1)
  all_goals first | rfl | assumption
theorem acVC (v : CV) : allCell (valC v) = true := by
  have h := trivial
  repeat' (first | exact ac0 | apply ac1)
  all_goals first | rfl | assumption
theorem at75_ok {H : HL} {c2 c3 a : Nat} {v : AV} {es : List (TE NV)} {key : List Nat} {m : Nat} (h2 : Ld B H ⟨false, c2, 0⟩ 1 [.ptr ⟨false, a, 0⟩]) (h3 : Ld B H ⟨false, c3, 0⟩ 1 [.str key]) (ha : Ld B H ⟨false, a, 1⟩ 1 [v])
    (hs : SlIs B H v 7 (es.map rowN)) (hm : m < es.length) :
    WF B tab (.func 75) [.int .i64 (.ofNat m), .ptr ⟨false, c2, 0⟩, .ptr ⟨false, c3, 0⟩] H fun r H' => H' = H ∧ ∃ b : Bool, r = .bool b ∧ (b = true ↔ ¬ strLess (es[m]).key key = true) := by
  have hc : (es.map rowN)[m]? = some (rowN es[m]) := by rw [List.getElem?_map, List.getElem?_eq_getElem hm]; rfl
  refine WF.fnR g75 rfl ?_
  repeat' (first
    | apply WOps.nil | apply WC.seq | apply WC.reg | apply WC.ret | apply WC.dreg | apply WD.nil | (apply WD.load; rfl; (apply at2; exact rd_ld0 rfl h2; exact same0)) | (apply WD.load; rfl; (apply at2; exact rd_ld0 rfl h3; exact same0)) | (apply WD.load; rfl; (apply at2; exact rd_ld0 rfl ha; exact same0)) | (apply WD.ixSl; rfl; rfl; rfl; exact hs; exact hc; intro ax hax) | (apply WD.load; rfl; (apply at2; exact rd_ld0 rfl (Ld.part (hax _ hs) 0 1 (by decide)); exact same0)) | (apply WOps.purG; rfl; (intro _; rfl)) | (apply WD.cmpT; rfl; rfl; rfl; rfl; intro _ _) | (apply WD.pur; rfl; (intro _; rfl)))
  refine ⟨trivial, List.Sublist.refl _, [_], ⟨_, [], rfl, rfl, rfl⟩, _, rfl, ?_⟩
  assumption

theorem at65_ok {H : HL} {a : Nat} {v : AV} {es : List (TE NV)} {key : List Nat} (ha : Ld B H ⟨false, a, 1⟩ 1 [v]) (hs : SlIs B H v 7 (es.map rowN)) (hn : es.length ≤ 4611686018427387903) (so : Sorted es) :
    WF B tab (.func 65) [.ptr ⟨false, a, 0⟩, .str key] H fun r H' => H' = H ∧ ∃ (k : Nat) (b : Bool), r = .tup [.int .i64 (.ofNat k), .bool b] ∧ isLeast (notBelow es key) es.length k ∧ (b = true ↔ ∃ h : k < es.length, es[k].key = key) := by
  refine WF.fnR g65 rfl ?_
  repeat' (first
    | apply WOps.nil | apply WC.seq | apply WC.reg | (apply WOps.ldG; rfl; rfl; (first | exact ld0 rfl | exact ld1 rfl | exact ld2 rfl); rfl) | (apply WOps.bx; rfl; rfl; (first | rfl | ((repeat' (first | exact ac0 | apply ac1)) <;> (first | rfl | assumption))); intro _) | (apply WOps.ldG; rfl; rfl; exact ha.cons.cons; rfl) | (apply WOps.lenS; rfl; rfl; exact hs.cons.cons) | (apply WOps.purG; rfl; (intro _; rfl)))
  rename_i c2 c3
  rw [List.length_map]
  have h2 : Ld B ((c3, .row (AV.str key).cells) :: (c2, .row (AV.ptr ⟨false, a, 0⟩).cells) :: H) ⟨false, c2, 0⟩ 1 [.ptr ⟨false, a, 0⟩] := Ld.own (Tk.tail Tk.head) rfl
  have h3 : Ld B ((c3, .row (AV.str key).cells) :: (c2, .row (AV.ptr ⟨false, a, 0⟩).cells) :: H) ⟨false, c3, 0⟩ 1 [.str key] := Ld.own Tk.head rfl
  have ha' : Ld B ((c3, .row (AV.str key).cells) :: (c2, .row (AV.ptr ⟨false, a, 0⟩).cells) :: H) ⟨false, a, 1⟩ 1 [v] := ha.cons.cons
  have hs' : SlIs B ((c3, .row (AV.str key).cells) :: (c2, .row (AV.ptr ⟨false, a, 0⟩).cells) :: H) v 7 (es.map rowN) := SlIs.cons (SlIs.cons hs)
  apply WOps.clR
  rfl
  rfl
  refine search74_ok es.length hn 75 _ (notBelow es key) (notBelow_mono so) fun m hm => WF.mono (at75_ok h2 h3 ha' hs' hm) ?_
  · rintro r _ ⟨rfl, b, rfl, hb⟩
    exact ⟨rfl, b, rfl, hb.trans ⟨fun h => ⟨hm, h⟩, fun ⟨_, h⟩ => h⟩⟩
  rintro _ ⟨k, rfl, hk⟩
  repeat' (first
    | apply WOps.nil | apply WC.seq | apply WC.ret | apply WC.dreg | apply WD.nil | (apply WD.load; rfl; (apply at2; exact rd_ld0 rfl h2; exact same0)) | (apply WD.load; rfl; (apply at2; exact rd_ld0 rfl ha'; exact same0)) | (apply WD.lenS; rfl; rfl; exact hs') | (apply WOps.purG; rfl; (intro _; rfl)) | (apply WD.cmp; rfl; rfl; rfl; rfl; intro _ _) | (apply WD.pur; rfl; (intro _; rfl)) | (apply WD.skp; rfl) | (apply WD.skpL; rfl) | (apply WD.ask; rfl; all_goals (intro hb; first | subst hb | fail_if_success (cases hb))))
  · have hlt : k < es.length := by
      have h0 := ‹true = true ↔ cmpP BinOp.lss (Int.ofNat k) (Int.ofNat (List.map rowN es).length)›
      rw [List.length_map] at h0
      simp [cmpP] at h0; omega
    have hc : (es.map rowN)[k]? = some (rowN es[k]) := by rw [List.getElem?_map, List.getElem?_eq_getElem hlt]; rfl
    repeat' (first
      | apply WC.ret | apply WD.nil | (apply WD.ixSl; rfl; rfl; rfl; exact hs'; exact hc; intro ax hax) | (apply WD.load; rfl; (apply at2; exact rd_ld0 rfl (Ld.part (hax _ hs') 0 1 (by decide)); exact same0)) | (apply WD.load; rfl; (apply at2; exact rd_ld0 rfl h3; exact same0)) | (apply WD.cmpT; rfl; rfl; rfl; rfl; intro _ _) | (apply WD.pur; rfl; (intro _; rfl)))
    rename_i b hb
    refine ⟨trivial, (List.sublist_cons_self _ _).trans (List.sublist_cons_self _ _), [_, _], ⟨_, _, rfl, rfl, _, _, rfl, rfl, rfl⟩, k, _, rfl, hk, ?_⟩
    simp only [cmpS] at hb
    rw [hb]
    exact ⟨fun h => ⟨hlt, h⟩, fun ⟨_, h⟩ => h⟩
  · have hge : ¬ k < es.length := by
      have h0 := ‹false = true ↔ cmpP BinOp.lss (Int.ofNat k) (Int.ofNat (List.map rowN es).length)›
      rw [List.length_map] at h0
      simp [cmpP] at h0; omega
    refine ⟨trivial, (List.sublist_cons_self _ _).trans (List.sublist_cons_self _ _), [_, _], ⟨_, _, rfl, rfl, _, _, rfl, rfl, rfl⟩, k, _, rfl, hk, ?_⟩
    simp [hge]
theorem none50_ok {H : HL} {a most : Nat} (h0 : Ld B H ⟨false, a, 0⟩ 1 [.int .i64 (.ofNat most)]) (hm : 1 ≤ most) : WF B tab (.func 50) [.ptr ⟨false, a, 0⟩] H fun r H' => H' = H ∧ r = .bool false := by
  refine WF.fnR g50 rfl ?_
  repeat' (first
    | apply WOps.nil | apply WC.seq | apply WC.reg | apply WC.ret | (apply WOps.ldG; rfl; rfl; exact h0; rfl) | (apply WOps.cmp; rfl; rfl; rfl; rfl; intro _ _) | (apply WOps.purG; rfl; (intro _; rfl)))
  rename_i b hb
  refine ⟨trivial, List.Sublist.refl _, [_], ⟨_, [], rfl, rfl, rfl⟩, ?_⟩
  have : b = false := by
    rw [Bool.eq_false_iff]
    intro h
    have := hb.1 h
    simp [cmpP] at this
    omega
  rw [this]
  rfl
set_option maxHeartbeats 1000000 in
theorem get79_ok {H : HL} {a most : Nat} {v : AV} {es : List (TE NV)} {key : List Nat} (h0 : Ld B H ⟨false, a, 0⟩ 1 [.int .i64 (.ofNat most)]) (hm : 1 ≤ most) (ha : Ld B H ⟨false, a, 1⟩ 1 [v]) (hs : SlIs B H v 7 (es.map rowN)) (hn : es.length ≤ 4611686018427387903) (so : Sorted es) :
    WF B tab (.func 79) [.ptr ⟨false, a, 0⟩, .str key] H fun r H' => H' = H ∧ ∃ k : Nat, isLeast (notBelow es key) es.length k ∧
      ((∃ h : k < es.length, es[k].key = key ∧ r = .tup [.agg (rowN es[k]), .bool true]) ∨ ((¬ ∃ h : k < es.length, es[k].key = key) ∧ r = .tup [.agg (rowN zeN), .bool false])) := by
  refine WF.fnR g79 rfl ?_
  repeat' (first
    | apply WOps.nil | apply WC.seq | apply WC.reg | apply WC.skip | apply WC.ret | (apply WC.condF; rfl) | (apply WOps.st; rfl; rfl; (first | exact tk0 | exact tk1 | exact tk2); rfl; (first | rfl | ((repeat' (first | exact ac0 | apply ac1)) <;> (first | rfl | assumption))); rfl) | (apply WOps.alc; rfl; intro _) | (apply WOps.clR; rfl; rfl; exact none50_ok h0.cons hm; rintro _ rfl) | (apply WOps.clR; rfl; rfl; exact at65_ok ha.cons (SlIs.cons hs) hn so; rintro _ ⟨k, b, rfl, hk, hkb⟩) | (apply WOps.ldG; rfl; rfl; exact ha.cons; rfl) | (apply WOps.purG; rfl; (intro _; rfl)) | (apply WC.condA; rfl; all_goals (intro hb; try subst hb)))
  · refine ⟨trivial, List.sublist_cons_self _ _, [_, _], ⟨_, _, rfl, ⟨_, _, rfl, Ld.own Tk.head rfl, rfl⟩, _, _, rfl, rfl, rfl⟩, k, hk, .inr ⟨?_, rfl⟩⟩
    intro h
    simp [hkb.2 h] at hb
  · have hbt : b = true := by simpa using hb
    obtain ⟨hlt, hkey⟩ := hkb.1 hbt
    have hc : (es.map rowN)[k]? = some (rowN es[k]) := by rw [List.getElem?_map, List.getElem?_eq_getElem hlt]; rfl
    repeat' (first
      | apply WOps.nil | apply WC.ret | (apply WOps.st; rfl; rfl; (first | exact tk0 | exact tk1 | exact tk2); rfl; (first | rfl | ((repeat' (first | exact ac0 | apply ac1)) <;> (first | rfl | assumption))); rfl) | (apply WOps.ixSl; rfl; rfl; rfl; exact SlIs.cons hs; exact hc; intro ax hax) | (apply WOps.ldG; rfl; rfl; exact hax; rfl) | (apply WOps.purG; rfl; (intro _; rfl)))
    exact ⟨trivial, List.sublist_cons_self _ _, [_, _], ⟨_, _, rfl, ⟨_, _, rfl, Ld.own Tk.head rfl, rfl⟩, _, _, rfl, rfl, rfl⟩, k, hk, .inl ⟨hlt, hkey, rfl⟩⟩
theorem new42_ok {H : HL} (m : Int) : WF B tab (.func 42) [.int .i64 m] H fun r H' => ∃ a, r = .ptr ⟨false, a, 0⟩ ∧ H' = (a, .row [.int .i64 (.ofNat (mostOf m)), .nilsl, .int .u64 (.ofNat 0)]) :: H := by
  refine WF.fn g42 rfl ?_
  repeat' (first
    | apply WOps.nil | apply WC.seq | apply WC.reg | apply WC.ret | (apply WOps.bx; rfl; rfl; (first | rfl | ((repeat' (first | exact ac0 | apply ac1)) <;> (first | rfl | assumption))); intro _) | (apply WOps.purG; rfl; (intro _; rfl)))
  refine ⟨trivial, [_], ⟨_, [], rfl, rfl, rfl⟩, _, rfl, ?_⟩
  have : (if Int.ofNat 64 < if Int.ofNat 1 > m then Int.ofNat 1 else m then Int.ofNat 64 else if Int.ofNat 1 > m then Int.ofNat 1 else m) = Int.ofNat (mostOf m) := by
    unfold mostOf
    simp only [Int.ofNat_eq_natCast, gt_iff_lt]
    split <;> split <;> (try split) <;> (try split) <;> omega
  rw [this]
  rfl
theorem raise25_ok {H : HL} {a most : Nat} {v : AV} {last ix : Int} (hm : 1 ≤ most) : WF B tab (.func 25) [.ptr ⟨false, a, 0⟩, .int .u64 ix] ((a, .row [.int .i64 (.ofNat most), v, .int .u64 last]) :: H) fun r H' => H' = (a, .row [.int .i64 (.ofNat most), v, .int .u64 (maxI last ix)]) :: H := by
  refine WF.fn g25 rfl ?_
  repeat' (first
    | apply WOps.nil | apply WC.seq | apply WC.reg | (apply WC.condT; rfl) | (apply WOps.ldG; rfl; rfl; (first | exact ld0 rfl | exact ld1 rfl | exact ld2 rfl); rfl) | (apply WOps.st; rfl; rfl; (first | exact tk0 | exact tk1 | exact tk2); rfl; (first | rfl | ((repeat' (first | exact ac0 | apply ac1)) <;> (first | rfl | assumption))); rfl) | (apply WOps.clR; rfl; rfl; exact none50_ok (Ld.own Tk.head rfl) hm; rintro _ rfl) | (apply WOps.purG; rfl; (intro _; rfl)))
  exact ⟨trivial, [], rfl, rfl⟩
/-- The last index of a table. -/
theorem last59_ok {H : HL} {a most : Nat} {last : Int} (h0 : Ld B H ⟨false, a, 0⟩ 1 [.int .i64 (.ofNat most)]) (hm : 1 ≤ most) (h2 : Ld B H ⟨false, a, 2⟩ 1 [.int .u64 last]) : WF B tab (.func 59) [.ptr ⟨false, a, 0⟩] H fun r H' => H' = H ∧ r = .int .u64 last := by
  refine WF.fnR g59 rfl ?_
  repeat' (first
    | apply WOps.nil | apply WC.seq | apply WC.reg | apply WC.skip | apply WC.ret | (apply WC.condF; rfl) | (apply WOps.clR; rfl; rfl; exact none50_ok h0 hm; rintro _ rfl) | (apply WOps.ldG; rfl; rfl; exact h2; rfl) | (apply WOps.purG; rfl; (intro _; rfl)))
  exact ⟨trivial, List.Sublist.refl _, [_], ⟨_, [], rfl, rfl, rfl⟩, rfl⟩
theorem rowN_len {e : TE NV} : (rowN e).length = 7 := rfl
theorem rows_lenN : ∀ (es : List (TE NV)), (es.map rowN).flatten.length = es.length * 7 := by
  intro es
  induction es with
  | nil => rfl
  | cons e es ih => rw [List.map_cons, List.flatten_cons, List.length_append, ih, rowN_len, List.length_cons]; omega
theorem rows_cellN : ∀ (es : List (TE NV)), allCell (es.map rowN).flatten = true := by
  intro es
  rw [allCell_iff]
  intro v hv
  simp only [List.mem_flatten, List.mem_map] at hv
  obtain ⟨_, ⟨e, _, rfl⟩, hv⟩ := hv
  exact (allCell_iff _).1 (acRN e) v hv
/-- All rows, told. -/
theorem list62_ok {H : HL} {a most : Nat} {v : AV} {es : List (TE NV)} (h0 : Ld B H ⟨false, a, 0⟩ 1 [.int .i64 (.ofNat most)]) (hm : 1 ≤ most) (h1 : Ld B H ⟨false, a, 1⟩ 1 [v]) (o : SrcIs B H v 7 es.length (es.map rowN).flatten) (hn : es.length ≤ 1000) :
    WF B tab (.func 62) [.ptr ⟨false, a, 0⟩] H fun r H' => ∃ h', OwnSl r (es.map rowN).flatten es.length 7 h' ∧ H' = h' ++ H := by
  refine WF.fn g62 rfl ?_
  repeat' (first
    | apply WOps.nil | apply WC.seq | apply WC.reg | apply WC.skip | (apply WC.condF; rfl) | (apply WOps.bsl; rfl; (first | rfl | ((repeat' (first | exact ac0 | apply ac1)) <;> (first | rfl | assumption))); intro _) | (apply WOps.clR; rfl; rfl; exact none50_ok h0 hm; rintro _ rfl) | (apply WOps.ldG; rfl; rfl; exact h1.cons; rfl) | (apply WOps.purG; rfl; (intro _; rfl)))
  rename_i id
  refine WOps.app (h := [(id, .row [])]) (cells := []) (n := 0) rfl rfl rfl (.inr ⟨id, rfl, rfl, rfl⟩) (List.Perm.refl _) (src_cons o) rfl (rows_cellN es) (rows_lenN es) (by omega) ?_
  intro v' h' o'
  repeat' (first
    | apply WOps.nil | apply WC.ret | (apply WOps.purG; rfl; (intro _; rfl)))
  refine ⟨trivial, [_], ⟨_, [], rfl, rfl, rfl⟩, h', ?_, rfl⟩
  have o2 : OwnSl v' (es.map rowN).flatten es.length 7 h' := by simpa using o'
  exact o2
theorem rows_slN {v : AV} {es : List (TE NV)} {h : HL} (o : OwnSl v (es.map rowN).flatten es.length 7 h) : SlIs B h v 7 (es.map rowN) := by
  have o2 : OwnSl v (es.map rowN).flatten (es.map rowN).length 7 h := by simpa using o
  exact OwnSl.sl o2 (by intro c hc; simp only [List.mem_map] at hc; obtain ⟨e, _, rfl⟩ := hc; rfl)
theorem rows_takeN : ∀ {es : List (TE NV)} {k : Nat}, (es.map rowN).flatten.take (k * 7) = ((es.take k).map rowN).flatten := by
  intro es
  induction es with
  | nil => intro k; simp
  | cons x es ih =>
    intro k
    cases k with
    | zero => simp
    | succ k =>
      simp only [List.map_cons, List.flatten_cons, List.take_succ_cons]
      rw [List.take_append, rowN_len, List.take_of_length_le (by rw [rowN_len]; omega), show (k + 1) * 7 - 7 = k * 7 by omega, ih]
theorem rows_dropN : ∀ {es : List (TE NV)} {k : Nat}, (es.map rowN).flatten.drop (k * 7) = ((es.drop k).map rowN).flatten := by
  intro es
  induction es with
  | nil => intro k; simp
  | cons x es ih =>
    intro k
    cases k with
    | zero => simp
    | succ k =>
      simp only [List.map_cons, List.flatten_cons, List.drop_succ_cons]
      rw [List.drop_append, rowN_len, List.drop_eq_nil_of_le (by rw [rowN_len]; omega), show (k + 1) * 7 - 7 = k * 7 by omega, ih, List.nil_append]
theorem raise25_tk {H R : HL} {a most : Nat} {v : AV} {last ix : Int} (hm : 1 ≤ most) (tk : Tk H a (.row (tblC most v last)) R) : WF B tab (.func 25) [.ptr ⟨false, a, 0⟩, .int .u64 ix] H fun r H' => H' = (a, .row (tblC most v (maxI last ix))) :: R :=
  WF.perm tk (raise25_ok hm)
theorem flat_putN {A Cs : List (TE NV)} {z : List AV} {e : TE NV} (hz : z.length = 7) :
    let ds := (A.map rowN).flatten ++ (z ++ (Cs.map rowN).flatten)
    ds.take (A.length * 7) ++ (rowN e ++ ds.drop (A.length * 7 + 7)) = ((A ++ e :: Cs).map rowN).flatten := by
  have hl := rows_lenN A
  simp only
  rw [← hl, List.take_left, List.drop_append, List.drop_eq_nil_of_le (by omega), List.nil_append, Nat.add_sub_cancel_left, ← hz, List.drop_left]
  simp
theorem copy_rowsN {es : List (TE NV)} {k : Nat} {zz : List AV} (hk : k ≤ es.length) (hz : zz.length = 7) :
    ∃ z : List AV, z.length = 7 ∧ 
    ((es.map rowN).flatten ++ zz).take (0 + (k + 1) * 7) ++ ((((es.map rowN).flatten ++ zz).drop (k * 7)).take (min (es.length + 1 - k) (es.length + 1 - (k + 1)) * 7) ++ ((es.map rowN).flatten ++ zz).drop (0 + (k + 1) * 7 + min (es.length + 1 - k) (es.length + 1 - (k + 1)) * 7)) =
      ((es.take k).map rowN).flatten ++ (z ++ ((es.drop k).map rowN).flatten) := by
  have hA : ((es.take k).map rowN).flatten.length = k * 7 := by rw [rows_lenN, List.length_take]; omega
  have hC : ((es.drop k).map rowN).flatten.length = (es.length - k) * 7 := by rw [rows_lenN, List.length_drop]
  have he : (es.map rowN).flatten = ((es.take k).map rowN).flatten ++ ((es.drop k).map rowN).flatten := by
    rw [← List.flatten_append, ← List.map_append, List.take_append_drop]
  have hmin : min (es.length + 1 - k) (es.length + 1 - (k + 1)) = es.length - k := by omega
  rw [he, hmin]
  generalize ((es.take k).map rowN).flatten = Ar at *
  generalize ((es.drop k).map rowN).flatten = Cr at *
  refine ⟨(Cr ++ zz).take 7, by rw [List.length_take, List.length_append]; omega, ?_⟩
  have e1 : List.take (0 + (k + 1) * 7) (Ar ++ Cr ++ zz) = Ar ++ (Cr ++ zz).take 7 := by
    rw [List.append_assoc, List.take_append, List.take_of_length_le (by omega), hA]
    congr 2; omega
  have e2 : List.take ((es.length - k) * 7) (List.drop (k * 7) (Ar ++ Cr ++ zz)) = Cr := by
    rw [List.append_assoc, ← hA, List.drop_left, ← hC, List.take_left]
  have e3 : List.drop (0 + (k + 1) * 7 + (es.length - k) * 7) (Ar ++ Cr ++ zz) = [] := by
    rw [List.drop_eq_nil_iff, List.length_append, List.length_append]; omega
  rw [e1, e2, e3, List.append_nil, List.append_assoc]
theorem put_rowN {es : List (TE NV)} {k : Nat} {z vs : List AV} {e : TE NV} {A Cs : List (TE NV)} (hA : A.length = k) (hz : z.length = 7) (hv : vs = rowN e) :
    putN ((A.map rowN).flatten ++ (z ++ (Cs.map rowN).flatten)) (0 + k * 7) vs = some ((A ++ e :: Cs).map rowN).flatten := by
  subst hv hA
  have hl := rows_lenN A
  rw [putN_of (by rw [List.length_append, List.length_append, rowN_len, hz]; omega), Nat.zero_add, rowN_len]
  exact congrArg some (flat_putN hz)
set_option maxHeartbeats 4000000 in
theorem put45_ok {hs R : HL} {a most : Nat} {v : AV} {last : Int} {es : List (TE NV)} {e : TE NV} (hm : 1 ≤ most) (o : OwnSl v (es.map rowN).flatten es.length 7 hs) (hn : es.length ≤ 1000) (so : Rise es) (hmk : e.mke = e.ix) :
    WF B tab (.func 45) [.ptr ⟨false, a, 0⟩, .str e.key, .agg (valN e.v), .int .u64 e.ix] ((a, .row (tblC most v last)) :: (hs ++ R)) fun r H' =>
      ((findE es e.key = none ∧ most ≤ es.length) ∧ r = .tup [.agg (rowN zeN), .int .i64 (.ofNat 5)] ∧ H' = (a, .row (tblC most v last)) :: (hs ++ R)) ∨
      (¬ (findE es e.key = none ∧ most ≤ es.length) ∧ ∃ e' v' hs', r = .tup [.agg (rowN e'), .int .i64 (.ofNat 0)] ∧ OwnSl v' ((putE es e).map rowN).flatten (putE es e).length 7 hs' ∧ H' = (a, .row (tblC most v' (maxI last e.ix))) :: (hs' ++ R)) := by
  refine WF.lessP ?_
  refine WF.fn g45 rfl ?_
  have hsl : ∀ {H : HL}, SlIs B (H ++ (hs ++ R)) v 7 (es.map rowN) := SlIs.right (SlIs.left (rows_slN o))
  repeat' (first
    | apply WOps.nil | apply WC.seq | apply WC.reg | apply WC.skip | apply WC.ret | (apply WC.condT; rfl) | (apply WC.condF; rfl) | apply WC.dreg | apply WD.nil | (apply WOps.ldG; rfl; rfl; (first | exact ld0 rfl | exact ld1 rfl | exact ld2 rfl); rfl) | (apply WOps.st; rfl; rfl; (first | exact tk0 | exact tk1 | exact tk2); rfl; (first | rfl | ((repeat' (first | exact ac0 | apply ac1)) <;> (first | rfl | assumption))); rfl) | (apply WOps.alc; rfl; intro _) | (apply WOps.bx; rfl; rfl; (first | rfl | ((repeat' (first | exact ac0 | apply ac1)) <;> (first | rfl | assumption))); intro _) | (apply WOps.bsl; rfl; (first | rfl | ((repeat' (first | exact ac0 | apply ac1)) <;> (first | rfl | assumption))); intro _) | (apply WOps.clR; rfl; rfl; exact none50_ok (most := most) (Ld.own (Tk.tail (Tk.tail Tk.head)) rfl) hm; rintro _ rfl) | (apply WOps.clR; rfl; rfl; exact at65_ok (v := v) (Ld.own (Tk.tail (Tk.tail Tk.head)) rfl) (hsl (H := [_, _, _])) (by omega) (sorted_of so); rintro _ ⟨k, b, rfl, hk, hkb⟩; cases b) | (apply WD.lenO; rfl; rfl; exact o) | (apply WOps.ldG; rfl; rfl; exact Ld.own (Tk.tail (Tk.tail (Tk.tail Tk.head))) rfl; rfl) | (apply WOps.purG; rfl; (intro _; rfl)) | (apply WD.load; rfl; (first | (apply at1; (first | exact rd0 rfl rfl rfl | exact rd1 rfl rfl rfl | exact rd2 rfl rfl rfl); rfl) | (apply at2; (first | exact rd0 rfl rfl rfl | exact rd1 rfl rfl rfl | exact rd2 rfl rfl rfl); repeat' (first | exact same0 | (apply same1; (first | exact rd0 rfl rfl rfl | exact rd1 rfl rfl rfl | exact rd2 rfl rfl rfl); rfl) | (apply same2; (first | exact rd0 rfl rfl rfl | exact rd1 rfl rfl rfl | exact rd2 rfl rfl rfl)))))) | (apply WD.cmp; rfl; rfl; rfl; rfl; intro _ _) | (apply WD.pur; rfl; (intro _; rfl)) | (apply WD.skp; rfl) | (apply WD.skpL; rfl) | (apply WC.condA; rfl; all_goals (intro hb; try subst hb)))
  · have hge := ‹true = true ↔ cmpP BinOp.geq (Int.ofNat es.length) (Int.ofNat most)›
    simp only [cmpP, true_iff, Int.ofNat_eq_natCast] at hge
    rcases find_at (sorted_of so) hk with ⟨h1, h2, h3⟩ | ⟨h1, h2⟩
    · exact absurd (hkb.2 ⟨h1, h2⟩) (by simp)
    · exact ⟨trivial, [_, _], ⟨_, _, rfl, ⟨_, _, rfl, Ld.own Tk.head rfl, rfl⟩, _, _, rfl, rfl, rfl⟩, _, .inl ⟨⟨h2, by omega⟩, rfl, rfl⟩, subF (by intro f; simp only [AV.cells, List.append_eq, List.map_cons, List.map_nil, List.sum_nil, List.map_append, List.sum_cons, List.sum_append, List.cons_append, List.nil_append, List.append_assoc, List.append_nil]; omega)⟩
  · have hge := ‹false = true ↔ cmpP BinOp.geq (Int.ofNat es.length) (Int.ofNat most)›
    simp only [cmpP, Bool.false_eq_true, false_iff, Int.ofNat_eq_natCast] at hge
    rename_i p6 p8 _ p12 q
    have hno : ¬ ∃ h : k < es.length, es[k].key = e.key := fun h => absurd (hkb.2 h) (by simp)
    have hk1 := hk.1
    refine WOps.app (n := es.length) rfl rfl rfl o (List.perm_append_comm_assoc [_, _, _, _, _] hs R) (src_one Tk.head rfl) (rows_cellN _) rfl rfl (by omega) ?_
    intro v2 h2 o2
    rcases o2 with ⟨_, hz, _⟩ | ⟨id2, rfl, rfl, hl2⟩
    · omega
    simp only [List.cons_append, List.nil_append]
    repeat' (first
      | apply WOps.nil | apply WC.seq | apply WC.dreg | (apply WOps.st; rfl; rfl; exact Tk.tail (Tk.tail (Tk.tail (Tk.tail (Tk.tail Tk.head)))); rfl; rfl; rfl) | (apply WD.addN; rfl; rfl; rfl; omega) | (apply WD.slLo; rfl; rfl; rfl; omega) | (apply WOps.purG; rfl; (intro _; rfl)) | (apply WD.load; rfl; (first | (apply at1; (first | exact rd0 rfl rfl rfl | exact rd1 rfl rfl rfl | exact rd2 rfl rfl rfl); rfl) | (apply at2; (first | exact rd0 rfl rfl rfl | exact rd1 rfl rfl rfl | exact rd2 rfl rfl rfl); repeat' (first | exact same0 | (apply same1; (first | exact rd0 rfl rfl rfl | exact rd1 rfl rfl rfl | exact rd2 rfl rfl rfl); rfl) | (apply same2; (first | exact rd0 rfl rfl rfl | exact rd1 rfl rfl rfl | exact rd2 rfl rfl rfl)))))) | (apply WD.pur; rfl; (intro _; rfl)))
    have hlen : ((es.map rowN).flatten ++ rowN zeN).length = (es.length + 1) * 7 := hl2
    refine WD.cpy (sn := es.length + 1 - k) (off := 0 + (k + 1) * 7) (cs := ((es.map rowN).flatten ++ rowN zeN).drop (k * 7)) rfl rfl rfl (Tk.tail Tk.head) (.inr ⟨_, rfl, .inr (Ld.own (Tk.tail Tk.head) ?_)⟩) ?_ ?_ ?_
    · show takeN (List.drop (0 + k * 7) ((es.map rowN).flatten ++ rowN zeN)) _ = _
      rw [Nat.zero_add, takeN_of (by rw [List.length_drop, hlen]; omega), List.take_of_length_le (by rw [List.length_drop, hlen]; omega)]
    · rw [List.length_drop, hlen]; omega
    · rw [hl2]; omega
    obtain ⟨z, hz, hX⟩ := copy_rowsN (es := es) (k := k) (zz := rowN zeN) hk1 rfl
    refine WD.heq (H' := (id2, .row (((es.take k).map rowN).flatten ++ (z ++ ((es.drop k).map rowN).flatten))) :: _) (by rw [← hX]; rfl) ?_
    have hput : putE es e = es.take k ++ e :: es.drop k := by
      rcases put_at (sorted_of so) hk with ⟨h1, h2, h3⟩ | ⟨h1, h2⟩
      · exact absurd ⟨h1, h2⟩ hno
      · exact h2
    have hf : findE es e.key = none := by
      rcases find_at (sorted_of so) hk with ⟨h1, h2, h3⟩ | ⟨h1, h2⟩
      · exact absurd ⟨h1, h2⟩ hno
      · exact h2
    repeat' (first
      | apply WC.dreg | apply WD.nil | (apply WD.load; rfl; (apply at2; exact rd_ld rfl (Ld.own (Tk.tail (Tk.tail (Tk.tail Tk.head))) rfl) rfl; exact same0)) | (apply WD.ixO; rfl; rfl; rfl; omega) | (apply WD.load; rfl; (first | (apply at1; (first | exact rd0 rfl rfl rfl | exact rd1 rfl rfl rfl | exact rd2 rfl rfl rfl); rfl) | (apply at2; (first | exact rd0 rfl rfl rfl | exact rd1 rfl rfl rfl | exact rd2 rfl rfl rfl); repeat' (first | exact same0 | (apply same1; (first | exact rd0 rfl rfl rfl | exact rd1 rfl rfl rfl | exact rd2 rfl rfl rfl); rfl) | (apply same2; (first | exact rd0 rfl rfl rfl | exact rd1 rfl rfl rfl | exact rd2 rfl rfl rfl)))))) | (apply WD.pur; rfl; (intro _; rfl)))
    have hrow : rowN e = [.str e.key, .int .i64 e.v.node, .str e.v.addr, .int .u64 e.v.jm, .int .u64 e.v.ji, .int .u64 e.ix, .int .u64 e.ix] := by simp [rowN, hmk]
    refine WD.st rfl rfl rfl Tk.head rfl rfl (put_rowN (es := es) (e := e) (by rw [List.length_take]; omega) hz hrow.symm) ?_
    repeat' (first
      | apply WOps.nil | apply WC.seq | apply WC.reg | apply WC.ret | apply WD.nil | (apply WOps.clA; rfl; rfl; exact raise25_tk hm (Tk.tail Tk.head); rintro _ _ rfl) | (apply WOps.ldG; rfl; rfl; exact Ld.own (Tk.tail (Tk.tail (Tk.tail Tk.head))) rfl; rfl) | (apply WOps.st; rfl; rfl; exact (Tk.tail (Tk.tail (Tk.tail (Tk.tail Tk.head)))); rfl; rfl; rfl) | (apply WOps.purG; rfl; (intro _; rfl)))
    refine ⟨trivial, [_, _], ⟨_, _, rfl, ⟨_, _, rfl, Ld.own Tk.head rfl, rfl⟩, _, _, rfl, rfl, rfl⟩, _, .inr ⟨fun h => hge (by omega), e, _, [(id2, _)], ?_, .inr ⟨id2, rfl, rfl, rows_lenN _⟩, rfl⟩, ?_⟩
    · rw [hrow]; rfl
    · have hln : (putE es e).length = es.length + 1 := by
        rw [hput, List.length_append, List.length_cons, List.length_take, List.length_drop]; omega
      rw [hln, hput]
      exact subF (by intro f; simp only [AV.cells, List.append_eq, List.map_cons, List.map_nil, List.sum_nil, List.map_append, List.sum_cons, List.sum_append, List.cons_append, List.nil_append, List.append_assoc, List.append_nil]; omega)
  · rename_i p6 p8 p12
    obtain ⟨hlt, hkey⟩ := hkb.1 rfl
    rcases o with ⟨_, hz, _⟩ | ⟨id2, rfl, rfl, hl2⟩
    · omega
    have hcm : (es.map rowN)[k]? = some (rowN es[k]) := by rw [List.getElem?_map, List.getElem?_eq_getElem hlt]; rfl
    have hput : putE es e = es.take k ++ { e with mke := es[k].mke } :: es.drop (k + 1) := by
      rcases put_at (sorted_of so) hk with ⟨h1, h2, h3⟩ | ⟨h1, h2⟩
      · exact h3
      · exact absurd ⟨hlt, hkey⟩ h1
    have hf : findE es e.key = some es[k] := by
      rcases find_at (sorted_of so) hk with ⟨h1, h2, h3⟩ | ⟨h1, h2⟩
      · exact h3
      · exact absurd ⟨hlt, hkey⟩ h1
    have hrows : (es.map rowN).flatten = ((es.take k).map rowN).flatten ++ (rowN es[k] ++ ((es.drop (k + 1)).map rowN).flatten) := by
      have h1 : (es.map rowN).flatten = ((es.take k).map rowN).flatten ++ ((es.drop k).map rowN).flatten := by
        rw [← List.flatten_append, ← List.map_append, List.take_append_drop]
      rw [h1, List.drop_eq_getElem_cons hlt, List.map_cons, List.flatten_cons]
    repeat' (first
      | apply WOps.nil | apply WC.dreg | (apply WOps.st; rfl; rfl; (first | exact tk0 | exact tk1 | exact tk2); rfl; (first | rfl | ((repeat' (first | exact ac0 | apply ac1)) <;> (first | rfl | assumption))); rfl) | (apply WOps.ixSl; rfl; rfl; rfl; exact hsl (H := [_, _, _, _]); exact hcm; intro ax hax) | (apply WOps.ldG; rfl; rfl; exact Ld.part hax 5 1 (by decide); rfl) | (apply WD.load; rfl; (apply at2; exact rd_ld rfl (Ld.own (Tk.tail (Tk.tail (Tk.tail Tk.head))) rfl) rfl; exact same0)) | (apply WD.ixO; rfl; rfl; rfl; omega) | (apply WOps.purG; rfl; (intro _; rfl)) | (apply WD.load; rfl; (first | (apply at1; (first | exact rd0 rfl rfl rfl | exact rd1 rfl rfl rfl | exact rd2 rfl rfl rfl); rfl) | (apply at2; (first | exact rd0 rfl rfl rfl | exact rd1 rfl rfl rfl | exact rd2 rfl rfl rfl); repeat' (first | exact same0 | (apply same1; (first | exact rd0 rfl rfl rfl | exact rd1 rfl rfl rfl | exact rd2 rfl rfl rfl); rfl) | (apply same2; (first | exact rd0 rfl rfl rfl | exact rd1 rfl rfl rfl | exact rd2 rfl rfl rfl)))))) | (apply WD.pur; rfl; (intro _; rfl)))
    refine WD.st rfl rfl rfl (Tk.tail (Tk.tail (Tk.tail (Tk.tail Tk.head)))) rfl rfl ((congrArg (fun x => putN x _ _) hrows).trans (put_rowN (es := es) (e := { e with mke := es[k].mke }) (by rw [List.length_take]; omega) rfl rfl)) ?_
    repeat' (first
      | apply WOps.nil | apply WC.seq | apply WC.reg | apply WC.ret | apply WD.nil | (apply WOps.ldG; rfl; rfl; (first | exact ld0 rfl | exact ld1 rfl | exact ld2 rfl); rfl) | (apply WOps.clA; rfl; rfl; exact raise25_tk hm (Tk.tail (Tk.tail (Tk.tail (Tk.tail Tk.head)))); rintro _ _ rfl) | (apply WOps.st; rfl; rfl; exact (Tk.tail (Tk.tail (Tk.tail Tk.head))); rfl; rfl; rfl) | (apply WOps.purG; rfl; (intro _; rfl)))
    refine ⟨trivial, [_, _], ⟨_, _, rfl, ⟨_, _, rfl, Ld.own Tk.head rfl, rfl⟩, _, _, rfl, rfl, rfl⟩, _, .inr ⟨fun h => (by rw [hf] at h; cases h.1), { e with mke := es[k].mke }, _, [(id2, _)], rfl, .inr ⟨id2, rfl, rfl, rows_lenN _⟩, rfl⟩, ?_⟩
    have hln : (putE es e).length = es.length := by
      rw [hput, List.length_append, List.length_cons, List.length_take, List.length_drop]; omega
    rw [hln, hput]
    exact subF (by intro f; simp only [AV.cells, List.append_eq, List.map_cons, List.map_nil, List.sum_nil, List.map_append, List.sum_cons, List.sum_append, List.cons_append, List.nil_append, List.append_assoc, List.append_nil]; omega)
/-- A table stands in the heap, beside R. -/
def TbN (H : HL) (a most : Nat) (es : List (TE NV)) (last : Int) (R : HL) : Prop := ∃ v hs, OwnSl v (es.map rowN).flatten es.length 7 hs ∧ H.Perm ((a, .row (tblC most v last)) :: (hs ++ R))
theorem TbN.cons {H R : HL} {a most : Nat} {es : List (TE NV)} {last : Int} {x : Nat × AObj} (h : TbN H a most es last R) : TbN (x :: H) a most es last (x :: R) := by
  obtain ⟨v, hs, o, p⟩ := h
  refine ⟨v, hs, o, ?_⟩
  exact (List.Perm.cons _ p).trans ((List.Perm.swap _ _ _).trans (List.Perm.cons _ List.perm_middle.symm))
theorem TbN.permR {H R R' : HL} {a most : Nat} {es : List (TE NV)} {last : Int} (h : TbN H a most es last R) (p : R.Perm R') : TbN H a most es last R' := by
  obtain ⟨v, hs, o, q⟩ := h
  exact ⟨v, hs, o, q.trans (List.Perm.cons _ (List.Perm.append_left _ p))⟩
theorem TbN.perm {H H' R : HL} {a most : Nat} {es : List (TE NV)} {last : Int} (h : TbN H a most es last R) (p : H'.Perm H) : TbN H' a most es last R := by
  obtain ⟨v, hs, o, q⟩ := h
  exact ⟨v, hs, o, p.trans q⟩
theorem TbN.tk {H R R' : HL} {a most : Nat} {es : List (TE NV)} {last : Int} {id : Nat} {o : AObj} (h : TbN H a most es last R) (k : Tk R id o R') : ∃ R2, Tk H id o R2 ∧ ∀ o', TbN ((id, o') :: R2) a most es last ((id, o') :: R') := by
  obtain ⟨v, hs, ow, q⟩ := h
  refine ⟨(a, .row (tblC most v last)) :: (hs ++ R'), ?_, fun o' => ?_⟩
  · refine q.trans ?_
    refine (List.Perm.cons _ (List.Perm.append_left _ k)).trans ?_
    exact (List.Perm.cons _ List.perm_middle).trans (List.Perm.swap _ _ _)
  · refine ⟨v, hs, ow, ?_⟩
    exact (List.Perm.swap _ _ _).trans (List.Perm.cons _ List.perm_middle.symm)
theorem TbN.ld {H R : HL} {a most : Nat} {es : List (TE NV)} {last : Int} {b : AA} {n : Nat} {l : List AV} (h : TbN H a most es last R) (k : Ld B R b n l) : Ld B H b n l := by
  obtain ⟨v, hs, ow, q⟩ := h
  exact Ld.perm q k.right.cons
theorem TbN.sl {H R : HL} {a most : Nat} {es : List (TE NV)} {last : Int} {w : AV} {n : Nat} {xs : List (List AV)} (h : TbN H a most es last R) (k : SlIs B R w n xs) : SlIs B H w n xs := by
  obtain ⟨v, hs, ow, q⟩ := h
  exact SlIs.perm q k.right.cons
theorem TbN.rd {H R : HL} {a most : Nat} {es : List (TE NV)} {last : Int} (h : TbN H a most es last R) :
    ∃ v, Ld B H ⟨false, a, 0⟩ 1 [.int .i64 (.ofNat most)] ∧ Ld B H ⟨false, a, 1⟩ 1 [v] ∧ Ld B H ⟨false, a, 2⟩ 1 [.int .u64 last] ∧ SrcIs B H v 7 es.length (es.map rowN).flatten ∧ SlIs B H v 7 (es.map rowN) := by
  obtain ⟨v, hs, ow, q⟩ := h
  exact ⟨v, Ld.perm q (Ld.own Tk.head rfl), Ld.perm q (Ld.own Tk.head rfl), Ld.perm q (Ld.own Tk.head rfl), SrcIs.perm q (SrcIs.left ow.src).cons, SlIs.perm q (SlIs.cons (SlIs.left (rows_slN ow)))⟩
/-- What else is there is forgotten. -/
theorem TbN.less {H R R1 : HL} {a most : Nat} {es : List (TE NV)} {last : Int} (h : TbN H a most es last R) (p : SubP R1 R) : ∃ H3, TbN H3 a most es last R1 ∧ SubP H3 H := by
  obtain ⟨v, hs, ow, q⟩ := h
  obtain ⟨G, pg⟩ := p
  refine ⟨(a, .row (tblC most v last)) :: (hs ++ R1), ⟨v, hs, ow, List.Perm.refl _⟩, G, ?_⟩
  refine q.trans ?_
  simp only [List.cons_append, List.append_assoc]
  exact List.Perm.cons _ (List.Perm.append_left _ pg)
theorem put45_at {H R : HL} {a most : Nat} {last : Int} {es : List (TE NV)} {e : TE NV} (hm : 1 ≤ most) (hn : es.length ≤ 1000) (so : Rise es) (hmk : e.mke = e.ix) (t : TbN H a most es last R) :
    WF B tab (.func 45) [.ptr ⟨false, a, 0⟩, .str e.key, .agg (valN e.v), .int .u64 e.ix] H fun r H' =>
      ((findE es e.key = none ∧ most ≤ es.length) ∧ r = .tup [.agg (rowN zeN), .int .i64 (.ofNat 5)] ∧ TbN H' a most es last R) ∨
      (¬ (findE es e.key = none ∧ most ≤ es.length) ∧ ∃ e', r = .tup [.agg (rowN e'), .int .i64 (.ofNat 0)] ∧ TbN H' a most (putE es e) (maxI last e.ix) R) := by
  obtain ⟨v, hs, ow, q⟩ := t
  refine WF.perm q (WF.mono (put45_ok hm ow hn so hmk) ?_)
  rintro r H' (⟨h1, h2, rfl⟩ | ⟨h1, e', v', hs', h2, o', rfl⟩)
  · exact .inl ⟨h1, h2, v, hs, ow, List.Perm.refl _⟩
  · exact .inr ⟨h1, e', h2, v', hs', o', List.Perm.refl _⟩
theorem raise25_at {H R : HL} {a most : Nat} {last ix : Int} {es : List (TE NV)} (hm : 1 ≤ most) (t : TbN H a most es last R) : WF B tab (.func 25) [.ptr ⟨false, a, 0⟩, .int .u64 ix] H fun r H' => TbN H' a most es (maxI last ix) R := by
  obtain ⟨v, hs, ow, q⟩ := t
  refine WF.perm q (WF.mono (raise25_ok hm) ?_)
  rintro r _ rfl
  exact ⟨v, hs, ow, List.Perm.refl _⟩
theorem at80_ok {H : HL} {c2 c3 a : Nat} {v : AV} {es : List (TE SV)} {key : List Nat} {m : Nat} (h2 : Ld B H ⟨false, c2, 0⟩ 1 [.ptr ⟨false, a, 0⟩]) (h3 : Ld B H ⟨false, c3, 0⟩ 1 [.str key]) (ha : Ld B H ⟨false, a, 1⟩ 1 [v])
    (hs : SlIs B H v 10 (es.map rowS)) (hm : m < es.length) :
    WF B tab (.func 80) [.int .i64 (.ofNat m), .ptr ⟨false, c2, 0⟩, .ptr ⟨false, c3, 0⟩] H fun r H' => H' = H ∧ ∃ b : Bool, r = .bool b ∧ (b = true ↔ ¬ strLess (es[m]).key key = true) := by
  have hc : (es.map rowS)[m]? = some (rowS es[m]) := by rw [List.getElem?_map, List.getElem?_eq_getElem hm]; rfl
  refine WF.fnR g80 rfl ?_
  repeat' (first
    | apply WOps.nil | apply WC.seq | apply WC.reg | apply WC.ret | apply WC.dreg | apply WD.nil | (apply WD.load; rfl; (apply at2; exact rd_ld0 rfl h2; exact same0)) | (apply WD.load; rfl; (apply at2; exact rd_ld0 rfl h3; exact same0)) | (apply WD.load; rfl; (apply at2; exact rd_ld0 rfl ha; exact same0)) | (apply WD.ixSl; rfl; rfl; rfl; exact hs; exact hc; intro ax hax) | (apply WD.load; rfl; (apply at2; exact rd_ld0 rfl (Ld.part (hax _ hs) 0 1 (by decide)); exact same0)) | (apply WOps.purG; rfl; (intro _; rfl)) | (apply WD.cmpT; rfl; rfl; rfl; rfl; intro _ _) | (apply WD.pur; rfl; (intro _; rfl)))
  refine ⟨trivial, List.Sublist.refl _, [_], ⟨_, [], rfl, rfl, rfl⟩, _, rfl, ?_⟩
  assumption

theorem at69_ok {H : HL} {a : Nat} {v : AV} {es : List (TE SV)} {key : List Nat} (ha : Ld B H ⟨false, a, 1⟩ 1 [v]) (hs : SlIs B H v 10 (es.map rowS)) (hn : es.length ≤ 4611686018427387903) (so : Sorted es) :
    WF B tab (.func 69) [.ptr ⟨false, a, 0⟩, .str key] H fun r H' => H' = H ∧ ∃ (k : Nat) (b : Bool), r = .tup [.int .i64 (.ofNat k), .bool b] ∧ isLeast (notBelow es key) es.length k ∧ (b = true ↔ ∃ h : k < es.length, es[k].key = key) := by
  refine WF.fnR g69 rfl ?_
  repeat' (first
    | apply WOps.nil | apply WC.seq | apply WC.reg | (apply WOps.ldG; rfl; rfl; (first | exact ld0 rfl | exact ld1 rfl | exact ld2 rfl); rfl) | (apply WOps.bx; rfl; rfl; (first | rfl | ((repeat' (first | exact ac0 | apply ac1)) <;> (first | rfl | assumption))); intro _) | (apply WOps.ldG; rfl; rfl; exact ha.cons.cons; rfl) | (apply WOps.lenS; rfl; rfl; exact hs.cons.cons) | (apply WOps.purG; rfl; (intro _; rfl)))
  rename_i c2 c3
  rw [List.length_map]
  have h2 : Ld B ((c3, .row (AV.str key).cells) :: (c2, .row (AV.ptr ⟨false, a, 0⟩).cells) :: H) ⟨false, c2, 0⟩ 1 [.ptr ⟨false, a, 0⟩] := Ld.own (Tk.tail Tk.head) rfl
  have h3 : Ld B ((c3, .row (AV.str key).cells) :: (c2, .row (AV.ptr ⟨false, a, 0⟩).cells) :: H) ⟨false, c3, 0⟩ 1 [.str key] := Ld.own Tk.head rfl
  have ha' : Ld B ((c3, .row (AV.str key).cells) :: (c2, .row (AV.ptr ⟨false, a, 0⟩).cells) :: H) ⟨false, a, 1⟩ 1 [v] := ha.cons.cons
  have hs' : SlIs B ((c3, .row (AV.str key).cells) :: (c2, .row (AV.ptr ⟨false, a, 0⟩).cells) :: H) v 10 (es.map rowS) := SlIs.cons (SlIs.cons hs)
  apply WOps.clR
  rfl
  rfl
  refine search74_ok es.length hn 80 _ (notBelow es key) (notBelow_mono so) fun m hm => WF.mono (at80_ok h2 h3 ha' hs' hm) ?_
  · rintro r _ ⟨rfl, b, rfl, hb⟩
    exact ⟨rfl, b, rfl, hb.trans ⟨fun h => ⟨hm, h⟩, fun ⟨_, h⟩ => h⟩⟩
  rintro _ ⟨k, rfl, hk⟩
  repeat' (first
    | apply WOps.nil | apply WC.seq | apply WC.ret | apply WC.dreg | apply WD.nil | (apply WD.load; rfl; (apply at2; exact rd_ld0 rfl h2; exact same0)) | (apply WD.load; rfl; (apply at2; exact rd_ld0 rfl ha'; exact same0)) | (apply WD.lenS; rfl; rfl; exact hs') | (apply WOps.purG; rfl; (intro _; rfl)) | (apply WD.cmp; rfl; rfl; rfl; rfl; intro _ _) | (apply WD.pur; rfl; (intro _; rfl)) | (apply WD.skp; rfl) | (apply WD.skpL; rfl) | (apply WD.ask; rfl; all_goals (intro hb; first | subst hb | fail_if_success (cases hb))))
  · have hlt : k < es.length := by
      have h0 := ‹true = true ↔ cmpP BinOp.lss (Int.ofNat k) (Int.ofNat (List.map rowS es).length)›
      rw [List.length_map] at h0
      simp [cmpP] at h0; omega
    have hc : (es.map rowS)[k]? = some (rowS es[k]) := by rw [List.getElem?_map, List.getElem?_eq_getElem hlt]; rfl
    repeat' (first
      | apply WC.ret | apply WD.nil | (apply WD.ixSl; rfl; rfl; rfl; exact hs'; exact hc; intro ax hax) | (apply WD.load; rfl; (apply at2; exact rd_ld0 rfl (Ld.part (hax _ hs') 0 1 (by decide)); exact same0)) | (apply WD.load; rfl; (apply at2; exact rd_ld0 rfl h3; exact same0)) | (apply WD.cmpT; rfl; rfl; rfl; rfl; intro _ _) | (apply WD.pur; rfl; (intro _; rfl)))
    rename_i b hb
    refine ⟨trivial, (List.sublist_cons_self _ _).trans (List.sublist_cons_self _ _), [_, _], ⟨_, _, rfl, rfl, _, _, rfl, rfl, rfl⟩, k, _, rfl, hk, ?_⟩
    simp only [cmpS] at hb
    rw [hb]
    exact ⟨fun h => ⟨hlt, h⟩, fun ⟨_, h⟩ => h⟩
  · have hge : ¬ k < es.length := by
      have h0 := ‹false = true ↔ cmpP BinOp.lss (Int.ofNat k) (Int.ofNat (List.map rowS es).length)›
      rw [List.length_map] at h0
      simp [cmpP] at h0; omega
    refine ⟨trivial, (List.sublist_cons_self _ _).trans (List.sublist_cons_self _ _), [_, _], ⟨_, _, rfl, rfl, _, _, rfl, rfl, rfl⟩, k, _, rfl, hk, ?_⟩
    simp [hge]
theorem none51_ok {H : HL} {a most : Nat} (h0 : Ld B H ⟨false, a, 0⟩ 1 [.int .i64 (.ofNat most)]) (hm : 1 ≤ most) : WF B tab (.func 51) [.ptr ⟨false, a, 0⟩] H fun r H' => H' = H ∧ r = .bool false := by
  refine WF.fnR g51 rfl ?_
  repeat' (first
    | apply WOps.nil | apply WC.seq | apply WC.reg | apply WC.ret | (apply WOps.ldG; rfl; rfl; exact h0; rfl) | (apply WOps.cmp; rfl; rfl; rfl; rfl; intro _ _) | (apply WOps.purG; rfl; (intro _; rfl)))
  rename_i b hb
  refine ⟨trivial, List.Sublist.refl _, [_], ⟨_, [], rfl, rfl, rfl⟩, ?_⟩
  have : b = false := by
    rw [Bool.eq_false_iff]
    intro h
    have := hb.1 h
    simp [cmpP] at this
    omega
  rw [this]
  rfl
set_option maxHeartbeats 1000000 in
theorem get70_ok {H : HL} {a most : Nat} {v : AV} {es : List (TE SV)} {key : List Nat} (h0 : Ld B H ⟨false, a, 0⟩ 1 [.int .i64 (.ofNat most)]) (hm : 1 ≤ most) (ha : Ld B H ⟨false, a, 1⟩ 1 [v]) (hs : SlIs B H v 10 (es.map rowS)) (hn : es.length ≤ 4611686018427387903) (so : Sorted es) :
    WF B tab (.func 70) [.ptr ⟨false, a, 0⟩, .str key] H fun r H' => H' = H ∧ ∃ k : Nat, isLeast (notBelow es key) es.length k ∧
      ((∃ h : k < es.length, es[k].key = key ∧ r = .tup [.agg (rowS es[k]), .bool true]) ∨ ((¬ ∃ h : k < es.length, es[k].key = key) ∧ r = .tup [.agg (rowS zeS), .bool false])) := by
  refine WF.fnR g70 rfl ?_
  repeat' (first
    | apply WOps.nil | apply WC.seq | apply WC.reg | apply WC.skip | apply WC.ret | (apply WC.condF; rfl) | (apply WOps.st; rfl; rfl; (first | exact tk0 | exact tk1 | exact tk2); rfl; (first | rfl | ((repeat' (first | exact ac0 | apply ac1)) <;> (first | rfl | assumption))); rfl) | (apply WOps.alc; rfl; intro _) | (apply WOps.clR; rfl; rfl; exact none51_ok h0.cons hm; rintro _ rfl) | (apply WOps.clR; rfl; rfl; exact at69_ok ha.cons (SlIs.cons hs) hn so; rintro _ ⟨k, b, rfl, hk, hkb⟩) | (apply WOps.ldG; rfl; rfl; exact ha.cons; rfl) | (apply WOps.purG; rfl; (intro _; rfl)) | (apply WC.condA; rfl; all_goals (intro hb; try subst hb)))
  · refine ⟨trivial, List.sublist_cons_self _ _, [_, _], ⟨_, _, rfl, ⟨_, _, rfl, Ld.own Tk.head rfl, rfl⟩, _, _, rfl, rfl, rfl⟩, k, hk, .inr ⟨?_, rfl⟩⟩
    intro h
    simp [hkb.2 h] at hb
  · have hbt : b = true := by simpa using hb
    obtain ⟨hlt, hkey⟩ := hkb.1 hbt
    have hc : (es.map rowS)[k]? = some (rowS es[k]) := by rw [List.getElem?_map, List.getElem?_eq_getElem hlt]; rfl
    have htg := es[k].v.tg.c
    repeat' (first
      | apply WOps.nil | apply WC.ret | (apply WOps.st; rfl; rfl; (first | exact tk0 | exact tk1 | exact tk2); rfl; (first | rfl | ((repeat' (first | exact ac0 | apply ac1)) <;> (first | rfl | assumption))); rfl) | (apply WOps.ixSl; rfl; rfl; rfl; exact SlIs.cons hs; exact hc; intro ax hax) | (apply WOps.ldG; rfl; rfl; exact hax; rfl) | (apply WOps.purG; rfl; (intro _; rfl)))
    exact ⟨trivial, List.sublist_cons_self _ _, [_, _], ⟨_, _, rfl, ⟨_, _, rfl, Ld.own Tk.head rfl, rfl⟩, _, _, rfl, rfl, rfl⟩, k, hk, .inl ⟨hlt, hkey, rfl⟩⟩
theorem new43_ok {H : HL} (m : Int) : WF B tab (.func 43) [.int .i64 m] H fun r H' => ∃ a, r = .ptr ⟨false, a, 0⟩ ∧ H' = (a, .row [.int .i64 (.ofNat (mostOf m)), .nilsl, .int .u64 (.ofNat 0)]) :: H := by
  refine WF.fn g43 rfl ?_
  repeat' (first
    | apply WOps.nil | apply WC.seq | apply WC.reg | apply WC.ret | (apply WOps.bx; rfl; rfl; (first | rfl | ((repeat' (first | exact ac0 | apply ac1)) <;> (first | rfl | assumption))); intro _) | (apply WOps.purG; rfl; (intro _; rfl)))
  refine ⟨trivial, [_], ⟨_, [], rfl, rfl, rfl⟩, _, rfl, ?_⟩
  have : (if Int.ofNat 64 < if Int.ofNat 1 > m then Int.ofNat 1 else m then Int.ofNat 64 else if Int.ofNat 1 > m then Int.ofNat 1 else m) = Int.ofNat (mostOf m) := by
    unfold mostOf
    simp only [Int.ofNat_eq_natCast, gt_iff_lt]
    split <;> split <;> (try split) <;> (try split) <;> omega
  rw [this]
  rfl
theorem raise26_ok {H : HL} {a most : Nat} {v : AV} {last ix : Int} (hm : 1 ≤ most) : WF B tab (.func 26) [.ptr ⟨false, a, 0⟩, .int .u64 ix] ((a, .row [.int .i64 (.ofNat most), v, .int .u64 last]) :: H) fun r H' => H' = (a, .row [.int .i64 (.ofNat most), v, .int .u64 (maxI last ix)]) :: H := by
  refine WF.fn g26 rfl ?_
  repeat' (first
    | apply WOps.nil | apply WC.seq | apply WC.reg | (apply WC.condT; rfl) | (apply WOps.ldG; rfl; rfl; (first | exact ld0 rfl | exact ld1 rfl | exact ld2 rfl); rfl) | (apply WOps.st; rfl; rfl; (first | exact tk0 | exact tk1 | exact tk2); rfl; (first | rfl | ((repeat' (first | exact ac0 | apply ac1)) <;> (first | rfl | assumption))); rfl) | (apply WOps.clR; rfl; rfl; exact none51_ok (Ld.own Tk.head rfl) hm; rintro _ rfl) | (apply WOps.purG; rfl; (intro _; rfl)))
  exact ⟨trivial, [], rfl, rfl⟩
/-- The last index of a table. -/
theorem last60_ok {H : HL} {a most : Nat} {last : Int} (h0 : Ld B H ⟨false, a, 0⟩ 1 [.int .i64 (.ofNat most)]) (hm : 1 ≤ most) (h2 : Ld B H ⟨false, a, 2⟩ 1 [.int .u64 last]) : WF B tab (.func 60) [.ptr ⟨false, a, 0⟩] H fun r H' => H' = H ∧ r = .int .u64 last := by
  refine WF.fnR g60 rfl ?_
  repeat' (first
    | apply WOps.nil | apply WC.seq | apply WC.reg | apply WC.skip | apply WC.ret | (apply WC.condF; rfl) | (apply WOps.clR; rfl; rfl; exact none51_ok h0 hm; rintro _ rfl) | (apply WOps.ldG; rfl; rfl; exact h2; rfl) | (apply WOps.purG; rfl; (intro _; rfl)))
  exact ⟨trivial, List.Sublist.refl _, [_], ⟨_, [], rfl, rfl, rfl⟩, rfl⟩
theorem rowS_len {e : TE SV} : (rowS e).length = 10 := rfl
theorem rows_lenS : ∀ (es : List (TE SV)), (es.map rowS).flatten.length = es.length * 10 := by
  intro es
  induction es with
  | nil => rfl
  | cons e es ih => rw [List.map_cons, List.flatten_cons, List.length_append, ih, rowS_len, List.length_cons]; omega
theorem rows_cellS : ∀ (es : List (TE SV)), allCell (es.map rowS).flatten = true := by
  intro es
  rw [allCell_iff]
  intro v hv
  simp only [List.mem_flatten, List.mem_map] at hv
  obtain ⟨_, ⟨e, _, rfl⟩, hv⟩ := hv
  exact (allCell_iff _).1 (acRS e) v hv
/-- All rows, told. -/
theorem list63_ok {H : HL} {a most : Nat} {v : AV} {es : List (TE SV)} (h0 : Ld B H ⟨false, a, 0⟩ 1 [.int .i64 (.ofNat most)]) (hm : 1 ≤ most) (h1 : Ld B H ⟨false, a, 1⟩ 1 [v]) (o : SrcIs B H v 10 es.length (es.map rowS).flatten) (hn : es.length ≤ 1000) :
    WF B tab (.func 63) [.ptr ⟨false, a, 0⟩] H fun r H' => ∃ h', OwnSl r (es.map rowS).flatten es.length 10 h' ∧ H' = h' ++ H := by
  refine WF.fn g63 rfl ?_
  repeat' (first
    | apply WOps.nil | apply WC.seq | apply WC.reg | apply WC.skip | (apply WC.condF; rfl) | (apply WOps.bsl; rfl; (first | rfl | ((repeat' (first | exact ac0 | apply ac1)) <;> (first | rfl | assumption))); intro _) | (apply WOps.clR; rfl; rfl; exact none51_ok h0 hm; rintro _ rfl) | (apply WOps.ldG; rfl; rfl; exact h1.cons; rfl) | (apply WOps.purG; rfl; (intro _; rfl)))
  rename_i id
  refine WOps.app (h := [(id, .row [])]) (cells := []) (n := 0) rfl rfl rfl (.inr ⟨id, rfl, rfl, rfl⟩) (List.Perm.refl _) (src_cons o) rfl (rows_cellS es) (rows_lenS es) (by omega) ?_
  intro v' h' o'
  repeat' (first
    | apply WOps.nil | apply WC.ret | (apply WOps.purG; rfl; (intro _; rfl)))
  refine ⟨trivial, [_], ⟨_, [], rfl, rfl, rfl⟩, h', ?_, rfl⟩
  have o2 : OwnSl v' (es.map rowS).flatten es.length 10 h' := by simpa using o'
  exact o2
theorem rows_slS {v : AV} {es : List (TE SV)} {h : HL} (o : OwnSl v (es.map rowS).flatten es.length 10 h) : SlIs B h v 10 (es.map rowS) := by
  have o2 : OwnSl v (es.map rowS).flatten (es.map rowS).length 10 h := by simpa using o
  exact OwnSl.sl o2 (by intro c hc; simp only [List.mem_map] at hc; obtain ⟨e, _, rfl⟩ := hc; rfl)
theorem rows_takeS : ∀ {es : List (TE SV)} {k : Nat}, (es.map rowS).flatten.take (k * 10) = ((es.take k).map rowS).flatten := by
  intro es
  induction es with
  | nil => intro k; simp
  | cons x es ih =>
    intro k
    cases k with
    | zero => simp
    | succ k =>
      simp only [List.map_cons, List.flatten_cons, List.take_succ_cons]
      rw [List.take_append, rowS_len, List.take_of_length_le (by rw [rowS_len]; omega), show (k + 1) * 10 - 10 = k * 10 by omega, ih]
theorem rows_dropS : ∀ {es : List (TE SV)} {k : Nat}, (es.map rowS).flatten.drop (k * 10) = ((es.drop k).map rowS).flatten := by
  intro es
  induction es with
  | nil => intro k; simp
  | cons x es ih =>
    intro k
    cases k with
    | zero => simp
    | succ k =>
      simp only [List.map_cons, List.flatten_cons, List.drop_succ_cons]
      rw [List.drop_append, rowS_len, List.drop_eq_nil_of_le (by rw [rowS_len]; omega), show (k + 1) * 10 - 10 = k * 10 by omega, ih, List.nil_append]
theorem raise26_tk {H R : HL} {a most : Nat} {v : AV} {last ix : Int} (hm : 1 ≤ most) (tk : Tk H a (.row (tblC most v last)) R) : WF B tab (.func 26) [.ptr ⟨false, a, 0⟩, .int .u64 ix] H fun r H' => H' = (a, .row (tblC most v (maxI last ix))) :: R :=
  WF.perm tk (raise26_ok hm)
theorem flat_putS {A Cs : List (TE SV)} {z : List AV} {e : TE SV} (hz : z.length = 10) :
    let ds := (A.map rowS).flatten ++ (z ++ (Cs.map rowS).flatten)
    ds.take (A.length * 10) ++ (rowS e ++ ds.drop (A.length * 10 + 10)) = ((A ++ e :: Cs).map rowS).flatten := by
  have hl := rows_lenS A
  simp only
  rw [← hl, List.take_left, List.drop_append, List.drop_eq_nil_of_le (by omega), List.nil_append, Nat.add_sub_cancel_left, ← hz, List.drop_left]
  simp
theorem copy_rowsS {es : List (TE SV)} {k : Nat} {zz : List AV} (hk : k ≤ es.length) (hz : zz.length = 10) :
    ∃ z : List AV, z.length = 10 ∧ 
    ((es.map rowS).flatten ++ zz).take (0 + (k + 1) * 10) ++ ((((es.map rowS).flatten ++ zz).drop (k * 10)).take (min (es.length + 1 - k) (es.length + 1 - (k + 1)) * 10) ++ ((es.map rowS).flatten ++ zz).drop (0 + (k + 1) * 10 + min (es.length + 1 - k) (es.length + 1 - (k + 1)) * 10)) =
      ((es.take k).map rowS).flatten ++ (z ++ ((es.drop k).map rowS).flatten) := by
  have hA : ((es.take k).map rowS).flatten.length = k * 10 := by rw [rows_lenS, List.length_take]; omega
  have hC : ((es.drop k).map rowS).flatten.length = (es.length - k) * 10 := by rw [rows_lenS, List.length_drop]
  have he : (es.map rowS).flatten = ((es.take k).map rowS).flatten ++ ((es.drop k).map rowS).flatten := by
    rw [← List.flatten_append, ← List.map_append, List.take_append_drop]
  have hmin : min (es.length + 1 - k) (es.length + 1 - (k + 1)) = es.length - k := by omega
  rw [he, hmin]
  generalize ((es.take k).map rowS).flatten = Ar at *
  generalize ((es.drop k).map rowS).flatten = Cr at *
  refine ⟨(Cr ++ zz).take 10, by rw [List.length_take, List.length_append]; omega, ?_⟩
  have e1 : List.take (0 + (k + 1) * 10) (Ar ++ Cr ++ zz) = Ar ++ (Cr ++ zz).take 10 := by
    rw [List.append_assoc, List.take_append, List.take_of_length_le (by omega), hA]
    congr 2; omega
  have e2 : List.take ((es.length - k) * 10) (List.drop (k * 10) (Ar ++ Cr ++ zz)) = Cr := by
    rw [List.append_assoc, ← hA, List.drop_left, ← hC, List.take_left]
  have e3 : List.drop (0 + (k + 1) * 10 + (es.length - k) * 10) (Ar ++ Cr ++ zz) = [] := by
    rw [List.drop_eq_nil_iff, List.length_append, List.length_append]; omega
  rw [e1, e2, e3, List.append_nil, List.append_assoc]
theorem put_rowS {es : List (TE SV)} {k : Nat} {z vs : List AV} {e : TE SV} {A Cs : List (TE SV)} (hA : A.length = k) (hz : z.length = 10) (hv : vs = rowS e) :
    putN ((A.map rowS).flatten ++ (z ++ (Cs.map rowS).flatten)) (0 + k * 10) vs = some ((A ++ e :: Cs).map rowS).flatten := by
  subst hv hA
  have hl := rows_lenS A
  rw [putN_of (by rw [List.length_append, List.length_append, rowS_len, hz]; omega), Nat.zero_add, rowS_len]
  exact congrArg some (flat_putS hz)
set_option maxHeartbeats 4000000 in
theorem put47_ok {hs R : HL} {a most : Nat} {v : AV} {last : Int} {es : List (TE SV)} {e : TE SV} (hm : 1 ≤ most) (o : OwnSl v (es.map rowS).flatten es.length 10 hs) (hn : es.length ≤ 1000) (so : Rise es) (hmk : e.mke = e.ix) :
    WF B tab (.func 47) [.ptr ⟨false, a, 0⟩, .str e.key, .agg (valS e.v), .int .u64 e.ix] ((a, .row (tblC most v last)) :: (hs ++ R)) fun r H' =>
      ((findE es e.key = none ∧ most ≤ es.length) ∧ r = .tup [.agg (rowS zeS), .int .i64 (.ofNat 5)] ∧ H' = (a, .row (tblC most v last)) :: (hs ++ R)) ∨
      (¬ (findE es e.key = none ∧ most ≤ es.length) ∧ ∃ e' v' hs', r = .tup [.agg (rowS e'), .int .i64 (.ofNat 0)] ∧ OwnSl v' ((putE es e).map rowS).flatten (putE es e).length 10 hs' ∧ H' = (a, .row (tblC most v' (maxI last e.ix))) :: (hs' ++ R)) := by
  refine WF.lessP ?_
  refine WF.fn g47 rfl ?_
  have htg := e.v.tg.c
  have hsl : ∀ {H : HL}, SlIs B (H ++ (hs ++ R)) v 10 (es.map rowS) := SlIs.right (SlIs.left (rows_slS o))
  repeat' (first
    | apply WOps.nil | apply WC.seq | apply WC.reg | apply WC.skip | apply WC.ret | (apply WC.condT; rfl) | (apply WC.condF; rfl) | apply WC.dreg | apply WD.nil | (apply WOps.ldG; rfl; rfl; (first | exact ld0 rfl | exact ld1 rfl | exact ld2 rfl); rfl) | (apply WOps.st; rfl; rfl; (first | exact tk0 | exact tk1 | exact tk2); rfl; (first | rfl | ((repeat' (first | exact ac0 | apply ac1)) <;> (first | rfl | assumption))); rfl) | (apply WOps.alc; rfl; intro _) | (apply WOps.bx; rfl; rfl; (first | rfl | ((repeat' (first | exact ac0 | apply ac1)) <;> (first | rfl | assumption))); intro _) | (apply WOps.bsl; rfl; (first | rfl | ((repeat' (first | exact ac0 | apply ac1)) <;> (first | rfl | assumption))); intro _) | (apply WOps.clR; rfl; rfl; exact none51_ok (most := most) (Ld.own (Tk.tail (Tk.tail Tk.head)) rfl) hm; rintro _ rfl) | (apply WOps.clR; rfl; rfl; exact at69_ok (v := v) (Ld.own (Tk.tail (Tk.tail Tk.head)) rfl) (hsl (H := [_, _, _])) (by omega) (sorted_of so); rintro _ ⟨k, b, rfl, hk, hkb⟩; cases b) | (apply WD.lenO; rfl; rfl; exact o) | (apply WOps.ldG; rfl; rfl; exact Ld.own (Tk.tail (Tk.tail (Tk.tail Tk.head))) rfl; rfl) | (apply WOps.purG; rfl; (intro _; rfl)) | (apply WD.load; rfl; (first | (apply at1; (first | exact rd0 rfl rfl rfl | exact rd1 rfl rfl rfl | exact rd2 rfl rfl rfl); rfl) | (apply at2; (first | exact rd0 rfl rfl rfl | exact rd1 rfl rfl rfl | exact rd2 rfl rfl rfl); repeat' (first | exact same0 | (apply same1; (first | exact rd0 rfl rfl rfl | exact rd1 rfl rfl rfl | exact rd2 rfl rfl rfl); rfl) | (apply same2; (first | exact rd0 rfl rfl rfl | exact rd1 rfl rfl rfl | exact rd2 rfl rfl rfl)))))) | (apply WD.cmp; rfl; rfl; rfl; rfl; intro _ _) | (apply WD.pur; rfl; (intro _; rfl)) | (apply WD.skp; rfl) | (apply WD.skpL; rfl) | (apply WC.condA; rfl; all_goals (intro hb; try subst hb)))
  · have hge := ‹true = true ↔ cmpP BinOp.geq (Int.ofNat es.length) (Int.ofNat most)›
    simp only [cmpP, true_iff, Int.ofNat_eq_natCast] at hge
    rcases find_at (sorted_of so) hk with ⟨h1, h2, h3⟩ | ⟨h1, h2⟩
    · exact absurd (hkb.2 ⟨h1, h2⟩) (by simp)
    · exact ⟨trivial, [_, _], ⟨_, _, rfl, ⟨_, _, rfl, Ld.own Tk.head rfl, rfl⟩, _, _, rfl, rfl, rfl⟩, _, .inl ⟨⟨h2, by omega⟩, rfl, rfl⟩, subF (by intro f; simp only [AV.cells, List.append_eq, List.map_cons, List.map_nil, List.sum_nil, List.map_append, List.sum_cons, List.sum_append, List.cons_append, List.nil_append, List.append_assoc, List.append_nil]; omega)⟩
  · have hge := ‹false = true ↔ cmpP BinOp.geq (Int.ofNat es.length) (Int.ofNat most)›
    simp only [cmpP, Bool.false_eq_true, false_iff, Int.ofNat_eq_natCast] at hge
    rename_i p6 p8 _ p12 q
    have hno : ¬ ∃ h : k < es.length, es[k].key = e.key := fun h => absurd (hkb.2 h) (by simp)
    have hk1 := hk.1
    refine WOps.app (n := es.length) rfl rfl rfl o (List.perm_append_comm_assoc [_, _, _, _, _] hs R) (src_one Tk.head rfl) (rows_cellS _) rfl rfl (by omega) ?_
    intro v2 h2 o2
    rcases o2 with ⟨_, hz, _⟩ | ⟨id2, rfl, rfl, hl2⟩
    · omega
    simp only [List.cons_append, List.nil_append]
    repeat' (first
      | apply WOps.nil | apply WC.seq | apply WC.dreg | (apply WOps.st; rfl; rfl; exact Tk.tail (Tk.tail (Tk.tail (Tk.tail (Tk.tail Tk.head)))); rfl; (first | rfl | ((repeat' (first | exact ac0 | apply ac1)) <;> (first | rfl | assumption))); rfl) | (apply WD.addN; rfl; rfl; rfl; omega) | (apply WD.slLo; rfl; rfl; rfl; omega) | (apply WOps.purG; rfl; (intro _; rfl)) | (apply WD.load; rfl; (first | (apply at1; (first | exact rd0 rfl rfl rfl | exact rd1 rfl rfl rfl | exact rd2 rfl rfl rfl); rfl) | (apply at2; (first | exact rd0 rfl rfl rfl | exact rd1 rfl rfl rfl | exact rd2 rfl rfl rfl); repeat' (first | exact same0 | (apply same1; (first | exact rd0 rfl rfl rfl | exact rd1 rfl rfl rfl | exact rd2 rfl rfl rfl); rfl) | (apply same2; (first | exact rd0 rfl rfl rfl | exact rd1 rfl rfl rfl | exact rd2 rfl rfl rfl)))))) | (apply WD.pur; rfl; (intro _; rfl)))
    have hlen : ((es.map rowS).flatten ++ rowS zeS).length = (es.length + 1) * 10 := hl2
    refine WD.cpy (sn := es.length + 1 - k) (off := 0 + (k + 1) * 10) (cs := ((es.map rowS).flatten ++ rowS zeS).drop (k * 10)) rfl rfl rfl (Tk.tail Tk.head) (.inr ⟨_, rfl, .inr (Ld.own (Tk.tail Tk.head) ?_)⟩) ?_ ?_ ?_
    · show takeN (List.drop (0 + k * 10) ((es.map rowS).flatten ++ rowS zeS)) _ = _
      rw [Nat.zero_add, takeN_of (by rw [List.length_drop, hlen]; omega), List.take_of_length_le (by rw [List.length_drop, hlen]; omega)]
    · rw [List.length_drop, hlen]; omega
    · rw [hl2]; omega
    obtain ⟨z, hz, hX⟩ := copy_rowsS (es := es) (k := k) (zz := rowS zeS) hk1 rfl
    refine WD.heq (H' := (id2, .row (((es.take k).map rowS).flatten ++ (z ++ ((es.drop k).map rowS).flatten))) :: _) (by rw [← hX]; rfl) ?_
    have hput : putE es e = es.take k ++ e :: es.drop k := by
      rcases put_at (sorted_of so) hk with ⟨h1, h2, h3⟩ | ⟨h1, h2⟩
      · exact absurd ⟨h1, h2⟩ hno
      · exact h2
    have hf : findE es e.key = none := by
      rcases find_at (sorted_of so) hk with ⟨h1, h2, h3⟩ | ⟨h1, h2⟩
      · exact absurd ⟨h1, h2⟩ hno
      · exact h2
    repeat' (first
      | apply WC.dreg | apply WD.nil | (apply WD.load; rfl; (apply at2; exact rd_ld rfl (Ld.own (Tk.tail (Tk.tail (Tk.tail Tk.head))) rfl) rfl; exact same0)) | (apply WD.ixO; rfl; rfl; rfl; omega) | (apply WD.load; rfl; (first | (apply at1; (first | exact rd0 rfl rfl rfl | exact rd1 rfl rfl rfl | exact rd2 rfl rfl rfl); rfl) | (apply at2; (first | exact rd0 rfl rfl rfl | exact rd1 rfl rfl rfl | exact rd2 rfl rfl rfl); repeat' (first | exact same0 | (apply same1; (first | exact rd0 rfl rfl rfl | exact rd1 rfl rfl rfl | exact rd2 rfl rfl rfl); rfl) | (apply same2; (first | exact rd0 rfl rfl rfl | exact rd1 rfl rfl rfl | exact rd2 rfl rfl rfl)))))) | (apply WD.pur; rfl; (intro _; rfl)))
    have hrow : rowS e = [.str e.key, .int .i64 e.v.node, .str e.v.id, .str e.v.name, e.v.tg.a, .int .i64 e.v.port, .int .u64 e.v.jm, .int .u64 e.v.ji, .int .u64 e.ix, .int .u64 e.ix] := by simp [rowS, hmk]
    refine WD.st rfl rfl rfl Tk.head rfl (by rw [← hrow]; exact acRS e) (put_rowS (es := es) (e := e) (by rw [List.length_take]; omega) hz hrow.symm) ?_
    repeat' (first
      | apply WOps.nil | apply WC.seq | apply WC.reg | apply WC.ret | apply WD.nil | (apply WOps.clA; rfl; rfl; exact raise26_tk hm (Tk.tail Tk.head); rintro _ _ rfl) | (apply WOps.ldG; rfl; rfl; exact Ld.own (Tk.tail (Tk.tail (Tk.tail Tk.head))) rfl; rfl) | (apply WOps.st; rfl; rfl; exact (Tk.tail (Tk.tail (Tk.tail (Tk.tail Tk.head)))); rfl; (first | rfl | ((repeat' (first | exact ac0 | apply ac1)) <;> (first | rfl | assumption))); rfl) | (apply WOps.purG; rfl; (intro _; rfl)))
    refine ⟨trivial, [_, _], ⟨_, _, rfl, ⟨_, _, rfl, Ld.own Tk.head rfl, rfl⟩, _, _, rfl, rfl, rfl⟩, _, .inr ⟨fun h => hge (by omega), e, _, [(id2, _)], ?_, .inr ⟨id2, rfl, rfl, rows_lenS _⟩, rfl⟩, ?_⟩
    · rw [hrow]; rfl
    · have hln : (putE es e).length = es.length + 1 := by
        rw [hput, List.length_append, List.length_cons, List.length_take, List.length_drop]; omega
      rw [hln, hput]
      exact subF (by intro f; simp only [AV.cells, List.append_eq, List.map_cons, List.map_nil, List.sum_nil, List.map_append, List.sum_cons, List.sum_append, List.cons_append, List.nil_append, List.append_assoc, List.append_nil]; omega)
  · rename_i p6 p8 p12
    obtain ⟨hlt, hkey⟩ := hkb.1 rfl
    rcases o with ⟨_, hz, _⟩ | ⟨id2, rfl, rfl, hl2⟩
    · omega
    have hcm : (es.map rowS)[k]? = some (rowS es[k]) := by rw [List.getElem?_map, List.getElem?_eq_getElem hlt]; rfl
    have hput : putE es e = es.take k ++ { e with mke := es[k].mke } :: es.drop (k + 1) := by
      rcases put_at (sorted_of so) hk with ⟨h1, h2, h3⟩ | ⟨h1, h2⟩
      · exact h3
      · exact absurd ⟨hlt, hkey⟩ h1
    have hf : findE es e.key = some es[k] := by
      rcases find_at (sorted_of so) hk with ⟨h1, h2, h3⟩ | ⟨h1, h2⟩
      · exact h3
      · exact absurd ⟨hlt, hkey⟩ h1
    have hrows : (es.map rowS).flatten = ((es.take k).map rowS).flatten ++ (rowS es[k] ++ ((es.drop (k + 1)).map rowS).flatten) := by
      have h1 : (es.map rowS).flatten = ((es.take k).map rowS).flatten ++ ((es.drop k).map rowS).flatten := by
        rw [← List.flatten_append, ← List.map_append, List.take_append_drop]
      rw [h1, List.drop_eq_getElem_cons hlt, List.map_cons, List.flatten_cons]
    repeat' (first
      | apply WOps.nil | apply WC.dreg | (apply WOps.st; rfl; rfl; (first | exact tk0 | exact tk1 | exact tk2); rfl; (first | rfl | ((repeat' (first | exact ac0 | apply ac1)) <;> (first | rfl | assumption))); rfl) | (apply WOps.ixSl; rfl; rfl; rfl; exact hsl (H := [_, _, _, _]); exact hcm; intro ax hax) | (apply WOps.ldG; rfl; rfl; exact Ld.part hax 8 1 (by decide); rfl) | (apply WD.load; rfl; (apply at2; exact rd_ld rfl (Ld.own (Tk.tail (Tk.tail (Tk.tail Tk.head))) rfl) rfl; exact same0)) | (apply WD.ixO; rfl; rfl; rfl; omega) | (apply WOps.purG; rfl; (intro _; rfl)) | (apply WD.load; rfl; (first | (apply at1; (first | exact rd0 rfl rfl rfl | exact rd1 rfl rfl rfl | exact rd2 rfl rfl rfl); rfl) | (apply at2; (first | exact rd0 rfl rfl rfl | exact rd1 rfl rfl rfl | exact rd2 rfl rfl rfl); repeat' (first | exact same0 | (apply same1; (first | exact rd0 rfl rfl rfl | exact rd1 rfl rfl rfl | exact rd2 rfl rfl rfl); rfl) | (apply same2; (first | exact rd0 rfl rfl rfl | exact rd1 rfl rfl rfl | exact rd2 rfl rfl rfl)))))) | (apply WD.pur; rfl; (intro _; rfl)))
    refine WD.st rfl rfl rfl (Tk.tail (Tk.tail (Tk.tail (Tk.tail Tk.head)))) rfl (acRS { e with mke := es[k].mke }) ((congrArg (fun x => putN x _ _) hrows).trans (put_rowS (es := es) (e := { e with mke := es[k].mke }) (by rw [List.length_take]; omega) rfl rfl)) ?_
    repeat' (first
      | apply WOps.nil | apply WC.seq | apply WC.reg | apply WC.ret | apply WD.nil | (apply WOps.ldG; rfl; rfl; (first | exact ld0 rfl | exact ld1 rfl | exact ld2 rfl); rfl) | (apply WOps.clA; rfl; rfl; exact raise26_tk hm (Tk.tail (Tk.tail (Tk.tail (Tk.tail Tk.head)))); rintro _ _ rfl) | (apply WOps.st; rfl; rfl; exact (Tk.tail (Tk.tail (Tk.tail Tk.head))); rfl; (first | rfl | ((repeat' (first | exact ac0 | apply ac1)) <;> (first | rfl | assumption))); rfl) | (apply WOps.purG; rfl; (intro _; rfl)))
    refine ⟨trivial, [_, _], ⟨_, _, rfl, ⟨_, _, rfl, Ld.own Tk.head rfl, rfl⟩, _, _, rfl, rfl, rfl⟩, _, .inr ⟨fun h => (by rw [hf] at h; cases h.1), { e with mke := es[k].mke }, _, [(id2, _)], rfl, .inr ⟨id2, rfl, rfl, rows_lenS _⟩, rfl⟩, ?_⟩
    have hln : (putE es e).length = es.length := by
      rw [hput, List.length_append, List.length_cons, List.length_take, List.length_drop]; omega
    rw [hln, hput]
    exact subF (by intro f; simp only [AV.cells, List.append_eq, List.map_cons, List.map_nil, List.sum_nil, List.map_append, List.sum_cons, List.sum_append, List.cons_append, List.nil_append, List.append_assoc, List.append_nil]; omega)
/-- A table stands in the heap, beside R. -/
def TbS (H : HL) (a most : Nat) (es : List (TE SV)) (last : Int) (R : HL) : Prop := ∃ v hs, OwnSl v (es.map rowS).flatten es.length 10 hs ∧ H.Perm ((a, .row (tblC most v last)) :: (hs ++ R))
theorem TbS.cons {H R : HL} {a most : Nat} {es : List (TE SV)} {last : Int} {x : Nat × AObj} (h : TbS H a most es last R) : TbS (x :: H) a most es last (x :: R) := by
  obtain ⟨v, hs, o, p⟩ := h
  refine ⟨v, hs, o, ?_⟩
  exact (List.Perm.cons _ p).trans ((List.Perm.swap _ _ _).trans (List.Perm.cons _ List.perm_middle.symm))
theorem TbS.permR {H R R' : HL} {a most : Nat} {es : List (TE SV)} {last : Int} (h : TbS H a most es last R) (p : R.Perm R') : TbS H a most es last R' := by
  obtain ⟨v, hs, o, q⟩ := h
  exact ⟨v, hs, o, q.trans (List.Perm.cons _ (List.Perm.append_left _ p))⟩
theorem TbS.perm {H H' R : HL} {a most : Nat} {es : List (TE SV)} {last : Int} (h : TbS H a most es last R) (p : H'.Perm H) : TbS H' a most es last R := by
  obtain ⟨v, hs, o, q⟩ := h
  exact ⟨v, hs, o, p.trans q⟩
theorem TbS.tk {H R R' : HL} {a most : Nat} {es : List (TE SV)} {last : Int} {id : Nat} {o : AObj} (h : TbS H a most es last R) (k : Tk R id o R') : ∃ R2, Tk H id o R2 ∧ ∀ o', TbS ((id, o') :: R2) a most es last ((id, o') :: R') := by
  obtain ⟨v, hs, ow, q⟩ := h
  refine ⟨(a, .row (tblC most v last)) :: (hs ++ R'), ?_, fun o' => ?_⟩
  · refine q.trans ?_
    refine (List.Perm.cons _ (List.Perm.append_left _ k)).trans ?_
    exact (List.Perm.cons _ List.perm_middle).trans (List.Perm.swap _ _ _)
  · refine ⟨v, hs, ow, ?_⟩
    exact (List.Perm.swap _ _ _).trans (List.Perm.cons _ List.perm_middle.symm)
theorem TbS.ld {H R : HL} {a most : Nat} {es : List (TE SV)} {last : Int} {b : AA} {n : Nat} {l : List AV} (h : TbS H a most es last R) (k : Ld B R b n l) : Ld B H b n l := by
  obtain ⟨v, hs, ow, q⟩ := h
  exact Ld.perm q k.right.cons
theorem TbS.sl {H R : HL} {a most : Nat} {es : List (TE SV)} {last : Int} {w : AV} {n : Nat} {xs : List (List AV)} (h : TbS H a most es last R) (k : SlIs B R w n xs) : SlIs B H w n xs := by
  obtain ⟨v, hs, ow, q⟩ := h
  exact SlIs.perm q k.right.cons
theorem TbS.rd {H R : HL} {a most : Nat} {es : List (TE SV)} {last : Int} (h : TbS H a most es last R) :
    ∃ v, Ld B H ⟨false, a, 0⟩ 1 [.int .i64 (.ofNat most)] ∧ Ld B H ⟨false, a, 1⟩ 1 [v] ∧ Ld B H ⟨false, a, 2⟩ 1 [.int .u64 last] ∧ SrcIs B H v 10 es.length (es.map rowS).flatten ∧ SlIs B H v 10 (es.map rowS) := by
  obtain ⟨v, hs, ow, q⟩ := h
  exact ⟨v, Ld.perm q (Ld.own Tk.head rfl), Ld.perm q (Ld.own Tk.head rfl), Ld.perm q (Ld.own Tk.head rfl), SrcIs.perm q (SrcIs.left ow.src).cons, SlIs.perm q (SlIs.cons (SlIs.left (rows_slS ow)))⟩
/-- What else is there is forgotten. -/
theorem TbS.less {H R R1 : HL} {a most : Nat} {es : List (TE SV)} {last : Int} (h : TbS H a most es last R) (p : SubP R1 R) : ∃ H3, TbS H3 a most es last R1 ∧ SubP H3 H := by
  obtain ⟨v, hs, ow, q⟩ := h
  obtain ⟨G, pg⟩ := p
  refine ⟨(a, .row (tblC most v last)) :: (hs ++ R1), ⟨v, hs, ow, List.Perm.refl _⟩, G, ?_⟩
  refine q.trans ?_
  simp only [List.cons_append, List.append_assoc]
  exact List.Perm.cons _ (List.Perm.append_left _ pg)
theorem put47_at {H R : HL} {a most : Nat} {last : Int} {es : List (TE SV)} {e : TE SV} (hm : 1 ≤ most) (hn : es.length ≤ 1000) (so : Rise es) (hmk : e.mke = e.ix) (t : TbS H a most es last R) :
    WF B tab (.func 47) [.ptr ⟨false, a, 0⟩, .str e.key, .agg (valS e.v), .int .u64 e.ix] H fun r H' =>
      ((findE es e.key = none ∧ most ≤ es.length) ∧ r = .tup [.agg (rowS zeS), .int .i64 (.ofNat 5)] ∧ TbS H' a most es last R) ∨
      (¬ (findE es e.key = none ∧ most ≤ es.length) ∧ ∃ e', r = .tup [.agg (rowS e'), .int .i64 (.ofNat 0)] ∧ TbS H' a most (putE es e) (maxI last e.ix) R) := by
  obtain ⟨v, hs, ow, q⟩ := t
  refine WF.perm q (WF.mono (put47_ok hm ow hn so hmk) ?_)
  rintro r H' (⟨h1, h2, rfl⟩ | ⟨h1, e', v', hs', h2, o', rfl⟩)
  · exact .inl ⟨h1, h2, v, hs, ow, List.Perm.refl _⟩
  · exact .inr ⟨h1, e', h2, v', hs', o', List.Perm.refl _⟩
theorem raise26_at {H R : HL} {a most : Nat} {last ix : Int} {es : List (TE SV)} (hm : 1 ≤ most) (t : TbS H a most es last R) : WF B tab (.func 26) [.ptr ⟨false, a, 0⟩, .int .u64 ix] H fun r H' => TbS H' a most es (maxI last ix) R := by
  obtain ⟨v, hs, ow, q⟩ := t
  refine WF.perm q (WF.mono (raise26_ok hm) ?_)
  rintro r _ rfl
  exact ⟨v, hs, ow, List.Perm.refl _⟩
theorem at81_ok {H : HL} {c2 c3 a : Nat} {v : AV} {es : List (TE CV)} {key : List Nat} {m : Nat} (h2 : Ld B H ⟨false, c2, 0⟩ 1 [.ptr ⟨false, a, 0⟩]) (h3 : Ld B H ⟨false, c3, 0⟩ 1 [.str key]) (ha : Ld B H ⟨false, a, 1⟩ 1 [v])
    (hs : SlIs B H v 10 (es.map rowC)) (hm : m < es.length) :
    WF B tab (.func 81) [.int .i64 (.ofNat m), .ptr ⟨false, c2, 0⟩, .ptr ⟨false, c3, 0⟩] H fun r H' => H' = H ∧ ∃ b : Bool, r = .bool b ∧ (b = true ↔ ¬ strLess (es[m]).key key = true) := by
  have hc : (es.map rowC)[m]? = some (rowC es[m]) := by rw [List.getElem?_map, List.getElem?_eq_getElem hm]; rfl
  refine WF.fnR g81 rfl ?_
  repeat' (first
    | apply WOps.nil | apply WC.seq | apply WC.reg | apply WC.ret | apply WC.dreg | apply WD.nil | (apply WD.load; rfl; (apply at2; exact rd_ld0 rfl h2; exact same0)) | (apply WD.load; rfl; (apply at2; exact rd_ld0 rfl h3; exact same0)) | (apply WD.load; rfl; (apply at2; exact rd_ld0 rfl ha; exact same0)) | (apply WD.ixSl; rfl; rfl; rfl; exact hs; exact hc; intro ax hax) | (apply WD.load; rfl; (apply at2; exact rd_ld0 rfl (Ld.part (hax _ hs) 0 1 (by decide)); exact same0)) | (apply WOps.purG; rfl; (intro _; rfl)) | (apply WD.cmpT; rfl; rfl; rfl; rfl; intro _ _) | (apply WD.pur; rfl; (intro _; rfl)))
  refine ⟨trivial, List.Sublist.refl _, [_], ⟨_, [], rfl, rfl, rfl⟩, _, rfl, ?_⟩
  assumption

theorem at71_ok {H : HL} {a : Nat} {v : AV} {es : List (TE CV)} {key : List Nat} (ha : Ld B H ⟨false, a, 1⟩ 1 [v]) (hs : SlIs B H v 10 (es.map rowC)) (hn : es.length ≤ 4611686018427387903) (so : Sorted es) :
    WF B tab (.func 71) [.ptr ⟨false, a, 0⟩, .str key] H fun r H' => H' = H ∧ ∃ (k : Nat) (b : Bool), r = .tup [.int .i64 (.ofNat k), .bool b] ∧ isLeast (notBelow es key) es.length k ∧ (b = true ↔ ∃ h : k < es.length, es[k].key = key) := by
  refine WF.fnR g71 rfl ?_
  repeat' (first
    | apply WOps.nil | apply WC.seq | apply WC.reg | (apply WOps.ldG; rfl; rfl; (first | exact ld0 rfl | exact ld1 rfl | exact ld2 rfl); rfl) | (apply WOps.bx; rfl; rfl; (first | rfl | ((repeat' (first | exact ac0 | apply ac1)) <;> (first | rfl | assumption))); intro _) | (apply WOps.ldG; rfl; rfl; exact ha.cons.cons; rfl) | (apply WOps.lenS; rfl; rfl; exact hs.cons.cons) | (apply WOps.purG; rfl; (intro _; rfl)))
  rename_i c2 c3
  rw [List.length_map]
  have h2 : Ld B ((c3, .row (AV.str key).cells) :: (c2, .row (AV.ptr ⟨false, a, 0⟩).cells) :: H) ⟨false, c2, 0⟩ 1 [.ptr ⟨false, a, 0⟩] := Ld.own (Tk.tail Tk.head) rfl
  have h3 : Ld B ((c3, .row (AV.str key).cells) :: (c2, .row (AV.ptr ⟨false, a, 0⟩).cells) :: H) ⟨false, c3, 0⟩ 1 [.str key] := Ld.own Tk.head rfl
  have ha' : Ld B ((c3, .row (AV.str key).cells) :: (c2, .row (AV.ptr ⟨false, a, 0⟩).cells) :: H) ⟨false, a, 1⟩ 1 [v] := ha.cons.cons
  have hs' : SlIs B ((c3, .row (AV.str key).cells) :: (c2, .row (AV.ptr ⟨false, a, 0⟩).cells) :: H) v 10 (es.map rowC) := SlIs.cons (SlIs.cons hs)
  apply WOps.clR
  rfl
  rfl
  refine search74_ok es.length hn 81 _ (notBelow es key) (notBelow_mono so) fun m hm => WF.mono (at81_ok h2 h3 ha' hs' hm) ?_
  · rintro r _ ⟨rfl, b, rfl, hb⟩
    exact ⟨rfl, b, rfl, hb.trans ⟨fun h => ⟨hm, h⟩, fun ⟨_, h⟩ => h⟩⟩
  rintro _ ⟨k, rfl, hk⟩
  repeat' (first
    | apply WOps.nil | apply WC.seq | apply WC.ret | apply WC.dreg | apply WD.nil | (apply WD.load; rfl; (apply at2; exact rd_ld0 rfl h2; exact same0)) | (apply WD.load; rfl; (apply at2; exact rd_ld0 rfl ha'; exact same0)) | (apply WD.lenS; rfl; rfl; exact hs') | (apply WOps.purG; rfl; (intro _; rfl)) | (apply WD.cmp; rfl; rfl; rfl; rfl; intro _ _) | (apply WD.pur; rfl; (intro _; rfl)) | (apply WD.skp; rfl) | (apply WD.skpL; rfl) | (apply WD.ask; rfl; all_goals (intro hb; first | subst hb | fail_if_success (cases hb))))
  · have hlt : k < es.length := by
      have h0 := ‹true = true ↔ cmpP BinOp.lss (Int.ofNat k) (Int.ofNat (List.map rowC es).length)›
      rw [List.length_map] at h0
      simp [cmpP] at h0; omega
    have hc : (es.map rowC)[k]? = some (rowC es[k]) := by rw [List.getElem?_map, List.getElem?_eq_getElem hlt]; rfl
    repeat' (first
      | apply WC.ret | apply WD.nil | (apply WD.ixSl; rfl; rfl; rfl; exact hs'; exact hc; intro ax hax) | (apply WD.load; rfl; (apply at2; exact rd_ld0 rfl (Ld.part (hax _ hs') 0 1 (by decide)); exact same0)) | (apply WD.load; rfl; (apply at2; exact rd_ld0 rfl h3; exact same0)) | (apply WD.cmpT; rfl; rfl; rfl; rfl; intro _ _) | (apply WD.pur; rfl; (intro _; rfl)))
    rename_i b hb
    refine ⟨trivial, (List.sublist_cons_self _ _).trans (List.sublist_cons_self _ _), [_, _], ⟨_, _, rfl, rfl, _, _, rfl, rfl, rfl⟩, k, _, rfl, hk, ?_⟩
    simp only [cmpS] at hb
    rw [hb]
    exact ⟨fun h => ⟨hlt, h⟩, fun ⟨_, h⟩ => h⟩
  · have hge : ¬ k < es.length := by
      have h0 := ‹false = true ↔ cmpP BinOp.lss (Int.ofNat k) (Int.ofNat (List.map rowC es).length)›
      rw [List.length_map] at h0
      simp [cmpP] at h0; omega
    refine ⟨trivial, (List.sublist_cons_self _ _).trans (List.sublist_cons_self _ _), [_, _], ⟨_, _, rfl, rfl, _, _, rfl, rfl, rfl⟩, k, _, rfl, hk, ?_⟩
    simp [hge]
theorem none52_ok {H : HL} {a most : Nat} (h0 : Ld B H ⟨false, a, 0⟩ 1 [.int .i64 (.ofNat most)]) (hm : 1 ≤ most) : WF B tab (.func 52) [.ptr ⟨false, a, 0⟩] H fun r H' => H' = H ∧ r = .bool false := by
  refine WF.fnR g52 rfl ?_
  repeat' (first
    | apply WOps.nil | apply WC.seq | apply WC.reg | apply WC.ret | (apply WOps.ldG; rfl; rfl; exact h0; rfl) | (apply WOps.cmp; rfl; rfl; rfl; rfl; intro _ _) | (apply WOps.purG; rfl; (intro _; rfl)))
  rename_i b hb
  refine ⟨trivial, List.Sublist.refl _, [_], ⟨_, [], rfl, rfl, rfl⟩, ?_⟩
  have : b = false := by
    rw [Bool.eq_false_iff]
    intro h
    have := hb.1 h
    simp [cmpP] at this
    omega
  rw [this]
  rfl
theorem new44_ok {H : HL} (m : Int) : WF B tab (.func 44) [.int .i64 m] H fun r H' => ∃ a, r = .ptr ⟨false, a, 0⟩ ∧ H' = (a, .row [.int .i64 (.ofNat (mostOf m)), .nilsl, .int .u64 (.ofNat 0)]) :: H := by
  refine WF.fn g44 rfl ?_
  repeat' (first
    | apply WOps.nil | apply WC.seq | apply WC.reg | apply WC.ret | (apply WOps.bx; rfl; rfl; (first | rfl | ((repeat' (first | exact ac0 | apply ac1)) <;> (first | rfl | assumption))); intro _) | (apply WOps.purG; rfl; (intro _; rfl)))
  refine ⟨trivial, [_], ⟨_, [], rfl, rfl, rfl⟩, _, rfl, ?_⟩
  have : (if Int.ofNat 64 < if Int.ofNat 1 > m then Int.ofNat 1 else m then Int.ofNat 64 else if Int.ofNat 1 > m then Int.ofNat 1 else m) = Int.ofNat (mostOf m) := by
    unfold mostOf
    simp only [Int.ofNat_eq_natCast, gt_iff_lt]
    split <;> split <;> (try split) <;> (try split) <;> omega
  rw [this]
  rfl
theorem raise27_ok {H : HL} {a most : Nat} {v : AV} {last ix : Int} (hm : 1 ≤ most) : WF B tab (.func 27) [.ptr ⟨false, a, 0⟩, .int .u64 ix] ((a, .row [.int .i64 (.ofNat most), v, .int .u64 last]) :: H) fun r H' => H' = (a, .row [.int .i64 (.ofNat most), v, .int .u64 (maxI last ix)]) :: H := by
  refine WF.fn g27 rfl ?_
  repeat' (first
    | apply WOps.nil | apply WC.seq | apply WC.reg | (apply WC.condT; rfl) | (apply WOps.ldG; rfl; rfl; (first | exact ld0 rfl | exact ld1 rfl | exact ld2 rfl); rfl) | (apply WOps.st; rfl; rfl; (first | exact tk0 | exact tk1 | exact tk2); rfl; (first | rfl | ((repeat' (first | exact ac0 | apply ac1)) <;> (first | rfl | assumption))); rfl) | (apply WOps.clR; rfl; rfl; exact none52_ok (Ld.own Tk.head rfl) hm; rintro _ rfl) | (apply WOps.purG; rfl; (intro _; rfl)))
  exact ⟨trivial, [], rfl, rfl⟩
/-- The last index of a table. -/
theorem last61_ok {H : HL} {a most : Nat} {last : Int} (h0 : Ld B H ⟨false, a, 0⟩ 1 [.int .i64 (.ofNat most)]) (hm : 1 ≤ most) (h2 : Ld B H ⟨false, a, 2⟩ 1 [.int .u64 last]) : WF B tab (.func 61) [.ptr ⟨false, a, 0⟩] H fun r H' => H' = H ∧ r = .int .u64 last := by
  refine WF.fnR g61 rfl ?_
  repeat' (first
    | apply WOps.nil | apply WC.seq | apply WC.reg | apply WC.skip | apply WC.ret | (apply WC.condF; rfl) | (apply WOps.clR; rfl; rfl; exact none52_ok h0 hm; rintro _ rfl) | (apply WOps.ldG; rfl; rfl; exact h2; rfl) | (apply WOps.purG; rfl; (intro _; rfl)))
  exact ⟨trivial, List.Sublist.refl _, [_], ⟨_, [], rfl, rfl, rfl⟩, rfl⟩
theorem rowC_len {e : TE CV} : (rowC e).length = 10 := rfl
theorem rows_lenC : ∀ (es : List (TE CV)), (es.map rowC).flatten.length = es.length * 10 := by
  intro es
  induction es with
  | nil => rfl
  | cons e es ih => rw [List.map_cons, List.flatten_cons, List.length_append, ih, rowC_len, List.length_cons]; omega
theorem rows_cellC : ∀ (es : List (TE CV)), allCell (es.map rowC).flatten = true := by
  intro es
  rw [allCell_iff]
  intro v hv
  simp only [List.mem_flatten, List.mem_map] at hv
  obtain ⟨_, ⟨e, _, rfl⟩, hv⟩ := hv
  exact (allCell_iff _).1 (acRC e) v hv
/-- All rows, told. -/
theorem list64_ok {H : HL} {a most : Nat} {v : AV} {es : List (TE CV)} (h0 : Ld B H ⟨false, a, 0⟩ 1 [.int .i64 (.ofNat most)]) (hm : 1 ≤ most) (h1 : Ld B H ⟨false, a, 1⟩ 1 [v]) (o : SrcIs B H v 10 es.length (es.map rowC).flatten) (hn : es.length ≤ 1000) :
    WF B tab (.func 64) [.ptr ⟨false, a, 0⟩] H fun r H' => ∃ h', OwnSl r (es.map rowC).flatten es.length 10 h' ∧ H' = h' ++ H := by
  refine WF.fn g64 rfl ?_
  repeat' (first
    | apply WOps.nil | apply WC.seq | apply WC.reg | apply WC.skip | (apply WC.condF; rfl) | (apply WOps.bsl; rfl; (first | rfl | ((repeat' (first | exact ac0 | apply ac1)) <;> (first | rfl | assumption))); intro _) | (apply WOps.clR; rfl; rfl; exact none52_ok h0 hm; rintro _ rfl) | (apply WOps.ldG; rfl; rfl; exact h1.cons; rfl) | (apply WOps.purG; rfl; (intro _; rfl)))
  rename_i id
  refine WOps.app (h := [(id, .row [])]) (cells := []) (n := 0) rfl rfl rfl (.inr ⟨id, rfl, rfl, rfl⟩) (List.Perm.refl _) (src_cons o) rfl (rows_cellC es) (rows_lenC es) (by omega) ?_
  intro v' h' o'
  repeat' (first
    | apply WOps.nil | apply WC.ret | (apply WOps.purG; rfl; (intro _; rfl)))
  refine ⟨trivial, [_], ⟨_, [], rfl, rfl, rfl⟩, h', ?_, rfl⟩
  have o2 : OwnSl v' (es.map rowC).flatten es.length 10 h' := by simpa using o'
  exact o2
theorem rows_slC {v : AV} {es : List (TE CV)} {h : HL} (o : OwnSl v (es.map rowC).flatten es.length 10 h) : SlIs B h v 10 (es.map rowC) := by
  have o2 : OwnSl v (es.map rowC).flatten (es.map rowC).length 10 h := by simpa using o
  exact OwnSl.sl o2 (by intro c hc; simp only [List.mem_map] at hc; obtain ⟨e, _, rfl⟩ := hc; rfl)
theorem rows_takeC : ∀ {es : List (TE CV)} {k : Nat}, (es.map rowC).flatten.take (k * 10) = ((es.take k).map rowC).flatten := by
  intro es
  induction es with
  | nil => intro k; simp
  | cons x es ih =>
    intro k
    cases k with
    | zero => simp
    | succ k =>
      simp only [List.map_cons, List.flatten_cons, List.take_succ_cons]
      rw [List.take_append, rowC_len, List.take_of_length_le (by rw [rowC_len]; omega), show (k + 1) * 10 - 10 = k * 10 by omega, ih]
theorem rows_dropC : ∀ {es : List (TE CV)} {k : Nat}, (es.map rowC).flatten.drop (k * 10) = ((es.drop k).map rowC).flatten := by
  intro es
  induction es with
  | nil => intro k; simp
  | cons x es ih =>
    intro k
    cases k with
    | zero => simp
    | succ k =>
      simp only [List.map_cons, List.flatten_cons, List.drop_succ_cons]
      rw [List.drop_append, rowC_len, List.drop_eq_nil_of_le (by rw [rowC_len]; omega), show (k + 1) * 10 - 10 = k * 10 by omega, ih, List.nil_append]
theorem raise27_tk {H R : HL} {a most : Nat} {v : AV} {last ix : Int} (hm : 1 ≤ most) (tk : Tk H a (.row (tblC most v last)) R) : WF B tab (.func 27) [.ptr ⟨false, a, 0⟩, .int .u64 ix] H fun r H' => H' = (a, .row (tblC most v (maxI last ix))) :: R :=
  WF.perm tk (raise27_ok hm)
theorem flat_putC {A Cs : List (TE CV)} {z : List AV} {e : TE CV} (hz : z.length = 10) :
    let ds := (A.map rowC).flatten ++ (z ++ (Cs.map rowC).flatten)
    ds.take (A.length * 10) ++ (rowC e ++ ds.drop (A.length * 10 + 10)) = ((A ++ e :: Cs).map rowC).flatten := by
  have hl := rows_lenC A
  simp only
  rw [← hl, List.take_left, List.drop_append, List.drop_eq_nil_of_le (by omega), List.nil_append, Nat.add_sub_cancel_left, ← hz, List.drop_left]
  simp
theorem copy_rowsC {es : List (TE CV)} {k : Nat} {zz : List AV} (hk : k ≤ es.length) (hz : zz.length = 10) :
    ∃ z : List AV, z.length = 10 ∧ 
    ((es.map rowC).flatten ++ zz).take (0 + (k + 1) * 10) ++ ((((es.map rowC).flatten ++ zz).drop (k * 10)).take (min (es.length + 1 - k) (es.length + 1 - (k + 1)) * 10) ++ ((es.map rowC).flatten ++ zz).drop (0 + (k + 1) * 10 + min (es.length + 1 - k) (es.length + 1 - (k + 1)) * 10)) =
      ((es.take k).map rowC).flatten ++ (z ++ ((es.drop k).map rowC).flatten) := by
  have hA : ((es.take k).map rowC).flatten.length = k * 10 := by rw [rows_lenC, List.length_take]; omega
  have hC : ((es.drop k).map rowC).flatten.length = (es.length - k) * 10 := by rw [rows_lenC, List.length_drop]
  have he : (es.map rowC).flatten = ((es.take k).map rowC).flatten ++ ((es.drop k).map rowC).flatten := by
    rw [← List.flatten_append, ← List.map_append, List.take_append_drop]
  have hmin : min (es.length + 1 - k) (es.length + 1 - (k + 1)) = es.length - k := by omega
  rw [he, hmin]
  generalize ((es.take k).map rowC).flatten = Ar at *
  generalize ((es.drop k).map rowC).flatten = Cr at *
  refine ⟨(Cr ++ zz).take 10, by rw [List.length_take, List.length_append]; omega, ?_⟩
  have e1 : List.take (0 + (k + 1) * 10) (Ar ++ Cr ++ zz) = Ar ++ (Cr ++ zz).take 10 := by
    rw [List.append_assoc, List.take_append, List.take_of_length_le (by omega), hA]
    congr 2; omega
  have e2 : List.take ((es.length - k) * 10) (List.drop (k * 10) (Ar ++ Cr ++ zz)) = Cr := by
    rw [List.append_assoc, ← hA, List.drop_left, ← hC, List.take_left]
  have e3 : List.drop (0 + (k + 1) * 10 + (es.length - k) * 10) (Ar ++ Cr ++ zz) = [] := by
    rw [List.drop_eq_nil_iff, List.length_append, List.length_append]; omega
  rw [e1, e2, e3, List.append_nil, List.append_assoc]
theorem put_rowC {es : List (TE CV)} {k : Nat} {z vs : List AV} {e : TE CV} {A Cs : List (TE CV)} (hA : A.length = k) (hz : z.length = 10) (hv : vs = rowC e) :
    putN ((A.map rowC).flatten ++ (z ++ (Cs.map rowC).flatten)) (0 + k * 10) vs = some ((A ++ e :: Cs).map rowC).flatten := by
  subst hv hA
  have hl := rows_lenC A
  rw [putN_of (by rw [List.length_append, List.length_append, rowC_len, hz]; omega), Nat.zero_add, rowC_len]
  exact congrArg some (flat_putC hz)
set_option maxHeartbeats 4000000 in
theorem put49_ok {hs R : HL} {a most : Nat} {v : AV} {last : Int} {es : List (TE CV)} {e : TE CV} (hm : 1 ≤ most) (o : OwnSl v (es.map rowC).flatten es.length 10 hs) (hn : es.length ≤ 1000) (so : Rise es) (hmk : e.mke = e.ix) :
    WF B tab (.func 49) [.ptr ⟨false, a, 0⟩, .str e.key, .agg (valC e.v), .int .u64 e.ix] ((a, .row (tblC most v last)) :: (hs ++ R)) fun r H' =>
      ((findE es e.key = none ∧ most ≤ es.length) ∧ r = .tup [.agg (rowC zeC), .int .i64 (.ofNat 5)] ∧ H' = (a, .row (tblC most v last)) :: (hs ++ R)) ∨
      (¬ (findE es e.key = none ∧ most ≤ es.length) ∧ ∃ e' v' hs', r = .tup [.agg (rowC e'), .int .i64 (.ofNat 0)] ∧ OwnSl v' ((putE es e).map rowC).flatten (putE es e).length 10 hs' ∧ H' = (a, .row (tblC most v' (maxI last e.ix))) :: (hs' ++ R)) := by
  refine WF.lessP ?_
  refine WF.fn g49 rfl ?_
  have hsl : ∀ {H : HL}, SlIs B (H ++ (hs ++ R)) v 10 (es.map rowC) := SlIs.right (SlIs.left (rows_slC o))
  repeat' (first
    | apply WOps.nil | apply WC.seq | apply WC.reg | apply WC.skip | apply WC.ret | (apply WC.condT; rfl) | (apply WC.condF; rfl) | apply WC.dreg | apply WD.nil | (apply WOps.ldG; rfl; rfl; (first | exact ld0 rfl | exact ld1 rfl | exact ld2 rfl); rfl) | (apply WOps.st; rfl; rfl; (first | exact tk0 | exact tk1 | exact tk2); rfl; (first | rfl | ((repeat' (first | exact ac0 | apply ac1)) <;> (first | rfl | assumption))); rfl) | (apply WOps.alc; rfl; intro _) | (apply WOps.bx; rfl; rfl; (first | rfl | ((repeat' (first | exact ac0 | apply ac1)) <;> (first | rfl | assumption))); intro _) | (apply WOps.bsl; rfl; (first | rfl | ((repeat' (first | exact ac0 | apply ac1)) <;> (first | rfl | assumption))); intro _) | (apply WOps.clR; rfl; rfl; exact none52_ok (most := most) (Ld.own (Tk.tail (Tk.tail Tk.head)) rfl) hm; rintro _ rfl) | (apply WOps.clR; rfl; rfl; exact at71_ok (v := v) (Ld.own (Tk.tail (Tk.tail Tk.head)) rfl) (hsl (H := [_, _, _])) (by omega) (sorted_of so); rintro _ ⟨k, b, rfl, hk, hkb⟩; cases b) | (apply WD.lenO; rfl; rfl; exact o) | (apply WOps.ldG; rfl; rfl; exact Ld.own (Tk.tail (Tk.tail (Tk.tail Tk.head))) rfl; rfl) | (apply WOps.purG; rfl; (intro _; rfl)) | (apply WD.load; rfl; (first | (apply at1; (first | exact rd0 rfl rfl rfl | exact rd1 rfl rfl rfl | exact rd2 rfl rfl rfl); rfl) | (apply at2; (first | exact rd0 rfl rfl rfl | exact rd1 rfl rfl rfl | exact rd2 rfl rfl rfl); repeat' (first | exact same0 | (apply same1; (first | exact rd0 rfl rfl rfl | exact rd1 rfl rfl rfl | exact rd2 rfl rfl rfl); rfl) | (apply same2; (first | exact rd0 rfl rfl rfl | exact rd1 rfl rfl rfl | exact rd2 rfl rfl rfl)))))) | (apply WD.cmp; rfl; rfl; rfl; rfl; intro _ _) | (apply WD.pur; rfl; (intro _; rfl)) | (apply WD.skp; rfl) | (apply WD.skpL; rfl) | (apply WC.condA; rfl; all_goals (intro hb; try subst hb)))
  · have hge := ‹true = true ↔ cmpP BinOp.geq (Int.ofNat es.length) (Int.ofNat most)›
    simp only [cmpP, true_iff, Int.ofNat_eq_natCast] at hge
    rcases find_at (sorted_of so) hk with ⟨h1, h2, h3⟩ | ⟨h1, h2⟩
    · exact absurd (hkb.2 ⟨h1, h2⟩) (by simp)
    · exact ⟨trivial, [_, _], ⟨_, _, rfl, ⟨_, _, rfl, Ld.own Tk.head rfl, rfl⟩, _, _, rfl, rfl, rfl⟩, _, .inl ⟨⟨h2, by omega⟩, rfl, rfl⟩, subF (by intro f; simp only [AV.cells, List.append_eq, List.map_cons, List.map_nil, List.sum_nil, List.map_append, List.sum_cons, List.sum_append, List.cons_append, List.nil_append, List.append_assoc, List.append_nil]; omega)⟩
  · have hge := ‹false = true ↔ cmpP BinOp.geq (Int.ofNat es.length) (Int.ofNat most)›
    simp only [cmpP, Bool.false_eq_true, false_iff, Int.ofNat_eq_natCast] at hge
    rename_i p6 p8 _ p12 q
    have hno : ¬ ∃ h : k < es.length, es[k].key = e.key := fun h => absurd (hkb.2 h) (by simp)
    have hk1 := hk.1
    refine WOps.app (n := es.length) rfl rfl rfl o (List.perm_append_comm_assoc [_, _, _, _, _] hs R) (src_one Tk.head rfl) (rows_cellC _) rfl rfl (by omega) ?_
    intro v2 h2 o2
    rcases o2 with ⟨_, hz, _⟩ | ⟨id2, rfl, rfl, hl2⟩
    · omega
    simp only [List.cons_append, List.nil_append]
    repeat' (first
      | apply WOps.nil | apply WC.seq | apply WC.dreg | (apply WOps.st; rfl; rfl; exact Tk.tail (Tk.tail (Tk.tail (Tk.tail (Tk.tail Tk.head)))); rfl; rfl; rfl) | (apply WD.addN; rfl; rfl; rfl; omega) | (apply WD.slLo; rfl; rfl; rfl; omega) | (apply WOps.purG; rfl; (intro _; rfl)) | (apply WD.load; rfl; (first | (apply at1; (first | exact rd0 rfl rfl rfl | exact rd1 rfl rfl rfl | exact rd2 rfl rfl rfl); rfl) | (apply at2; (first | exact rd0 rfl rfl rfl | exact rd1 rfl rfl rfl | exact rd2 rfl rfl rfl); repeat' (first | exact same0 | (apply same1; (first | exact rd0 rfl rfl rfl | exact rd1 rfl rfl rfl | exact rd2 rfl rfl rfl); rfl) | (apply same2; (first | exact rd0 rfl rfl rfl | exact rd1 rfl rfl rfl | exact rd2 rfl rfl rfl)))))) | (apply WD.pur; rfl; (intro _; rfl)))
    have hlen : ((es.map rowC).flatten ++ rowC zeC).length = (es.length + 1) * 10 := hl2
    refine WD.cpy (sn := es.length + 1 - k) (off := 0 + (k + 1) * 10) (cs := ((es.map rowC).flatten ++ rowC zeC).drop (k * 10)) rfl rfl rfl (Tk.tail Tk.head) (.inr ⟨_, rfl, .inr (Ld.own (Tk.tail Tk.head) ?_)⟩) ?_ ?_ ?_
    · show takeN (List.drop (0 + k * 10) ((es.map rowC).flatten ++ rowC zeC)) _ = _
      rw [Nat.zero_add, takeN_of (by rw [List.length_drop, hlen]; omega), List.take_of_length_le (by rw [List.length_drop, hlen]; omega)]
    · rw [List.length_drop, hlen]; omega
    · rw [hl2]; omega
    obtain ⟨z, hz, hX⟩ := copy_rowsC (es := es) (k := k) (zz := rowC zeC) hk1 rfl
    refine WD.heq (H' := (id2, .row (((es.take k).map rowC).flatten ++ (z ++ ((es.drop k).map rowC).flatten))) :: _) (by rw [← hX]; rfl) ?_
    have hput : putE es e = es.take k ++ e :: es.drop k := by
      rcases put_at (sorted_of so) hk with ⟨h1, h2, h3⟩ | ⟨h1, h2⟩
      · exact absurd ⟨h1, h2⟩ hno
      · exact h2
    have hf : findE es e.key = none := by
      rcases find_at (sorted_of so) hk with ⟨h1, h2, h3⟩ | ⟨h1, h2⟩
      · exact absurd ⟨h1, h2⟩ hno
      · exact h2
    repeat' (first
      | apply WC.dreg | apply WD.nil | (apply WD.load; rfl; (apply at2; exact rd_ld rfl (Ld.own (Tk.tail (Tk.tail (Tk.tail Tk.head))) rfl) rfl; exact same0)) | (apply WD.ixO; rfl; rfl; rfl; omega) | (apply WD.load; rfl; (first | (apply at1; (first | exact rd0 rfl rfl rfl | exact rd1 rfl rfl rfl | exact rd2 rfl rfl rfl); rfl) | (apply at2; (first | exact rd0 rfl rfl rfl | exact rd1 rfl rfl rfl | exact rd2 rfl rfl rfl); repeat' (first | exact same0 | (apply same1; (first | exact rd0 rfl rfl rfl | exact rd1 rfl rfl rfl | exact rd2 rfl rfl rfl); rfl) | (apply same2; (first | exact rd0 rfl rfl rfl | exact rd1 rfl rfl rfl | exact rd2 rfl rfl rfl)))))) | (apply WD.pur; rfl; (intro _; rfl)))
    have hrow : rowC e = [.str e.key, .int .i64 e.v.node, .str e.v.id, .str e.v.svc, .str e.v.note, .int .i64 e.v.st, .int .u64 e.v.jm, .int .u64 e.v.ji, .int .u64 e.ix, .int .u64 e.ix] := by simp [rowC, hmk]
    refine WD.st rfl rfl rfl Tk.head rfl rfl (put_rowC (es := es) (e := e) (by rw [List.length_take]; omega) hz hrow.symm) ?_
    repeat' (first
      | apply WOps.nil | apply WC.seq | apply WC.reg | apply WC.ret | apply WD.nil | (apply WOps.clA; rfl; rfl; exact raise27_tk hm (Tk.tail Tk.head); rintro _ _ rfl) | (apply WOps.ldG; rfl; rfl; exact Ld.own (Tk.tail (Tk.tail (Tk.tail Tk.head))) rfl; rfl) | (apply WOps.st; rfl; rfl; exact (Tk.tail (Tk.tail (Tk.tail (Tk.tail Tk.head)))); rfl; rfl; rfl) | (apply WOps.purG; rfl; (intro _; rfl)))
    refine ⟨trivial, [_, _], ⟨_, _, rfl, ⟨_, _, rfl, Ld.own Tk.head rfl, rfl⟩, _, _, rfl, rfl, rfl⟩, _, .inr ⟨fun h => hge (by omega), e, _, [(id2, _)], ?_, .inr ⟨id2, rfl, rfl, rows_lenC _⟩, rfl⟩, ?_⟩
    · rw [hrow]; rfl
    · have hln : (putE es e).length = es.length + 1 := by
        rw [hput, List.length_append, List.length_cons, List.length_take, List.length_drop]; omega
      rw [hln, hput]
      exact subF (by intro f; simp only [AV.cells, List.append_eq, List.map_cons, List.map_nil, List.sum_nil, List.map_append, List.sum_cons, List.sum_append, List.cons_append, List.nil_append, List.append_assoc, List.append_nil]; omega)
  · rename_i p6 p8 p12
    obtain ⟨hlt, hkey⟩ := hkb.1 rfl
    rcases o with ⟨_, hz, _⟩ | ⟨id2, rfl, rfl, hl2⟩
    · omega
    have hcm : (es.map rowC)[k]? = some (rowC es[k]) := by rw [List.getElem?_map, List.getElem?_eq_getElem hlt]; rfl
    have hput : putE es e = es.take k ++ { e with mke := es[k].mke } :: es.drop (k + 1) := by
      rcases put_at (sorted_of so) hk with ⟨h1, h2, h3⟩ | ⟨h1, h2⟩
      · exact h3
      · exact absurd ⟨hlt, hkey⟩ h1
    have hf : findE es e.key = some es[k] := by
      rcases find_at (sorted_of so) hk with ⟨h1, h2, h3⟩ | ⟨h1, h2⟩
      · exact h3
      · exact absurd ⟨hlt, hkey⟩ h1
    have hrows : (es.map rowC).flatten = ((es.take k).map rowC).flatten ++ (rowC es[k] ++ ((es.drop (k + 1)).map rowC).flatten) := by
      have h1 : (es.map rowC).flatten = ((es.take k).map rowC).flatten ++ ((es.drop k).map rowC).flatten := by
        rw [← List.flatten_append, ← List.map_append, List.take_append_drop]
      rw [h1, List.drop_eq_getElem_cons hlt, List.map_cons, List.flatten_cons]
    repeat' (first
      | apply WOps.nil | apply WC.dreg | (apply WOps.st; rfl; rfl; (first | exact tk0 | exact tk1 | exact tk2); rfl; (first | rfl | ((repeat' (first | exact ac0 | apply ac1)) <;> (first | rfl | assumption))); rfl) | (apply WOps.ixSl; rfl; rfl; rfl; exact hsl (H := [_, _, _, _]); exact hcm; intro ax hax) | (apply WOps.ldG; rfl; rfl; exact Ld.part hax 8 1 (by decide); rfl) | (apply WD.load; rfl; (apply at2; exact rd_ld rfl (Ld.own (Tk.tail (Tk.tail (Tk.tail Tk.head))) rfl) rfl; exact same0)) | (apply WD.ixO; rfl; rfl; rfl; omega) | (apply WOps.purG; rfl; (intro _; rfl)) | (apply WD.load; rfl; (first | (apply at1; (first | exact rd0 rfl rfl rfl | exact rd1 rfl rfl rfl | exact rd2 rfl rfl rfl); rfl) | (apply at2; (first | exact rd0 rfl rfl rfl | exact rd1 rfl rfl rfl | exact rd2 rfl rfl rfl); repeat' (first | exact same0 | (apply same1; (first | exact rd0 rfl rfl rfl | exact rd1 rfl rfl rfl | exact rd2 rfl rfl rfl); rfl) | (apply same2; (first | exact rd0 rfl rfl rfl | exact rd1 rfl rfl rfl | exact rd2 rfl rfl rfl)))))) | (apply WD.pur; rfl; (intro _; rfl)))
    refine WD.st rfl rfl rfl (Tk.tail (Tk.tail (Tk.tail (Tk.tail Tk.head)))) rfl rfl ((congrArg (fun x => putN x _ _) hrows).trans (put_rowC (es := es) (e := { e with mke := es[k].mke }) (by rw [List.length_take]; omega) rfl rfl)) ?_
    repeat' (first
      | apply WOps.nil | apply WC.seq | apply WC.reg | apply WC.ret | apply WD.nil | (apply WOps.ldG; rfl; rfl; (first | exact ld0 rfl | exact ld1 rfl | exact ld2 rfl); rfl) | (apply WOps.clA; rfl; rfl; exact raise27_tk hm (Tk.tail (Tk.tail (Tk.tail (Tk.tail Tk.head)))); rintro _ _ rfl) | (apply WOps.st; rfl; rfl; exact (Tk.tail (Tk.tail (Tk.tail Tk.head))); rfl; rfl; rfl) | (apply WOps.purG; rfl; (intro _; rfl)))
    refine ⟨trivial, [_, _], ⟨_, _, rfl, ⟨_, _, rfl, Ld.own Tk.head rfl, rfl⟩, _, _, rfl, rfl, rfl⟩, _, .inr ⟨fun h => (by rw [hf] at h; cases h.1), { e with mke := es[k].mke }, _, [(id2, _)], rfl, .inr ⟨id2, rfl, rfl, rows_lenC _⟩, rfl⟩, ?_⟩
    have hln : (putE es e).length = es.length := by
      rw [hput, List.length_append, List.length_cons, List.length_take, List.length_drop]; omega
    rw [hln, hput]
    exact subF (by intro f; simp only [AV.cells, List.append_eq, List.map_cons, List.map_nil, List.sum_nil, List.map_append, List.sum_cons, List.sum_append, List.cons_append, List.nil_append, List.append_assoc, List.append_nil]; omega)
/-- A table stands in the heap, beside R. -/
def TbC (H : HL) (a most : Nat) (es : List (TE CV)) (last : Int) (R : HL) : Prop := ∃ v hs, OwnSl v (es.map rowC).flatten es.length 10 hs ∧ H.Perm ((a, .row (tblC most v last)) :: (hs ++ R))
theorem TbC.cons {H R : HL} {a most : Nat} {es : List (TE CV)} {last : Int} {x : Nat × AObj} (h : TbC H a most es last R) : TbC (x :: H) a most es last (x :: R) := by
  obtain ⟨v, hs, o, p⟩ := h
  refine ⟨v, hs, o, ?_⟩
  exact (List.Perm.cons _ p).trans ((List.Perm.swap _ _ _).trans (List.Perm.cons _ List.perm_middle.symm))
theorem TbC.permR {H R R' : HL} {a most : Nat} {es : List (TE CV)} {last : Int} (h : TbC H a most es last R) (p : R.Perm R') : TbC H a most es last R' := by
  obtain ⟨v, hs, o, q⟩ := h
  exact ⟨v, hs, o, q.trans (List.Perm.cons _ (List.Perm.append_left _ p))⟩
theorem TbC.perm {H H' R : HL} {a most : Nat} {es : List (TE CV)} {last : Int} (h : TbC H a most es last R) (p : H'.Perm H) : TbC H' a most es last R := by
  obtain ⟨v, hs, o, q⟩ := h
  exact ⟨v, hs, o, p.trans q⟩
theorem TbC.tk {H R R' : HL} {a most : Nat} {es : List (TE CV)} {last : Int} {id : Nat} {o : AObj} (h : TbC H a most es last R) (k : Tk R id o R') : ∃ R2, Tk H id o R2 ∧ ∀ o', TbC ((id, o') :: R2) a most es last ((id, o') :: R') := by
  obtain ⟨v, hs, ow, q⟩ := h
  refine ⟨(a, .row (tblC most v last)) :: (hs ++ R'), ?_, fun o' => ?_⟩
  · refine q.trans ?_
    refine (List.Perm.cons _ (List.Perm.append_left _ k)).trans ?_
    exact (List.Perm.cons _ List.perm_middle).trans (List.Perm.swap _ _ _)
  · refine ⟨v, hs, ow, ?_⟩
    exact (List.Perm.swap _ _ _).trans (List.Perm.cons _ List.perm_middle.symm)
theorem TbC.ld {H R : HL} {a most : Nat} {es : List (TE CV)} {last : Int} {b : AA} {n : Nat} {l : List AV} (h : TbC H a most es last R) (k : Ld B R b n l) : Ld B H b n l := by
  obtain ⟨v, hs, ow, q⟩ := h
  exact Ld.perm q k.right.cons
theorem TbC.sl {H R : HL} {a most : Nat} {es : List (TE CV)} {last : Int} {w : AV} {n : Nat} {xs : List (List AV)} (h : TbC H a most es last R) (k : SlIs B R w n xs) : SlIs B H w n xs := by
  obtain ⟨v, hs, ow, q⟩ := h
  exact SlIs.perm q k.right.cons
theorem TbC.rd {H R : HL} {a most : Nat} {es : List (TE CV)} {last : Int} (h : TbC H a most es last R) :
    ∃ v, Ld B H ⟨false, a, 0⟩ 1 [.int .i64 (.ofNat most)] ∧ Ld B H ⟨false, a, 1⟩ 1 [v] ∧ Ld B H ⟨false, a, 2⟩ 1 [.int .u64 last] ∧ SrcIs B H v 10 es.length (es.map rowC).flatten ∧ SlIs B H v 10 (es.map rowC) := by
  obtain ⟨v, hs, ow, q⟩ := h
  exact ⟨v, Ld.perm q (Ld.own Tk.head rfl), Ld.perm q (Ld.own Tk.head rfl), Ld.perm q (Ld.own Tk.head rfl), SrcIs.perm q (SrcIs.left ow.src).cons, SlIs.perm q (SlIs.cons (SlIs.left (rows_slC ow)))⟩
/-- What else is there is forgotten. -/
theorem TbC.less {H R R1 : HL} {a most : Nat} {es : List (TE CV)} {last : Int} (h : TbC H a most es last R) (p : SubP R1 R) : ∃ H3, TbC H3 a most es last R1 ∧ SubP H3 H := by
  obtain ⟨v, hs, ow, q⟩ := h
  obtain ⟨G, pg⟩ := p
  refine ⟨(a, .row (tblC most v last)) :: (hs ++ R1), ⟨v, hs, ow, List.Perm.refl _⟩, G, ?_⟩
  refine q.trans ?_
  simp only [List.cons_append, List.append_assoc]
  exact List.Perm.cons _ (List.Perm.append_left _ pg)
theorem put49_at {H R : HL} {a most : Nat} {last : Int} {es : List (TE CV)} {e : TE CV} (hm : 1 ≤ most) (hn : es.length ≤ 1000) (so : Rise es) (hmk : e.mke = e.ix) (t : TbC H a most es last R) :
    WF B tab (.func 49) [.ptr ⟨false, a, 0⟩, .str e.key, .agg (valC e.v), .int .u64 e.ix] H fun r H' =>
      ((findE es e.key = none ∧ most ≤ es.length) ∧ r = .tup [.agg (rowC zeC), .int .i64 (.ofNat 5)] ∧ TbC H' a most es last R) ∨
      (¬ (findE es e.key = none ∧ most ≤ es.length) ∧ ∃ e', r = .tup [.agg (rowC e'), .int .i64 (.ofNat 0)] ∧ TbC H' a most (putE es e) (maxI last e.ix) R) := by
  obtain ⟨v, hs, ow, q⟩ := t
  refine WF.perm q (WF.mono (put49_ok hm ow hn so hmk) ?_)
  rintro r H' (⟨h1, h2, rfl⟩ | ⟨h1, e', v', hs', h2, o', rfl⟩)
  · exact .inl ⟨h1, h2, v, hs, ow, List.Perm.refl _⟩
  · exact .inr ⟨h1, e', h2, v', hs', o', List.Perm.refl _⟩
theorem raise27_at {H R : HL} {a most : Nat} {last ix : Int} {es : List (TE CV)} (hm : 1 ≤ most) (t : TbC H a most es last R) : WF B tab (.func 27) [.ptr ⟨false, a, 0⟩, .int .u64 ix] H fun r H' => TbC H' a most es (maxI last ix) R := by
  obtain ⟨v, hs, ow, q⟩ := t
  refine WF.perm q (WF.mono (raise27_ok hm) ?_)
  rintro r _ rfl
  exact ⟨v, hs, ow, List.Perm.refl _⟩
def plainC (c : Nat) : Prop := (97 ≤ c ∧ c ≤ 122) ∨ (48 ≤ c ∧ c ≤ 57)
theorem plain78_ok {H : HL} (c : Nat) : WF B tab (.func 78) [.int .u8 (.ofNat c)] H fun r H' => H' = H ∧ ∃ b : Bool, r = .bool b ∧ (b = true ↔ plainC c) := by
  refine WF.fnR g78 rfl ?_
  repeat' (first
    | apply WOps.nil | apply WC.seq | apply WC.reg | apply WC.ret | (apply WOps.cmp; rfl; rfl; rfl; rfl; intro _ _) | (apply WOps.purG; rfl; (intro _; rfl)) | (apply WOps.skp; rfl) | (apply WOps.ask; rfl; all_goals (intro hb; first | subst hb | fail_if_success (cases hb))))
  all_goals refine ⟨trivial, List.Sublist.refl _, [_], ⟨_, [], rfl, rfl, rfl⟩, _, rfl, ?_⟩
  all_goals simp [cmpP, cmpS, plainC] at *
  all_goals first | omega | (apply Iff.trans; assumption; omega)

theorem plain82_ok {H : HL} (c : Nat) : WF B tab (.func 82) [.int .u8 (.ofNat c)] H fun r H' => H' = H ∧ ∃ b : Bool, r = .bool b ∧ (b = true ↔ plainC c) := by
  refine WF.fnR g82 rfl ?_
  repeat' (first
    | apply WOps.nil | apply WC.seq | apply WC.reg | apply WC.ret | (apply WOps.cmp; rfl; rfl; rfl; rfl; intro _ _) | (apply WOps.purG; rfl; (intro _; rfl)) | (apply WOps.skp; rfl) | (apply WOps.ask; rfl; all_goals (intro hb; first | subst hb | fail_if_success (cases hb))))
  all_goals refine ⟨trivial, List.Sublist.refl _, [_], ⟨_, [], rfl, rfl, rfl⟩, _, rfl, ?_⟩
  all_goals simp [cmpP, cmpS, plainC] at *
  all_goals first | omega | (apply Iff.trans; assumption; omega)

theorem name77_ok {H : HL} (c : Nat) : WF B tab (.func 77) [.int .u8 (.ofNat c)] H fun r H' => H' = H ∧ ∃ b : Bool, r = .bool b ∧ (b = true ↔ plainC c ∨ c = 45) := by
  refine WF.fnR g77 rfl ?_
  repeat' (first
    | apply WOps.nil | apply WC.seq | apply WC.reg | apply WC.ret | (apply WOps.clR; rfl; rfl; exact plain78_ok _; rintro _ ⟨_, rfl, _⟩) | (apply WOps.cmp; rfl; rfl; rfl; rfl; intro _ _) | (apply WOps.purG; rfl; (intro _; rfl)) | (apply WOps.skp; rfl) | (apply WOps.ask; rfl; all_goals (intro hb; first | subst hb | fail_if_success (cases hb))))
  all_goals refine ⟨trivial, List.Sublist.refl _, [_], ⟨_, [], rfl, rfl, rfl⟩, _, rfl, ?_⟩
  all_goals simp only [cmpP, cmpS, plainC, true_iff, false_iff, Bool.false_eq_true, Int.ofNat_eq_natCast] at *
  all_goals first | omega | (apply Iff.trans; assumption; omega)
theorem all76_ok {H : HL} (s : List Nat) (hs : s.length ≤ 9223372036854775807) (g : Nat) (p : Nat → Prop) (hy : ∀ c H, WF B tab (.func g) [.int .u8 (.ofNat c)] H fun r H' => H' = H ∧ ∃ b : Bool, r = .bool b ∧ (b = true ↔ p c)) :
    WF B tab (.func 76) [.str s, .fn (.func g) [] []] H fun r H' => H' = H ∧ ∃ b : Bool, r = .bool b ∧ (b = true ↔ ∀ c, c ∈ s → p c) := by
  refine WF.fnR g76 rfl ?_
  repeat' (first
    | apply WOps.nil | apply WC.seq | apply WC.reg | apply WC.block | (apply WOps.lenT; rfl; rfl) | (apply WOps.purG; rfl; (intro _; rfl)))
  refine WC.loop ?_
  obtain ⟨i, hi⟩ : ∃ i : Nat, i = 0 := ⟨0, rfl⟩
  refine WL.le (t' := [(0, .str s), (1, .fn (.func g) [] []), (7, .int .i64 (.ofNat s.length)), (8, .int .i64 (.ofNat i))]) (by subst hi; exact Sub1.cons rfl (Sub1.cons rfl (Sub1.cons rfl (Sub1.cons rfl Sub1.nil)))) ?_
  have hle : i ≤ s.length := by omega
  have hpre : ∀ (j c : Nat), j < i → s[j]? = some c → p c := by intro j c hj; omega
  clear hi
  induction hk : s.length - i using Nat.strongRecOn generalizing i with | _ k ih => ?_
  apply WL.step
  repeat' (first
    | apply WOps.nil | apply WC.seq | apply WC.reg | apply WC.skip | apply WC.ret | apply WC.exit | apply WC.block | (apply WOps.cmp; rfl; rfl; rfl; rfl; intro _ _) | (apply WOps.purG; rfl; (intro _; rfl)) | (apply WC.condA; rfl; all_goals (intro hb; try subst hb)))
  · rename_i hlt
    have hlt : i < s.length := by have h0 := hlt; simp [cmpP] at h0; omega
    obtain ⟨c, hc⟩ : ∃ c, s[i]? = some c := ⟨s[i], List.getElem?_eq_getElem hlt⟩
    repeat' (first
      | apply WOps.nil | apply WC.seq | apply WC.reg | apply WC.skip | apply WC.ret | (apply WOps.ixT; rfl; rfl; rfl; exact hc) | (apply WOps.cvR; rfl; rfl; rfl; exact hy _ _; rintro _ ⟨bb, rfl, hbb⟩) | (apply WOps.addN; rfl; rfl; rfl; omega) | (apply WOps.purG; rfl; (intro _; rfl)) | (apply WC.condA; rfl; all_goals (intro hb; try subst hb)))
    · refine ⟨trivial, List.Sublist.refl _, [_], ⟨_, [], rfl, rfl, rfl⟩, false, rfl, ?_⟩
      simp only [Bool.false_eq_true, false_iff]
      intro h
      have := hbb.2 (h c (List.mem_of_getElem? hc))
      simp_all
    · refine WL.le (t' := [(0, .str s), (1, .fn (.func g) [] []), (7, .int .i64 (.ofNat s.length)), (8, .int .i64 (.ofNat (i + 1)))]) (Sub1.cons rfl (Sub1.cons rfl (Sub1.cons rfl (Sub1.cons rfl Sub1.nil)))) (ih _ (by omega) (i + 1) (by omega) ?_ rfl)
      intro j d hj hd
      rcases Nat.lt_or_ge j i with h1 | h1
      · exact hpre j d h1 hd
      · obtain rfl : j = i := by omega
        rw [hc] at hd
        cases hd
        exact hbb.1 (by simpa using hb)
  · rename_i hge
    have hge : s.length ≤ i := by have h0 := hge; simp [cmpP] at h0; omega
    refine ⟨trivial, List.Sublist.refl _, [_], ⟨_, [], rfl, rfl, rfl⟩, true, rfl, ?_⟩
    simp only [true_iff]
    intro c hc
    obtain ⟨j, hj, e⟩ := List.getElem_of_mem hc
    exact hpre j c (by omega) (by rw [← e]; exact List.getElem?_eq_getElem hj)

/-- A name. -/
def nameP (s : List Nat) : Prop := 1 ≤ s.length ∧ s.length ≤ 24 ∧ ∀ k c, s[k]? = some c → plainC c ∨ (c = 45 ∧ k ≠ 0 ∧ k + 1 ≠ s.length)
theorem not_plain : ¬ plainC 45 := by unfold plainC; omega
theorem name_iff {s : List Nat} {c0 c9 : Nat} (h1 : 1 ≤ s.length) (h2 : s.length ≤ 24) (h0 : s[0]? = some c0) (h9 : s[s.length - 1]? = some c9) : nameP s ↔ c0 ≠ 45 ∧ c9 ≠ 45 ∧ ∀ c, c ∈ s → plainC c ∨ c = 45 := by
  constructor
  · rintro ⟨_, _, h⟩
    refine ⟨?_, ?_, fun c hc => ?_⟩
    · rintro rfl
      rcases h 0 45 h0 with h | ⟨_, h, _⟩
      · exact not_plain h
      · exact h rfl
    · rintro rfl
      rcases h _ 45 h9 with h | ⟨_, _, h⟩
      · exact not_plain h
      · omega
    · obtain ⟨k, hk, rfl⟩ := List.getElem_of_mem hc
      rcases h k _ (List.getElem?_eq_getElem hk) with h | ⟨h, _⟩
      · exact .inl h
      · exact .inr h
  · rintro ⟨k0, k9, h⟩
    refine ⟨h1, h2, fun k c hc => ?_⟩
    rcases h c (List.mem_of_getElem? hc) with h | h
    · exact .inl h
    · refine .inr ⟨h, ?_, ?_⟩
      · rintro rfl; rw [h0] at hc; cases hc; exact k0 h
      · intro e
        have : k = s.length - 1 := by omega
        subst this; rw [h9] at hc; cases hc; exact k9 h
theorem right66_ok {H : HL} (s : List Nat) (hs : s.length ≤ 9223372036854775807) : WF B tab (.func 66) [.str s] H fun r H' => H' = H ∧ ∃ b : Bool, r = .bool b ∧ (b = true ↔ nameP s) := by
  refine WF.fnR g66 rfl ?_
  rcases Nat.eq_zero_or_pos s.length with hz | h1
  · repeat' (first
      | apply WOps.nil | apply WC.seq | apply WC.reg | apply WC.ret | (apply WC.condT; rfl) | (apply WOps.lenT; rfl; rfl) | (apply WOps.cmp; rfl; rfl; rfl; rfl; intro _ _) | (apply WOps.purG; rfl; (intro _; rfl)) | (apply WOps.skp; rfl) | (apply WOps.ask; rfl; all_goals (intro hb; first | subst hb | fail_if_success (cases hb))))
    · exact ⟨trivial, List.Sublist.refl _, [_], ⟨_, [], rfl, rfl, rfl⟩, false, rfl, by simp only [Bool.false_eq_true, false_iff]; intro h; have := h.1; omega⟩
    all_goals
      have h0 := eq_of_ff ‹false = true ↔ cmpP BinOp.lss (Int.ofNat s.length) (Int.ofNat 1)›
      exfalso
      simp [cmpP] at h0
      omega
  · obtain ⟨c9, h9⟩ : ∃ c, s[s.length - 1]? = some c := ⟨s[s.length - 1]'(by omega), List.getElem?_eq_getElem _⟩
    obtain ⟨c0, h0⟩ : ∃ c, s[0]? = some c := ⟨s[0]'(by omega), List.getElem?_eq_getElem _⟩
    repeat' (first
      | apply WOps.nil | apply WC.seq | apply WC.reg | apply WC.skip | apply WC.ret | (apply WC.condT; rfl) | (apply WOps.lenT; rfl; rfl) | (apply WOps.subN; rfl; rfl; rfl; omega; omega) | (apply WOps.ixT; rfl; rfl; rfl; exact h0) | (apply WOps.ixT; rfl; rfl; rfl; exact h9) | (apply WOps.clR; rfl; rfl; exact all76_ok s hs 77 _ (fun c H => name77_ok c); rintro _ ⟨bb, rfl, hbb⟩) | (apply WOps.cmp; rfl; rfl; rfl; rfl; intro _ _) | (apply WOps.purG; rfl; (intro _; rfl)) | (apply WOps.skp; rfl) | (apply WOps.ask; rfl; all_goals (intro hb; first | subst hb | fail_if_success (cases hb))) | (apply WC.condA; rfl; all_goals (intro hb; try subst hb)))
    · have h2 := ‹true = true ↔ cmpP BinOp.lss _ _›.1 rfl
      simp only [cmpP, Int.ofNat_eq_natCast] at h2
      omega
    · have h2 := ‹true = true ↔ cmpP BinOp.gtr _ _›.1 rfl
      simp only [cmpP, Int.ofNat_eq_natCast] at h2
      exact ⟨trivial, List.Sublist.refl _, [_], ⟨_, [], rfl, rfl, rfl⟩, false, rfl, by simp only [Bool.false_eq_true, false_iff]; intro h; have := h.2.1; omega⟩
    all_goals
      have h2 := eq_of_ff ‹false = true ↔ cmpP BinOp.gtr _ _›
      simp only [cmpP, Int.ofNat_eq_natCast] at h2
      rw [name_iff h1 (by omega) h0 h9]
    · have h3 := ‹true = true ↔ cmpP BinOp.eql (Int.ofNat c0) _›.1 rfl
      simp only [cmpP, Int.ofNat_eq_natCast] at h3
      exact ⟨trivial, List.Sublist.refl _, [_], ⟨_, [], rfl, rfl, rfl⟩, false, rfl, by simp only [Bool.false_eq_true, false_iff]; intro h; exact h.1 (by omega)⟩
    · have h3 := ‹true = true ↔ cmpP BinOp.eql (Int.ofNat c9) _›.1 rfl
      simp only [cmpP, Int.ofNat_eq_natCast] at h3
      exact ⟨trivial, List.Sublist.refl _, [_], ⟨_, [], rfl, rfl, rfl⟩, false, rfl, by simp only [Bool.false_eq_true, false_iff]; intro h; exact h.2.1 (by omega)⟩
    · have h3 := eq_of_ff ‹false = true ↔ cmpP BinOp.eql (Int.ofNat c0) _›
      have h4 := eq_of_ff ‹false = true ↔ cmpP BinOp.eql (Int.ofNat c9) _›
      simp only [cmpP, Int.ofNat_eq_natCast] at h3 h4
      exact ⟨trivial, List.Sublist.refl _, [_], ⟨_, [], rfl, rfl, rfl⟩, bb, rfl, by rw [hbb]; exact ⟨fun h => ⟨by omega, by omega, h⟩, fun h => h.2.2⟩⟩
theorem right72_ok {H : HL} (s : List Nat) (hs : s.length ≤ 9223372036854775807) : WF B tab (.func 72) [.str s] H fun r H' => H' = H ∧ ∃ b : Bool, r = .bool b ∧ (b = true ↔ nameP s) := by
  refine WF.fnR g72 rfl ?_
  repeat' (first
    | apply WOps.nil | apply WC.seq | apply WC.reg | apply WC.skip | apply WC.ret | (apply WC.condT; rfl) | apply WC.block | (apply WOps.lenT; rfl; rfl) | (apply WOps.cmp; rfl; rfl; rfl; rfl; intro _ _) | (apply WOps.purG; rfl; (intro _; rfl)) | (apply WOps.skp; rfl) | (apply WOps.ask; rfl; all_goals (intro hb; first | subst hb | fail_if_success (cases hb))) | (apply WC.condA; rfl; all_goals (intro hb; try subst hb)))
  · have h2 := ‹true = true ↔ cmpP BinOp.lss _ _›.1 rfl
    simp only [cmpP, Int.ofNat_eq_natCast] at h2
    exact ⟨trivial, List.Sublist.refl _, [_], ⟨_, [], rfl, rfl, rfl⟩, false, rfl, by simp only [Bool.false_eq_true, false_iff]; intro h; have := h.1; omega⟩
  · have h2 := ‹true = true ↔ cmpP BinOp.gtr _ _›.1 rfl
    simp only [cmpP, Int.ofNat_eq_natCast] at h2
    exact ⟨trivial, List.Sublist.refl _, [_], ⟨_, [], rfl, rfl, rfl⟩, false, rfl, by simp only [Bool.false_eq_true, false_iff]; intro h; have := h.2.1; omega⟩
  have h1 := eq_of_ff ‹false = true ↔ cmpP BinOp.lss (Int.ofNat s.length) (Int.ofNat 1)›
  have h2 := eq_of_ff ‹false = true ↔ cmpP BinOp.gtr (Int.ofNat s.length) (Int.ofNat 24)›
  simp only [cmpP, Int.ofNat_eq_natCast] at h1 h2
  have g1 : 1 ≤ s.length := by omega
  have g2 : s.length ≤ 24 := by omega
  refine WC.loop ?_
  obtain ⟨i, hi⟩ : ∃ i : Nat, i = 0 := ⟨0, rfl⟩
  refine WL.le (t' := [(0, .str s), (3, .int .i64 (.ofNat i))]) (by subst hi; exact Sub1.cons rfl (Sub1.cons rfl Sub1.nil)) ?_
  have hle : i ≤ s.length := by omega
  have hpre : ∀ (j c : Nat), j < i → s[j]? = some c → plainC c ∨ (c = 45 ∧ j ≠ 0 ∧ j + 1 ≠ s.length) := by intro j c hj; omega
  clear hi
  induction hk : s.length - i using Nat.strongRecOn generalizing i with | _ k ih => ?_
  apply WL.step
  repeat' (first
    | apply WOps.nil | apply WC.seq | apply WC.reg | apply WC.skip | apply WC.ret | apply WC.exit | apply WC.block | (apply WOps.lenT; rfl; rfl) | (apply WOps.cmp; rfl; rfl; rfl; rfl; intro _ _) | (apply WOps.purG; rfl; (intro _; rfl)) | (apply WC.condA; rfl; all_goals (intro hb; try subst hb)))
  · have hlt : i < s.length := by have h0 := ‹true = true ↔ cmpP BinOp.lss _ _›.1 rfl; simp [cmpP] at h0; omega
    obtain ⟨c, hc⟩ : ∃ c, s[i]? = some c := ⟨s[i], List.getElem?_eq_getElem hlt⟩
    repeat' (first
      | apply WOps.nil | apply WC.seq | apply WC.reg | apply WC.skip | apply WC.ret | (apply WC.condT; rfl) | (apply WC.condF; rfl) | (apply WOps.ixT; rfl; rfl; rfl; exact hc) | (apply WOps.clR; rfl; rfl; exact plain82_ok _; rintro _ ⟨bb, rfl, hbb⟩; cases bb) | (apply WOps.lenT; rfl; rfl) | (apply WOps.subN; rfl; rfl; rfl; omega; omega) | (apply WOps.addN; rfl; rfl; rfl; omega) | (apply WOps.cmp; rfl; rfl; rfl; rfl; intro _ _) | (apply WOps.purG; rfl; (intro _; rfl)) | (apply WOps.skp; rfl) | (apply WOps.ask; rfl; all_goals (intro hb; first | subst hb | fail_if_success (cases hb))) | (apply WC.condA; rfl; all_goals (intro hb; try subst hb)))
    · have h3 := ‹true = true ↔ cmpP BinOp.neq _ _›.1 rfl
      simp only [cmpP, Int.ofNat_eq_natCast] at h3
      refine ⟨trivial, List.Sublist.refl _, [_], ⟨_, [], rfl, rfl, rfl⟩, false, rfl, ?_⟩
      simp only [Bool.false_eq_true, false_iff]
      rintro ⟨_, _, h⟩
      rcases h i c hc with h | ⟨h, _⟩
      · exact eq_of_ff hbb h
      · omega
    · have h3 := ‹true = true ↔ cmpP BinOp.eql (Int.ofNat i) (Int.ofNat 0)›.1 rfl
      simp only [cmpP, Int.ofNat_eq_natCast] at h3
      refine ⟨trivial, List.Sublist.refl _, [_], ⟨_, [], rfl, rfl, rfl⟩, false, rfl, ?_⟩
      simp only [Bool.false_eq_true, false_iff]
      rintro ⟨_, _, h⟩
      rcases h i c hc with h | ⟨_, h, _⟩
      · exact eq_of_ff hbb h
      · omega
    · have h3 := ‹true = true ↔ cmpP BinOp.eql (Int.ofNat i) (Int.ofNat (s.length - 1))›.1 rfl
      simp only [cmpP, Int.ofNat_eq_natCast] at h3
      refine ⟨trivial, List.Sublist.refl _, [_], ⟨_, [], rfl, rfl, rfl⟩, false, rfl, ?_⟩
      simp only [Bool.false_eq_true, false_iff]
      rintro ⟨_, _, h⟩
      rcases h i c hc with h | ⟨_, _, h⟩
      · exact eq_of_ff hbb h
      · omega
    · have h3 := eq_of_ff ‹false = true ↔ cmpP BinOp.neq _ _›
      have h4 := eq_of_ff ‹false = true ↔ cmpP BinOp.eql (Int.ofNat i) (Int.ofNat 0)›
      have h5 := eq_of_ff ‹false = true ↔ cmpP BinOp.eql (Int.ofNat i) (Int.ofNat (s.length - 1))›
      simp only [cmpP, Int.ofNat_eq_natCast] at h3 h4 h5
      refine WL.le (t' := [(0, .str s), (3, .int .i64 (.ofNat (i + 1)))]) (Sub1.cons rfl (Sub1.cons rfl Sub1.nil)) (ih _ (by omega) (i + 1) (by omega) ?_ rfl)
      intro j d hj hd
      rcases Nat.lt_or_ge j i with h1 | h1
      · exact hpre j d h1 hd
      · obtain rfl : j = i := by omega
        rw [hc] at hd
        cases hd
        exact .inr ⟨by omega, by omega, by omega⟩
    · refine WL.le (t' := [(0, .str s), (3, .int .i64 (.ofNat (i + 1)))]) (Sub1.cons rfl (Sub1.cons rfl Sub1.nil)) (ih _ (by omega) (i + 1) (by omega) ?_ rfl)
      intro j d hj hd
      rcases Nat.lt_or_ge j i with h1 | h1
      · exact hpre j d h1 hd
      · obtain rfl : j = i := by omega
        rw [hc] at hd
        cases hd
        exact .inl (hbb.1 rfl)
  · have hge : s.length ≤ i := by have h0 := eq_of_ff ‹false = true ↔ cmpP BinOp.lss (Int.ofNat i) (Int.ofNat s.length)›; simp only [cmpP, Int.ofNat_eq_natCast] at h0; omega
    exact ⟨trivial, List.Sublist.refl _, [_], ⟨_, [], rfl, rfl, rfl⟩, true, rfl, by simp only [true_iff]; exact ⟨g1, g2, fun k c h => hpre k c (by have := (List.getElem?_eq_some_iff.1 h).1; omega) h⟩⟩
/-- What may be a service's tags. -/
def tagsP (l : List (List Nat)) : Prop := l.length ≤ 4 ∧ (∀ (k : Nat) x, l[k]? = some x → nameP x) ∧ ∀ (k : Nat) x y, l[k]? = some x → l[k + 1]? = some y → strLess x y = true
def strC (k : List Nat) : List AV := [.str k]
theorem strC_at {l : List (List Nat)} {i : Nat} {x : List Nat} (h : l[i]? = some x) : (l.map strC)[i]? = some (strC x) := by rw [List.getElem?_map, h]; rfl
def shortL (l : List (List Nat)) : Prop := ∀ x, x ∈ l → x.length ≤ 9223372036854775807
theorem tags67_ok {H : HL} {v : AV} {l : List (List Nat)} (hv : SlIs B H v 1 (l.map strC)) (hl : l.length ≤ 9223372036854775807) (hs : shortL l) : WF B tab (.func 67) [v] H fun r H' => H' = H ∧ ∃ b : Bool, r = .bool b ∧ (b = true ↔ tagsP l) := by
  refine WF.fnR g67 rfl ?_
  repeat' (first
    | apply WOps.nil | apply WC.seq | apply WC.reg | apply WC.skip | apply WC.ret | apply WC.block | (apply WOps.lenS; rfl; rfl; exact hv) | (apply WOps.cmp; rfl; rfl; rfl; rfl; intro _ _) | (apply WOps.purG; rfl; (intro _; rfl)) | (apply WC.condA; rfl; all_goals (intro hb; try subst hb)))
  all_goals rw [List.length_map] at *
  · have h2 := ‹true = true ↔ cmpP BinOp.gtr _ _›.1 rfl
    simp only [cmpP, Int.ofNat_eq_natCast] at h2
    exact ⟨trivial, List.Sublist.refl _, [_], ⟨_, [], rfl, rfl, rfl⟩, false, rfl, by simp only [Bool.false_eq_true, false_iff]; intro h; have := h.1; omega⟩
  have h4 := eq_of_ff ‹false = true ↔ cmpP BinOp.gtr _ _›
  simp only [cmpP, Int.ofNat_eq_natCast] at h4
  refine WC.loop ?_
  obtain ⟨i, hi⟩ : ∃ i : Nat, i = 0 := ⟨0, rfl⟩
  refine WL.le (t' := [(0, v), (8, v), (9, .int .i64 (.ofNat l.length)), (10, .int .i64 (.ofNat i))]) (by subst hi; exact Sub1.cons rfl (Sub1.cons rfl (Sub1.cons rfl (Sub1.cons rfl Sub1.nil)))) ?_
  have hle : i ≤ l.length := by omega
  have hp1 : ∀ (k : Nat) x, k < i → l[k]? = some x → nameP x := by intro k x hk; omega
  have hp2 : ∀ (k : Nat) x y, k + 1 < i → l[k]? = some x → l[k + 1]? = some y → strLess x y = true := by intro k x y hk; omega
  clear hi
  induction hk : l.length - i using Nat.strongRecOn generalizing i with | _ k ih => ?_
  apply WL.step
  repeat' (first
    | apply WOps.nil | apply WC.seq | apply WC.reg | apply WC.skip | apply WC.ret | apply WC.exit | apply WC.block | (apply WOps.cmp; rfl; rfl; rfl; rfl; intro _ _) | (apply WOps.purG; rfl; (intro _; rfl)) | (apply WC.condA; rfl; all_goals (intro hb; try subst hb)))
  · have hlt : i < l.length := by have h0 := ‹true = true ↔ cmpP BinOp.lss (Int.ofNat i) (Int.ofNat l.length)›.1 rfl; simp only [cmpP, Int.ofNat_eq_natCast] at h0; omega
    obtain ⟨x, hx⟩ : ∃ c, l[i]? = some c := ⟨l[i], List.getElem?_eq_getElem hlt⟩
    have hxs := hs x (List.mem_of_getElem? hx)
    obtain ⟨y, hy⟩ : ∃ c, l[i - 1]? = some c := ⟨l[i - 1]'(by omega), List.getElem?_eq_getElem _⟩
    repeat' (first
      | apply WOps.nil | apply WC.seq | apply WC.reg | apply WC.skip | apply WC.ret | (apply WC.condT; rfl) | (apply WC.condF; rfl) | (apply WOps.ixSl; rfl; rfl; rfl; exact hv; exact strC_at hx; intro a1 l1) | (apply WOps.ixSl; rfl; rfl; rfl; exact hv; exact strC_at hy; intro a2 l2) | (apply WOps.ldG; rfl; rfl; exact l1; rfl) | (apply WOps.ldG; rfl; rfl; exact l2; rfl) | (apply WOps.clR; rfl; rfl; exact right66_ok x hxs; rintro _ ⟨bb, rfl, hbb⟩; cases bb) | (apply WOps.subN; rfl; rfl; rfl; (have h0 := ‹true = true ↔ cmpP BinOp.gtr (Int.ofNat i) (Int.ofNat 0)›.1 rfl; simp only [cmpP, Int.ofNat_eq_natCast] at h0; omega); omega) | (apply WOps.addN; rfl; rfl; rfl; omega) | (apply WOps.cmp; rfl; rfl; rfl; rfl; intro _ _) | (apply WOps.cmpT; rfl; rfl; rfl; rfl; intro _ _) | (apply WOps.purG; rfl; (intro _; rfl)) | (apply WOps.skp; rfl) | (apply WOps.ask; rfl; all_goals (intro hb; first | subst hb | fail_if_success (cases hb))) | (apply WC.condA; rfl; all_goals (intro hb; try subst hb)))
    · refine ⟨trivial, List.Sublist.refl _, [_], ⟨_, [], rfl, rfl, rfl⟩, false, rfl, ?_⟩
      simp only [Bool.false_eq_true, false_iff]
      intro h
      exact eq_of_ff hbb (h.2.1 i x hx)
    · have h3 := ‹true = true ↔ cmpS BinOp.geq _ _›.1 rfl
      have h0 := ‹true = true ↔ cmpP BinOp.gtr (Int.ofNat i) (Int.ofNat 0)›.1 rfl
      simp only [cmpP, Int.ofNat_eq_natCast] at h0
      refine ⟨trivial, List.Sublist.refl _, [_], ⟨_, [], rfl, rfl, rfl⟩, false, rfl, ?_⟩
      simp only [Bool.false_eq_true, false_iff]
      intro h
      exact h3 (h.2.2 (i - 1) y x hy (by rw [Nat.sub_add_cancel (by omega)]; exact hx))
    all_goals
      refine WL.le (t' := [(0, v), (8, v), (9, .int .i64 (.ofNat l.length)), (10, .int .i64 (.ofNat (i + 1)))]) (Sub1.cons rfl (Sub1.cons rfl (Sub1.cons rfl (Sub1.cons rfl Sub1.nil)))) (ih _ (by omega) (i + 1) (by omega) ?_ ?_ rfl)
      · intro j z hj hz
        rcases Nat.lt_or_ge j i with h1 | h1
        · exact hp1 j z h1 hz
        · obtain rfl : j = i := by omega
          rw [hx] at hz; cases hz
          exact hbb.1 rfl
    · intro j z u hj hz hu
      rcases Nat.lt_or_ge (j + 1) i with h1 | h1
      · exact hp2 j z u h1 hz hu
      · have e : j + 1 = i := by omega
        rw [e, hx] at hu; cases hu
        rw [show i - 1 = j by omega, hz] at hy; cases hy
        have h3 := eq_of_ff ‹false = true ↔ cmpS BinOp.geq _ _›
        simpa [cmpS] using h3
    · intro j z u hj hz hu
      have h3 := eq_of_ff ‹false = true ↔ cmpP BinOp.gtr (Int.ofNat i) (Int.ofNat 0)›
      simp only [cmpP, Int.ofNat_eq_natCast] at h3
      omega
  · have hge : l.length ≤ i := by have h0 := eq_of_ff ‹false = true ↔ cmpP BinOp.lss (Int.ofNat i) (Int.ofNat l.length)›; simp only [cmpP, Int.ofNat_eq_natCast] at h0; omega
    exact ⟨trivial, List.Sublist.refl _, [_], ⟨_, [], rfl, rfl, rfl⟩, true, rfl, by simp only [true_iff]; exact ⟨by omega, fun k c h => hp1 k c (by have := (List.getElem?_eq_some_iff.1 h).1; omega) h, fun k x y h1 h2 => hp2 k x y (by have := (List.getElem?_eq_some_iff.1 h2).1; omega) h1 h2⟩⟩
def riseP (l : List (List Nat)) : Prop := ∀ (k : Nat) x y, l[k]? = some x → l[k + 1]? = some y → strLess x y = true
theorem rising83_ok {H : HL} {v : AV} {l : List (List Nat)} (hv : SlIs B H v 1 (l.map strC)) (hl : l.length ≤ 8796093021952) : WF B tab (.func 83) [v] H fun r H' => H' = H ∧ ∃ b : Bool, r = .bool b ∧ (b = true ↔ riseP l) := by
  refine WF.fnR g83 rfl ?_
  repeat' (first
    | apply WOps.nil | apply WC.seq | apply WC.reg | apply WC.block | (apply WOps.purG; rfl; (intro _; rfl)))
  refine WC.loop ?_
  obtain ⟨i, hi⟩ : ∃ i : Nat, i = 1 := ⟨1, rfl⟩
  refine WL.le (t' := [(0, v), (3, .int .i64 (.ofNat i))]) (by subst hi; exact Sub1.cons rfl (Sub1.cons rfl Sub1.nil)) ?_
  have hi1 : 1 ≤ i := by omega
  have hle : i ≤ l.length + 1 := by omega
  have hp2 : ∀ (k : Nat) x y, k + 1 < i → l[k]? = some x → l[k + 1]? = some y → strLess x y = true := by intro k x y hk; omega
  clear hi
  induction hk : l.length + 1 - i using Nat.strongRecOn generalizing i with | _ k ih => ?_
  apply WL.step
  repeat' (first
    | apply WOps.nil | apply WC.seq | apply WC.reg | apply WC.skip | apply WC.ret | apply WC.exit | apply WC.block | apply WC.dreg | (apply WOps.lenS; rfl; rfl; exact hv) | (apply WD.subN; rfl; rfl; rfl; omega; omega) | (apply WOps.cmp; rfl; rfl; rfl; rfl; intro _ _) | (apply WOps.purG; rfl; (intro _; rfl)) | (apply WD.pur; rfl; (intro _; rfl)) | (apply WC.condA; rfl; all_goals (intro hb; try subst hb)))
  all_goals rw [List.length_map] at *
  · have hlt : i < l.length := by have h0 := ‹true = true ↔ cmpP BinOp.lss (Int.ofNat i) (Int.ofNat l.length)›.1 rfl; simp only [cmpP, Int.ofNat_eq_natCast] at h0; omega
    obtain ⟨x, hx⟩ : ∃ c, l[i]? = some c := ⟨l[i], List.getElem?_eq_getElem hlt⟩
    obtain ⟨y, hy⟩ : ∃ c, l[i - 1]? = some c := ⟨l[i - 1]'(by omega), List.getElem?_eq_getElem _⟩
    repeat' (first
      | apply WOps.nil | apply WC.seq | apply WC.reg | apply WC.skip | apply WC.ret | apply WD.nil | (apply WD.ixSl; rfl; rfl; rfl; exact hv; exact strC_at hy; intro a2 l2) | (apply WD.ixSl; rfl; rfl; rfl; exact hv; exact strC_at hx; intro a1 l1) | (apply WD.load; rfl; (first | (apply at1; exact rd_ld rfl (l1 _ hv) rfl; rfl) | (apply at2; exact rd_ld rfl (l1 _ hv) rfl; repeat' (first | exact same0 | (apply same1; exact rd_ld rfl (l1 _ hv) rfl; rfl) | (apply same2; exact rd_ld rfl (l1 _ hv) rfl))))) | (apply WD.load; rfl; (first | (apply at1; exact rd_ld rfl (l2 _ hv) rfl; rfl) | (apply at2; exact rd_ld rfl (l2 _ hv) rfl; repeat' (first | exact same0 | (apply same1; exact rd_ld rfl (l2 _ hv) rfl; rfl) | (apply same2; exact rd_ld rfl (l2 _ hv) rfl))))) | (apply WOps.addN; rfl; rfl; rfl; omega) | (apply WOps.purG; rfl; (intro _; rfl)) | (apply WD.cmpT; rfl; rfl; rfl; rfl; intro _ _) | (apply WD.pur; rfl; (intro _; rfl)) | (apply WC.condA; rfl; all_goals (intro hb; try subst hb)))
    · have h3 := ‹true = true ↔ cmpS BinOp.geq _ _›.1 rfl
      refine ⟨trivial, List.Sublist.refl _, [_], ⟨_, [], rfl, rfl, rfl⟩, false, rfl, ?_⟩
      simp only [Bool.false_eq_true, false_iff]
      intro h
      exact h3 (h (i - 1) y x hy (by rw [Nat.sub_add_cancel (by omega)]; exact hx))
    · refine WL.le (t' := [(0, v), (3, .int .i64 (.ofNat (i + 1)))]) (Sub1.cons rfl (Sub1.cons rfl Sub1.nil)) (ih _ (by omega) (i + 1) (by omega) (by omega) ?_ rfl)
      intro j z u hj hz hu
      rcases Nat.lt_or_ge (j + 1) i with h1 | h1
      · exact hp2 j z u h1 hz hu
      · have e : j + 1 = i := by omega
        rw [e, hx] at hu; cases hu
        rw [show i - 1 = j by omega, hz] at hy; cases hy
        have h3 := eq_of_ff ‹false = true ↔ cmpS BinOp.geq _ _›
        simpa [cmpS] using h3
  · have hge : l.length ≤ i := by have h0 := eq_of_ff ‹false = true ↔ cmpP BinOp.lss (Int.ofNat i) (Int.ofNat l.length)›; simp only [cmpP, Int.ofNat_eq_natCast] at h0; omega
    exact ⟨trivial, List.Sublist.refl _, [_], ⟨_, [], rfl, rfl, rfl⟩, true, rfl, by simp only [true_iff]; exact fun k x y h1 h2 => hp2 k x y (by have := (List.getElem?_eq_some_iff.1 h2).1; omega) h1 h2⟩
theorem tags73_ok {H : HL} {v : AV} {l : List (List Nat)} (hv : SlIs B H v 1 (l.map strC)) (hl : l.length ≤ 8796093021952) (hs : shortL l) : WF B tab (.func 73) [v] H fun r H' => H' = H ∧ ∃ b : Bool, r = .bool b ∧ (b = true ↔ tagsP l) := by
  refine WF.fnR g73 rfl ?_
  repeat' (first
    | apply WOps.nil | apply WC.seq | apply WC.reg | apply WC.skip | apply WC.ret | (apply WC.condT; rfl) | (apply WC.condF; rfl) | apply WC.block | (apply WOps.lenS; rfl; rfl; exact hv) | (apply WOps.clR; rfl; rfl; exact rising83_ok hv hl; rintro _ ⟨bb, rfl, hbb⟩; cases bb) | (apply WOps.cmp; rfl; rfl; rfl; rfl; intro _ _) | (apply WOps.purG; rfl; (intro _; rfl)) | (apply WOps.skp; rfl) | (apply WOps.ask; rfl; all_goals (intro hb; first | subst hb | fail_if_success (cases hb))))
  all_goals rw [List.length_map] at *
  · have h2 := ‹true = true ↔ cmpP BinOp.gtr _ _›.1 rfl
    simp only [cmpP, Int.ofNat_eq_natCast] at h2
    exact ⟨trivial, List.Sublist.refl _, [_], ⟨_, [], rfl, rfl, rfl⟩, false, rfl, by simp only [Bool.false_eq_true, false_iff]; intro h; have := h.1; omega⟩
  · exact ⟨trivial, List.Sublist.refl _, [_], ⟨_, [], rfl, rfl, rfl⟩, false, rfl, by simp only [Bool.false_eq_true, false_iff]; intro h; exact eq_of_ff hbb h.2.2⟩
  have h4 := eq_of_ff ‹false = true ↔ cmpP BinOp.gtr _ _›
  simp only [cmpP, Int.ofNat_eq_natCast] at h4
  have g4 : l.length ≤ 4 := by omega
  refine WC.loop ?_
  obtain ⟨i, hi⟩ : ∃ i : Nat, i = 0 := ⟨0, rfl⟩
  refine WL.le (t' := [(0, v), (3, .int .i64 (.ofNat i))]) (by subst hi; exact Sub1.cons rfl (Sub1.cons rfl Sub1.nil)) ?_
  have hle : i ≤ l.length := by omega
  have hp1 : ∀ (k : Nat) x, k < i → l[k]? = some x → nameP x := by intro k x hk; omega
  clear hi
  induction hk : l.length - i using Nat.strongRecOn generalizing i with | _ k ih => ?_
  apply WL.step
  repeat' (first
    | apply WOps.nil | apply WC.seq | apply WC.reg | apply WC.skip | apply WC.ret | apply WC.exit | apply WC.block | (apply WOps.lenS; rfl; rfl; exact hv) | (apply WOps.cmp; rfl; rfl; rfl; rfl; intro _ _) | (apply WOps.purG; rfl; (intro _; rfl)) | (apply WC.condA; rfl; all_goals (intro hb; try subst hb)))
  all_goals rw [List.length_map] at *
  · have hlt : i < l.length := by have h0 := ‹true = true ↔ cmpP BinOp.lss (Int.ofNat i) (Int.ofNat l.length)›.1 rfl; simp only [cmpP, Int.ofNat_eq_natCast] at h0; omega
    obtain ⟨x, hx⟩ : ∃ c, l[i]? = some c := ⟨l[i], List.getElem?_eq_getElem hlt⟩
    have hxs := hs x (List.mem_of_getElem? hx)
    repeat' (first
      | apply WOps.nil | apply WC.seq | apply WC.reg | apply WC.skip | apply WC.ret | (apply WC.condT; rfl) | (apply WC.condF; rfl) | (apply WOps.ixSl; rfl; rfl; rfl; exact hv; exact strC_at hx; intro a1 l1) | (apply WOps.ldG; rfl; rfl; exact l1; rfl) | (apply WOps.clR; rfl; rfl; exact right72_ok x hxs; rintro _ ⟨bb, rfl, hb2⟩; cases bb) | (apply WOps.addN; rfl; rfl; rfl; omega) | (apply WOps.purG; rfl; (intro _; rfl)))
    · refine ⟨trivial, List.Sublist.refl _, [_], ⟨_, [], rfl, rfl, rfl⟩, false, rfl, ?_⟩
      simp only [Bool.false_eq_true, false_iff]
      intro h
      exact eq_of_ff hb2 (h.2.1 i x hx)
    · refine WL.le (t' := [(0, v), (3, .int .i64 (.ofNat (i + 1)))]) (Sub1.cons rfl (Sub1.cons rfl Sub1.nil)) (ih _ (by omega) (i + 1) (by omega) ?_ rfl)
      intro j z hj hz
      rcases Nat.lt_or_ge j i with h1 | h1
      · exact hp1 j z h1 hz
      · obtain rfl : j = i := by omega
        rw [hx] at hz; cases hz
        exact hb2.1 rfl
  · have hge : l.length ≤ i := by have h0 := eq_of_ff ‹false = true ↔ cmpP BinOp.lss (Int.ofNat i) (Int.ofNat l.length)›; simp only [cmpP, Int.ofNat_eq_natCast] at h0; omega
    exact ⟨trivial, List.Sublist.refl _, [_], ⟨_, [], rfl, rfl, rfl⟩, true, rfl, by simp only [true_iff]; exact ⟨g4, fun k c h => hp1 k c (by have := (List.getElem?_eq_some_iff.1 h).1; omega) h, hbb.1 rfl⟩⟩
theorem WOps.cvS {T : Tr FnI} {t : EL} {H : HL} {Q : EL → HL → Prop} {os : List AOper} {k : Nat} {g : Option (Nat × Bool)} {x : AO} {a : AA} {n : Nat} {cs : List AV} {s : List Nat} (hg : wantedL g t = some true) (hx : gl t x = some (.sl a (n + 1) 1)) (hl : Ld B H a (n + 1) cs) (hb : bytesOf cs = some s)
    (w : WOps B T os ((k, .str s) :: t) H Q) : WOps B T (⟨some k, .cvStr x, g⟩ :: os) t H Q :=
  WOps.go hg (fun env h F le sp => ⟨.str s, h, H, w, sp, Ev.of fun m => by
    simp only [evOp, aop, rd_mono le hx, Nat.beq_refl, hl.cells sp, hb]⟩)
theorem digit17_ok {H : HL} {n : Nat} (hn : n < 8) : WF B tab (.func 17) [.int .i64 (.ofNat n)] H fun r H' => H' = H ∧ r = .str [48 + n] := by
  refine WF.lessP ?_
  refine WF.fn g17 rfl ?_
  rcases (by omega : n = 0 ∨ n = 1 ∨ n = 2 ∨ n = 3 ∨ n = 4 ∨ n = 5 ∨ n = 6 ∨ n = 7) with rfl | rfl | rfl | rfl | rfl | rfl | rfl | rfl
  all_goals repeat' (first
              | apply WOps.nil | apply WC.seq | apply WC.reg | apply WC.ret | (apply WOps.bsl; rfl; (first | rfl | ((repeat' (first | exact ac0 | apply ac1)) <;> (first | rfl | assumption))); intro _) | (apply WOps.cvS; rfl; rfl; exact ld0 rfl; rfl) | (apply WOps.purG; rfl; (intro _; rfl)))
  all_goals exact ⟨trivial, [_], ⟨_, [], rfl, rfl, rfl⟩, H, ⟨rfl, rfl⟩, subF (by intro f; simp only [AV.cells, List.append_eq, List.map_cons, List.map_nil, List.sum_nil, List.map_append, List.sum_cons, List.sum_append, List.cons_append, List.nil_append, List.append_assoc, List.append_nil]; omega)⟩
theorem right15_ok {H : HL} (m : Int) : WF B tab (.func 15) [.int .i64 m] H fun r H' => H' = H ∧ ((r = .bool true ∧ ∃ n : Nat, n < 8 ∧ m = .ofNat n) ∨ (r = .bool false ∧ ¬ (0 ≤ m ∧ m < 8))) := by
  refine WF.fnR g15 rfl ?_
  repeat' (first
    | apply WOps.nil | apply WC.seq | apply WC.reg | apply WC.ret | (apply WOps.cmp; rfl; rfl; rfl; rfl; intro _ _) | (apply WOps.purG; rfl; (intro _; rfl)) | (apply WOps.skp; rfl) | (apply WOps.ask; rfl; all_goals (intro hb; first | subst hb | fail_if_success (cases hb))))
  · rename_i v hv
    have h1 := ‹true = true ↔ cmpP BinOp.geq m _›.1 rfl
    simp only [cmpP, Int.ofNat_eq_natCast] at h1 hv
    cases v
    · have h2 := eq_of_ff hv
      exact ⟨trivial, List.Sublist.refl _, [_], ⟨_, [], rfl, rfl, rfl⟩, .inr ⟨rfl, by omega⟩⟩
    · have h2 := hv.1 rfl
      exact ⟨trivial, List.Sublist.refl _, [_], ⟨_, [], rfl, rfl, rfl⟩, .inl ⟨rfl, m.toNat, by omega, by simp only [Int.ofNat_eq_natCast]; omega⟩⟩
  · have h1 := eq_of_ff ‹false = true ↔ cmpP BinOp.geq m _›
    simp only [cmpP, Int.ofNat_eq_natCast] at h1
    exact ⟨trivial, List.Sublist.refl _, [_], ⟨_, [], rfl, rfl, rfl⟩, .inr ⟨rfl, by omega⟩⟩
def keyN (n : Nat) : List Nat := [48 + n]
def keyS (n : Nat) (id : List Nat) : List Nat := (48 + n) :: 32 :: id
theorem WOps.catS {T : Tr FnI} {t : EL} {H : HL} {Q : EL → HL → Prop} {os : List AOper} {k : Nat} {g : Option (Nat × Bool)} {x y : AO} {a b : List Nat} (hg : wantedL g t = some true) (hx : gl t x = some (.str a)) (hy : gl t y = some (.str b)) (h : a.length + b.length ≤ 4611686018427387904)
    (w : WOps B T os ((k, .str (a ++ b)) :: t) H Q) : WOps B T (⟨some k, .bin .add x y, g⟩ :: os) t H Q :=
  WOps.purG hg (fun h' => by simp only [aopL, hx, hy, aBin, if_pos h, pure1]) w
theorem key20_ok {H : HL} {n : Nat} {id : List Nat} (hn : n < 8) (hid : id.length ≤ 140737488351232) : WF B tab (.func 20) [.int .i64 (.ofNat n), .str id] H fun r H' => H' = H ∧ r = .str (keyS n id) := by
  refine WF.fnR g20 rfl ?_
  repeat' (first
    | apply WOps.nil | apply WC.seq | apply WC.reg | apply WC.ret | (apply WOps.clR; rfl; rfl; exact digit17_ok hn; rintro _ rfl) | (apply WOps.catS; rfl; rfl; rfl; (simp only [List.length_append, List.length_cons, List.length_nil]; omega)) | (apply WOps.purG; rfl; (intro _; rfl)))
  exact ⟨trivial, List.Sublist.refl _, [_], ⟨_, [], rfl, rfl, rfl⟩, rfl⟩
theorem find_leastN {es : List (TE NV)} {key : List Nat} {k : Nat} {r : AV} (so : Rise es) (hk : isLeast (notBelow es key) es.length k)
    (h : (∃ h : k < es.length, es[k].key = key ∧ r = .tup [.agg (rowN es[k]), .bool true]) ∨ ((¬ ∃ h : k < es.length, es[k].key = key) ∧ r = .tup [.agg (rowN zeN), .bool false])) :
    (∃ x, findE es key = some x ∧ r = .tup [.agg (rowN x), .bool true]) ∨ (findE es key = none ∧ r = .tup [.agg (rowN zeN), .bool false]) := by
  rcases find_at (sorted_of so) hk with ⟨h1, h2, h3⟩ | ⟨h1, h2⟩
  · rcases h with ⟨_, _, h⟩ | ⟨h, _⟩
    · exact .inl ⟨_, h3, h⟩
    · exact absurd ⟨h1, h2⟩ h
  · rcases h with ⟨h3, h4, _⟩ | ⟨_, h⟩
    · exact absurd ⟨h3, h4⟩ h1
    · exact .inr ⟨h2, h⟩
theorem find_leastS {es : List (TE SV)} {key : List Nat} {k : Nat} {r : AV} (so : Rise es) (hk : isLeast (notBelow es key) es.length k)
    (h : (∃ h : k < es.length, es[k].key = key ∧ r = .tup [.agg (rowS es[k]), .bool true]) ∨ ((¬ ∃ h : k < es.length, es[k].key = key) ∧ r = .tup [.agg (rowS zeS), .bool false])) :
    (∃ x, findE es key = some x ∧ r = .tup [.agg (rowS x), .bool true]) ∨ (findE es key = none ∧ r = .tup [.agg (rowS zeS), .bool false]) := by
  rcases find_at (sorted_of so) hk with ⟨h1, h2, h3⟩ | ⟨h1, h2⟩
  · rcases h with ⟨_, _, h⟩ | ⟨h, _⟩
    · exact .inl ⟨_, h3, h⟩
    · exact absurd ⟨h1, h2⟩ h
  · rcases h with ⟨h3, h4, _⟩ | ⟨_, h⟩
    · exact absurd ⟨h3, h4⟩ h1
    · exact .inr ⟨h2, h⟩
theorem getN_at {H R : HL} {a most : Nat} {last : Int} {es : List (TE NV)} {key : List Nat} (hm : 1 ≤ most) (hn : es.length ≤ 1000) (so : Rise es) (t : TbN H a most es last R) :
    WF B tab (.func 79) [.ptr ⟨false, a, 0⟩, .str key] H fun r H' => H' = H ∧ ((∃ x, findE es key = some x ∧ r = .tup [.agg (rowN x), .bool true]) ∨ (findE es key = none ∧ r = .tup [.agg (rowN zeN), .bool false])) := by
  obtain ⟨v, h0, h1, h2, h3, h4⟩ := t.rd (B := B)
  refine WF.mono (get79_ok h0 hm h1 h4 (by omega) (sorted_of so)) ?_
  rintro r _ ⟨rfl, k, h5, h6⟩
  exact ⟨rfl, find_leastN so h5 h6⟩
theorem getS_at {H R : HL} {a most : Nat} {last : Int} {es : List (TE SV)} {key : List Nat} (hm : 1 ≤ most) (hn : es.length ≤ 1000) (so : Rise es) (t : TbS H a most es last R) :
    WF B tab (.func 70) [.ptr ⟨false, a, 0⟩, .str key] H fun r H' => H' = H ∧ ((∃ x, findE es key = some x ∧ r = .tup [.agg (rowS x), .bool true]) ∨ (findE es key = none ∧ r = .tup [.agg (rowS zeS), .bool false])) := by
  obtain ⟨v, h0, h1, h2, h3, h4⟩ := t.rd (B := B)
  refine WF.mono (get70_ok h0 hm h1 h4 (by omega) (sorted_of so)) ?_
  rintro r _ ⟨rfl, k, h5, h6⟩
  exact ⟨rfl, find_leastS so h5 h6⟩
/-- Is a node there? -/
def hasN (es : List (TE NV)) (m : Int) : Prop := ∃ n : Nat, n < 8 ∧ m = .ofNat n ∧ findE es (keyN n) ≠ none
theorem there68_ok {H R : HL} {rp a most : Nat} {last m : Int} {es : List (TE NV)} (hm : 1 ≤ most) (hn : es.length ≤ 1000) (so : Rise es) (t : TbN H a most es last R) (hr : Ld B H ⟨false, rp, 0⟩ 1 [.ptr ⟨false, a, 0⟩]) :
    WF B tab (.func 68) [.ptr ⟨false, rp, 0⟩, .int .i64 m] H fun r H' => H' = H ∧ ∃ b : Bool, r = .bool b ∧ (b = true ↔ hasN es m) := by
  refine WF.lessP ?_
  refine WF.fn g68 rfl ?_
  repeat' (first
    | apply WOps.nil | apply WC.seq | apply WC.reg | apply WC.skip | apply WC.ret | (apply WC.condT; rfl) | (apply WC.condF; rfl) | apply WC.dreg | apply WD.nil | (apply WD.st; rfl; rfl; rfl; (first | exact tk0 | exact tk1 | exact tk2); rfl; (first | rfl | ((repeat' (first | exact ac0 | apply ac1)) <;> (first | rfl | assumption))); rfl) | (apply WD.alc; rfl; rfl; intro _) | (apply WOps.clR; rfl; rfl; exact right15_ok m; rintro _ (⟨rfl, n, hn8, rfl⟩ | ⟨rfl, hno⟩)) | (apply WD.clR; rfl; rfl; exact digit17_ok hn8; rintro _ rfl) | (apply WD.clR; rfl; rfl; exact getN_at hm hn so t; rintro _ (⟨x, hx, rfl⟩ | ⟨hx, rfl⟩)) | (apply WD.load; rfl; (first | (apply at1; exact rd_ld rfl (hr) rfl; rfl) | (apply at2; exact rd_ld rfl (hr) rfl; repeat' (first | exact same0 | (apply same1; exact rd_ld rfl (hr) rfl; rfl) | (apply same2; exact rd_ld rfl (hr) rfl))))) | (apply WOps.purG; rfl; (intro _; rfl)) | (apply WD.pur; rfl; (intro _; rfl)))
  · exact ⟨trivial, [_], ⟨_, [], rfl, rfl, rfl⟩, H, ⟨rfl, _, rfl, ⟨fun _ => ⟨n, hn8, rfl, fun h => (by rw [show keyN n = [48 + n] from rfl, hx] at h; cases h)⟩, fun _ => rfl⟩⟩, subF (by intro f; simp only [AV.cells, List.append_eq, List.map_cons, List.map_nil, List.sum_nil, List.map_append, List.sum_cons, List.sum_append, List.cons_append, List.nil_append, List.append_assoc, List.append_nil]; omega)⟩
  · refine ⟨trivial, [_], ⟨_, [], rfl, rfl, rfl⟩, H, ⟨rfl, _, rfl, ?_⟩, subF (by intro f; simp only [AV.cells, List.append_eq, List.map_cons, List.map_nil, List.sum_nil, List.map_append, List.sum_cons, List.sum_append, List.cons_append, List.nil_append, List.append_assoc, List.append_nil]; omega)⟩
    simp only [Bool.false_eq_true, false_iff]
    rintro ⟨n2, h2, h3, h4⟩
    have : n2 = n := by simp only [Int.ofNat_eq_natCast] at h3; omega
    subst this
    exact h4 hx
  · refine ⟨trivial, [_], ⟨_, [], rfl, rfl, rfl⟩, H, ⟨rfl, _, rfl, ?_⟩, SubP.refl⟩
    simp only [Bool.false_eq_true, false_iff]
    rintro ⟨n2, h2, rfl, h4⟩
    exact hno ⟨Int.natCast_nonneg _, by show (n2 : Int) < 8; omega⟩
end Go.Proofs.Ytgpnpcahcegadaa.RO
