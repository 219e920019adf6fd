/- What the functions do, shown by the logic. -/
import Derived.Test.YtgpnpcahcegadaaGreatROTab
import Derived.Test.YtgpnpcahcegadaaGreatAbsN6
import Derived.Test.YtgpnpcahcegadaaGreatAbsN2
set_option linter.unusedSimpArgs false
set_option linter.unusedVariables false
set_option linter.unusedSectionVars false
set_option maxRecDepth 20000
namespace Go.Proofs.YtgpnpcahcegadaaGreat.RO
open Go.Proofs.YtgpnpcahcegadaaGreat.Abs
variable {B : Nat → List AV}
theorem pm : (∀ (f : Nat × AObj → Nat) a l, List.map f (a :: l) = f a :: List.map f l) ∧ (∀ f : Nat × AObj → Nat, List.map f [] = []) ∧ (List.sum ([] : List Nat) = 0) ∧ (∀ (f : Nat × AObj → Nat) (a b : HL), List.map f (a ++ b) = List.map f a ++ List.map f b) ∧ (∀ (a : Nat) l, (a :: l).sum = a + l.sum) ∧ (∀ a b : List Nat, (a ++ b).sum = a.sum + b.sum) ∧ (∀ (a : Nat × AObj) (l m : HL), (a :: l) ++ m = a :: (l ++ m)) ∧ (∀ l : HL, [] ++ l = l) ∧ (∀ a b c : HL, a ++ b ++ c = a ++ (b ++ c)) ∧ (∀ a : HL, a ++ [] = a) ∧ (∀ a b : HL, List.append a b = a ++ b) :=
  ⟨fun _ _ _ => rfl, fun _ => rfl, rfl, fun _ _ _ => List.map_append, fun _ _ => List.sum_cons, fun _ _ => List.sum_append, fun _ _ _ => rfl, fun _ => rfl, List.append_assoc, List.append_nil, fun _ _ => rfl⟩
def isLeast (p : Nat → Prop) (n k : Nat) : Prop := k ≤ n ∧ (∀ m, m < k → ¬ p m) ∧ (∀ m, k ≤ m → m < n → p m)
structure TE (V : Type) where
 key : List Nat
 v : V
 mke : Int
 ix : Int
theorem rd_ld0 {t : EL} {H : HL} {x : AO} {a : AA} {v : AV} (hx : gl t x = some (.ptr a)) (hl : Ld B H a 1 [v]) : Rd B (.load false 1 x) t H v := rd_ld hx hl rfl
theorem less_cons {x y : Nat} {a b : List Nat} : strLess (x :: a) (y :: b) = true ↔ x < y ∨ (x = y ∧ strLess a b = true) := by
 have h1 : Nat.beq x y = true ↔ x = y := ⟨Nat.eq_of_beq_eq_true, fun e => by rw [e]; exact Nat.beq_refl y⟩
 simp only [strLess, Bool.or_eq_true, Bool.and_eq_true, h1, Nat.blt_eq]
theorem less_trans : ∀ {a b c : List Nat}, strLess a b = true → strLess b c = true → strLess a c = true := by
 intro a
 induction a with
 | nil =>
  intro b c h1 h2
  cases b with
  | nil => cases h1
  | cons y b => cases c with
   | nil => cases h2
   | cons z c => rfl
 | cons x a ih =>
  intro b c h1 h2
  cases b with
  | nil => cases h1
  | cons y b => cases c with
   | nil => cases h2
   | cons z c =>
    rw [less_cons] at h1 h2 ⊢
    rcases h1 with h1 | ⟨rfl, h1⟩
    ·rcases h2 with h2 | ⟨rfl, h2⟩
     ·left; omega
     ·left; exact h1
    ·rcases h2 with h2 | ⟨rfl, h2⟩
     ·left; exact h2
     ·right; exact ⟨rfl, ih h1 h2⟩
theorem less_irr : ∀ {a : List Nat}, strLess a a = false := by
 intro a
 induction a with
 | nil => rfl
 | cons x a ih =>
  rw [Bool.eq_false_iff, Ne, less_cons]
  rintro (h | ⟨_, h⟩)
  ·omega
  ·rw [ih] at h; cases h
theorem less_total : ∀ {a b : List Nat}, strLess a b = false → strLess b a = false → a = b := by
 intro a
 induction a with
 | nil =>
  intro b h1 h2
  cases b with
  | nil => rfl
  | cons y b => cases h1
 | cons x a ih =>
  intro b h1 h2
  cases b with
  | nil => cases h2
  | cons y b =>
   have e1 : ¬ (x < y ∨ x = y ∧ strLess a b = true) := by
    intro h; rw [Bool.eq_false_iff] at h1; apply h1
    exact less_cons.2 h
   have e2 : ¬ (y < x ∨ y = x ∧ strLess b a = true) := by
    intro h; rw [Bool.eq_false_iff] at h2; apply h2
    exact less_cons.2 h
   have hxy : x = y := by omega
   subst hxy
   have h3 : strLess a b = false := by rw [Bool.eq_false_iff]; intro h; exact e1 (.inr ⟨rfl, h⟩)
   have h4 : strLess b a = false := by rw [Bool.eq_false_iff]; intro h; exact e2 (.inr ⟨rfl, h⟩)
   rw [ih h3 h4]
def Sorted {V : Type} (es : List (TE V)) : Prop := ∀ (i j : Nat) (hi : i < es.length) (hj : j < es.length), i < j → strLess es[i].key es[j].key = true
def notBelow {V : Type} (es : List (TE V)) (key : List Nat) (m : Nat) : Prop := ∃ h : m < es.length, ¬ strLess es[m].key key = true
theorem notBelow_mono {V : Type} {es : List (TE V)} {key : List Nat} (so : Sorted es) : ∀ i j, i ≤ j → j < es.length → notBelow es key i → notBelow es key j := by
 rintro i j hij hj ⟨hi, h⟩
 refine ⟨hj, fun h2 => ?_⟩
 rcases Nat.lt_or_ge i j with h1 | h1
 ·exact h (less_trans (so i j hi hj h1) h2)
 ·obtain rfl : i = j := by omega
  exact h h2
section kl
variable {V : Type}
def findE : List (TE V) → List Nat → Option (TE V)
 | [], _ => none
 | x :: r, key => if x.key = key then some x else findE r key
def putE : List (TE V) → TE V → List (TE V)
 | [], e => [e]
 | x :: r, e => if x.key = e.key then { e with mke := x.mke } :: r else if strLess e.key x.key = true then e :: x :: r else x :: putE r e
def dropE : List (TE V) → List Nat → List (TE V)
 | [], _ => []
 | x :: r, key => if x.key = key then dropE r key else x :: dropE r key
theorem less_asymm {a b : List Nat} (h : strLess a b = true) : ¬ strLess b a = true := fun h2 => by
 have := less_trans h h2
 rw [less_irr] at this; cases this
theorem less_ne {a b : List Nat} (h : strLess a b = true) : a ≠ b := by
 rintro rfl
 rw [less_irr] at h; cases h
def AllBelow (es : List (TE V)) (key : List Nat) : Prop := ∀ x, x ∈ es → strLess x.key key = true
def Above (es : List (TE V)) (key : List Nat) : Prop := ∀ x, x ∈ es → strLess key x.key = true
inductive Rise : List (TE V) → Prop
 | nil : Rise []
 | cons {x : TE V} {r : List (TE V)} (h : Above r x.key) (k : Rise r) : Rise (x :: r)
theorem sorted_of : ∀ {es : List (TE V)}, Rise es → Sorted es := by
 intro es h
 induction h with
 | nil => intro i j hi; exact absurd hi (by simp)
 | @cons x r h k ih =>
  intro i j hi hj hij
  cases j with
  | zero => omega
  | succ j =>
   cases i with
   | zero => exact h _ (List.getElem_mem _)
   | succ i => exact ih i j (by simpa using hi) (by simpa using hj) (by omega)
theorem find_below {A Bs : List (TE V)} {key : List Nat} (h : AllBelow A key) : findE (A ++ Bs) key = findE Bs key := by
 induction A with
 | nil => rfl
 | cons x A ih =>
  have hx := h x (by simp)
  simp only [List.cons_append, findE, if_neg (less_ne hx)]
  exact ih fun y hy => h y (by simp [hy])
theorem put_below {A Bs : List (TE V)} {e : TE V} (h : AllBelow A e.key) : putE (A ++ Bs) e = A ++ putE Bs e := by
 induction A with
 | nil => rfl
 | cons x A ih =>
  have hx := h x (by simp)
  simp only [List.cons_append, putE, if_neg (less_ne hx), if_neg (less_asymm hx)]
  rw [ih fun y hy => h y (by simp [hy])]
theorem drop_below {A Bs : List (TE V)} {key : List Nat} (h : AllBelow A key) : dropE (A ++ Bs) key = A ++ dropE Bs key := by
 induction A with
 | nil => rfl
 | cons x A ih =>
  have hx := h x (by simp)
  simp only [List.cons_append, dropE, if_neg (less_ne hx)]
  rw [ih fun y hy => h y (by simp [hy])]
theorem find_above {Bs : List (TE V)} {key : List Nat} (h : Above Bs key) : findE Bs key = none := by
 induction Bs with
 | nil => rfl
 | cons x Bs ih =>
  have hx := h x (by simp)
  simp only [findE, if_neg (less_ne hx).symm]
  exact ih fun y hy => h y (by simp [hy])
theorem drop_above {Bs : List (TE V)} {key : List Nat} (h : Above Bs key) : dropE Bs key = Bs := by
 induction Bs with
 | nil => rfl
 | cons x Bs ih =>
  have hx := h x (by simp)
  simp only [dropE, if_neg (less_ne hx).symm]
  rw [ih fun y hy => h y (by simp [hy])]
theorem put_above {Bs : List (TE V)} {e : TE V} (h : Above Bs e.key) : putE Bs e = e :: Bs := by
 cases Bs with
 | nil => rfl
 | cons x Bs =>
  have hx := h x (by simp)
  simp only [putE, if_neg (less_ne hx).symm, if_pos hx]
theorem put_hit {Bs : List (TE V)} {x e : TE V} (h : x.key = e.key) : putE (x :: Bs) e = { e with mke := x.mke } :: Bs := by simp only [putE, if_pos h]
theorem find_hit {Bs : List (TE V)} {x : TE V} {key : List Nat} (h : x.key = key) : findE (x :: Bs) key = some x := by simp only [findE, if_pos h]
theorem drop_hit {Bs : List (TE V)} {x : TE V} {key : List Nat} (h : x.key = key) : dropE (x :: Bs) key = dropE Bs key := by simp only [dropE, if_pos h]
theorem halves_at {es : List (TE V)} {key : List Nat} {k : Nat} (so : Sorted es) (hk : isLeast (notBelow es key) es.length k) :
  AllBelow (es.take k) key ∧ ((∃ h : k < es.length, es[k].key = key ∧ Above (es.drop (k + 1)) key ∧ es.drop k = es[k] :: es.drop (k + 1)) ∨ ((¬ ∃ h : k < es.length, es[k].key = key) ∧ Above (es.drop k) key)) := by
 obtain ⟨h0, h1, h2⟩ := hk
 constructor
 ·intro x hx
  obtain ⟨j, hj, rfl⟩ := List.getElem_of_mem hx
  rw [List.length_take] at hj
  rw [List.getElem_take]
  have := h1 j (by omega)
  simp only [notBelow, not_exists, Decidable.not_not] at this
  exact this (by omega)
 ·by_cases hc : ∃ h : k < es.length, es[k].key = key
  ·obtain ⟨hlt, hkey⟩ := hc
   refine .inl ⟨hlt, hkey, ?_, List.drop_eq_getElem_cons hlt⟩
   intro x hx
   obtain ⟨j, hj, rfl⟩ := List.getElem_of_mem hx
   rw [List.length_drop] at hj
   rw [List.getElem_drop]
   have := so k (k + 1 + j) hlt (by omega) (by omega)
   rw [← hkey]; exact this
  ·refine .inr ⟨hc, ?_⟩
   have hfst : ∀ (hlt : k < es.length), strLess key es[k].key = true := fun hlt => by
    obtain ⟨_, hn⟩ := h2 k (Nat.le_refl _) hlt
    cases hb : strLess key es[k].key with
    | true => rfl
    | false => exact absurd ⟨hlt, less_total (Bool.eq_false_iff.2 hn) hb⟩ hc
   intro x hx
   obtain ⟨j, hj, rfl⟩ := List.getElem_of_mem hx
   rw [List.length_drop] at hj
   rw [List.getElem_drop]
   have h3 := hfst (by omega)
   cases j with
   | zero => simpa using h3
   | succ j => exact less_trans h3 (so k (k + (j + 1)) (by omega) (by omega) (by omega))
theorem find_at {es : List (TE V)} {key : List Nat} {k : Nat} (so : Sorted es) (hk : isLeast (notBelow es key) es.length k) :
  (∃ h : k < es.length, es[k].key = key ∧ findE es key = some es[k]) ∨ ((¬ ∃ h : k < es.length, es[k].key = key) ∧ findE es key = none) := by
 obtain ⟨h1, h2⟩ := halves_at so hk
 have e : findE es key = findE (es.drop k) key := by
  rw [← find_below (Bs := es.drop k) h1, List.take_append_drop]
 rcases h2 with ⟨h, h3, h4, h5⟩ | ⟨h3, h4⟩
 ·exact .inl ⟨h, h3, by rw [e, h5, find_hit h3]⟩
 ·exact .inr ⟨h3, by rw [e, find_above h4]⟩
theorem put_at {es : List (TE V)} {e : TE V} {k : Nat} (so : Sorted es) (hk : isLeast (notBelow es e.key) es.length k) :
  (∃ h : k < es.length, es[k].key = e.key ∧ putE es e = es.take k ++ { e with mke := es[k].mke } :: es.drop (k + 1)) ∨ ((¬ ∃ h : k < es.length, es[k].key = e.key) ∧ putE es e = es.take k ++ e :: es.drop k) := by
 obtain ⟨h1, h2⟩ := halves_at so hk
 have q : putE es e = es.take k ++ putE (es.drop k) e := by
  rw [← put_below (Bs := es.drop k) h1, List.take_append_drop]
 rcases h2 with ⟨h, h3, h4, h5⟩ | ⟨h3, h4⟩
 ·exact .inl ⟨h, h3, by rw [q, h5, put_hit h3]⟩
 ·exact .inr ⟨h3, by rw [q, put_above h4]⟩
theorem drop_at {es : List (TE V)} {key : List Nat} {k : Nat} (so : Sorted es) (hk : isLeast (notBelow es key) es.length k) :
  (∃ h : k < es.length, es[k].key = key ∧ dropE es key = es.take k ++ es.drop (k + 1)) ∨ ((¬ ∃ h : k < es.length, es[k].key = key) ∧ dropE es key = es) := by
 obtain ⟨h1, h2⟩ := halves_at so hk
 have q : dropE es key = es.take k ++ dropE (es.drop k) key := by
  rw [← drop_below (Bs := es.drop k) h1, List.take_append_drop]
 rcases h2 with ⟨h, h3, h4, h5⟩ | ⟨h3, h4⟩
 ·exact .inl ⟨h, h3, by rw [q, h5, drop_hit h3, drop_above h4]⟩
 ·exact .inr ⟨h3, by rw [q, drop_above h4, List.take_append_drop]⟩
theorem mem_put {es : List (TE V)} {e x : TE V} (h : x ∈ putE es e) : x ∈ es ∨ x.key = e.key ∧ x.v = e.v := by
 induction es with
 | nil => simp only [putE, List.mem_singleton] at h; subst h; exact .inr ⟨rfl, rfl⟩
 | cons y r ih =>
  simp only [putE] at h
  split at h
  ·rcases List.mem_cons.1 h with rfl | h
   ·exact .inr ⟨rfl, rfl⟩
   ·exact .inl (by simp [h])
  ·split at h
   ·rcases List.mem_cons.1 h with rfl | h
    ·exact .inr ⟨rfl, rfl⟩
    ·exact .inl h
   ·rcases List.mem_cons.1 h with rfl | h
    ·exact .inl (by simp)
    ·rcases ih h with h | h
     ·exact .inl (by simp [h])
     ·exact .inr h
theorem rise_put {es : List (TE V)} {e : TE V} (h : Rise es) : Rise (putE es e) := by
 induction h with
 | nil => exact .cons (fun _ h => by simp at h) .nil
 | @cons y r h k ih =>
  simp only [putE]
  split
  ·rename_i hk
   exact .cons (fun z hz => by show strLess e.key z.key = true; rw [← hk]; exact h z hz) k
  ·rename_i hk
   split
   ·rename_i hl
    refine .cons (fun z hz => ?_) (.cons h k)
    rcases List.mem_cons.1 hz with rfl | hz
    ·exact hl
    ·exact less_trans hl (h z hz)
   ·rename_i hl
    refine .cons (fun z hz => ?_) ih
    rcases mem_put hz with hz | ⟨hz, _⟩
    ·exact h z hz
    ·rw [hz]
     cases hb : strLess y.key e.key with
     | true => rfl
     | false => exact absurd (less_total hb (Bool.eq_false_iff.2 hl)) hk
theorem mem_drop {es : List (TE V)} {key : List Nat} {x : TE V} (h : x ∈ dropE es key) : x ∈ es := by
 induction es with
 | nil => simp [dropE] at h
 | cons y r ih =>
  simp only [dropE] at h
  split at h
  ·exact List.mem_cons_of_mem _ (ih h)
  ·rcases List.mem_cons.1 h with rfl | h
   ·simp
   ·exact List.mem_cons_of_mem _ (ih h)
theorem put_len {es : List (TE V)} {e : TE V} : (putE es e).length = es.length + (match findE es e.key with | some _ => 0 | none => 1) ∨ ¬ Rise es := by
 induction es with
 | nil => exact .inl rfl
 | cons y r ih =>
  simp only [putE, findE]
  split
  ·exact .inl (by simp)
  ·split
   ·rename_i h1 h2
    by_cases hr : Rise (y :: r)
    ·cases hr with
     | cons h k => exact .inl (by rw [find_above (fun z hz => less_trans h2 (h z hz))]; simp)
    ·exact .inr hr
   ·rcases ih with ih | ih
    ·exact .inl (by simp only [List.length_cons, ih]; omega)
    ·exact .inr fun hr => by cases hr with | cons h k => exact ih k
theorem find_put {es : List (TE V)} {e : TE V} (h : Rise es) : findE (putE es e) e.key = some (match findE es e.key with | some x => { e with mke := x.mke } | none => e) := by
 induction h with
 | nil => simp [putE, findE]
 | @cons y r h k ih =>
  simp only [putE, findE]
  split
  ·simp [findE]
  ·rename_i h1
   split
   ·rename_i h2
    rw [find_above (fun z hz => less_trans h2 (h z hz))]
    simp [findE]
   ·simp only [findE, if_neg h1, ih]
theorem find_put_ne {es : List (TE V)} {e : TE V} {key : List Nat} (hne : e.key ≠ key) : findE (putE es e) key = findE es key := by
 induction es with
 | nil => simp [putE, findE, hne]
 | cons y r ih =>
  simp only [putE, findE]
  split
  ·rename_i h1
   simp only [findE, if_neg hne, if_neg (fun h => hne (h1.symm.trans h))]
  ·split
   ·simp only [findE, if_neg hne]
   ·simp only [findE, ih]
theorem find_drop_ne {es : List (TE V)} {k key : List Nat} (hne : k ≠ key) : findE (dropE es k) key = findE es key := by
 induction es with
 | nil => rfl
 | cons y r ih =>
  simp only [dropE, findE]
  split
  ·rename_i h1
   simp only [if_neg (fun h => hne (h1.symm.trans h)), ih]
  ·simp only [findE, ih]
theorem find_key {es : List (TE V)} {key : List Nat} {x : TE V} (h : findE es key = some x) : x ∈ es ∧ x.key = key := by
 induction es with
 | nil => cases h
 | cons y r ih =>
  simp only [findE] at h
  split at h
  ·cases h; rename_i h1; exact ⟨by simp, h1⟩
  ·obtain ⟨a, b⟩ := ih h; exact ⟨by simp [a], b⟩
end kl
theorem search104_ok {H : HL} (n : Nat) (hn : n ≤ 4611686018427387903) (g : Nat) (cap : List AV) (p : Nat → Prop) (mono : ∀ i j, i ≤ j → j < n → p i → p j)
  (hy : ∀ m, m < n → WF B tab (.func g) ([] ++ ([.int .i64 (.ofNat m)] ++ cap)) H fun r H' => H' = H ∧ ∃ b : Bool, r = .bool b ∧ (b = true ↔ p m)) :
  WF B tab (.func 104) [.int .i64 (.ofNat n), .fn (.func g) [] cap] H fun r H' => H' = H ∧ ∃ k : Nat, r = .int .i64 (.ofNat k) ∧ isLeast p n k := by
 refine WF.fnR g104 rfl ?_
 repeat' (first
  | apply zC | apply zE | apply zD | apply zK | (apply zB; rfl; (intro _; rfl)))
 refine yG ?_
 obtain ⟨i, hi⟩ : ∃ i : Nat, i = 0 := ⟨0, rfl⟩
 obtain ⟨j, hj⟩ : ∃ j : Nat, j = n := ⟨n, rfl⟩
 refine WL.le (t' := [(1, .fn (.func g) [] cap), (5, .int .i64 (.ofNat i)), (6, .int .i64 (.ofNat j))]) (by subst hi; subst hj; exact zA rfl (zA rfl (zA rfl zH))) ?_
 have hij : i ≤ j := by omega
 have hjn : j ≤ n := by omega
 have hlo : ∀ m, m < i → ¬ p m := by intro m hm; omega
 have hhi : ∀ m, j ≤ m → m < n → p m := by intro m hm; omega
 clear hi hj
 induction hk : j - i using Nat.strongRecOn generalizing i j with | _ k ih => ?_
 apply WL.step
 repeat' (first
  | apply zC | apply zE | apply zD | apply zJ | apply zL | apply zZ | apply zK | (apply zR; rfl; rfl; rfl; omega) | (apply WOps.cvU; rfl; rfl; omega) | (apply WOps.half; rfl; rfl; rfl) | (apply WOps.cvI; rfl; rfl; omega) | (apply WOps.cvR; rfl; rfl; rfl; exact hy _ (by have h0 := ‹true = true ↔ cmpP BinOp.lss (Int.ofNat i) (Int.ofNat j)›; simp [cmpP] at h0; omega); rintro _ ⟨bb, rfl, hbb⟩) | (apply zM; rfl; rfl; rfl; rfl; intro _ _) | (apply zB; rfl; (intro _; rfl)) | (apply zN; rfl; all_goals (intro hb; try subst hb)))
 ·have hlt : i < j := by have h0 := ‹true = true ↔ cmpP BinOp.lss (Int.ofNat i) (Int.ofNat j)›; simp [cmpP] at h0; omega
  have hbf : bb = false := by simpa using hb
  refine WL.le (t' := [(1, .fn (.func g) [] cap), (5, .int .i64 (.ofNat ((i + j) / 2 + 1))), (6, .int .i64 (.ofNat j))]) (zA rfl (zA rfl (zA rfl zH))) (ih _ (by omega) _ _ (by omega) (by omega) ?_ hhi rfl)
  intro m hm hp
  have h1 : bb = true := hbb.2 (mono m _ (by omega) (by omega) hp)
  rw [hbf] at h1; cases h1
 ·have hlt : i < j := by have h0 := ‹true = true ↔ cmpP BinOp.lss (Int.ofNat i) (Int.ofNat j)›; simp [cmpP] at h0; omega
  have hbt : bb = true := by simpa using hb
  refine WL.le (t' := [(1, .fn (.func g) [] cap), (5, .int .i64 (.ofNat i)), (6, .int .i64 (.ofNat ((i + j) / 2)))]) (zA rfl (zA rfl (zA rfl zH))) (ih _ (by omega) _ _ (by omega) (by omega) hlo ?_ rfl)
  intro m hm hmn
  exact mono _ m hm hmn (hbb.1 hbt)
 ·rename_i hge
  have hge : j ≤ i := by have h0 := hge; simp [cmpP] at h0; omega
  refine ⟨trivial, List.Sublist.refl _, [_], ⟨_, [], rfl, rfl, rfl⟩, i, rfl, by omega, hlo, fun m h1 h2 => hhi m (by omega) h2⟩
def mostOf (m : Int) : Nat := if m < 1 then 1 else if 64 < m then 64 else m.toNat
theorem mostOf_ge (m : Int) : 1 ≤ mostOf m := by unfold mostOf; split <;> (try split) <;> omega
theorem mostOf_le (m : Int) : mostOf m ≤ 64 := by unfold mostOf; split <;> (try split) <;> omega
def maxI (a b : Int) : Int := if b > a then b else a
theorem src_cons {H : HL} {p : Nat × AObj} {u : AV} {esz m : Nat} {xs : List AV} (h : SrcIs B H u esz m xs) : SrcIs B (p :: H) u esz m xs := by
 rcases h with h | ⟨a, h1, h | h⟩
 ·exact .inl h
 ·exact .inr ⟨a, h1, .inl h⟩
 ·exact .inr ⟨a, h1, .inr h.cons⟩
theorem putN_of {cs vs : List AV} {off : Nat} (h : off + vs.length ≤ cs.length) : putN cs off vs = some (cs.take off ++ (vs ++ cs.drop (off + vs.length))) := by
 unfold putN
 rw [putAt_of h]
 simp only [forceL_eq]
def tblC (most : Nat) (v : AV) (last : Int) : List AV := [.int .i64 (.ofNat most), v, .int .u64 last]
theorem eq_of_ff {p : Prop} (h : false = true ↔ p) : ¬ p := fun k => by have := h.2 k; cases this
theorem WL.heq {T : Tr FnI} {nt : Nat} {rdn : Option Nat} {c : AC} {t : EL} {H H' : HL} {Q : AExit → EL → HL → Prop} (e : H = H') (w : WL B T nt rdn c t H' Q) : WL B T nt rdn c t H Q := e ▸ w
theorem WD.bx {T : Tr FnI} {t : EL} {H : HL} {HH : List (Nat × HL)} {Q : EL → HL → Prop} {os : List DOper} {k : Nat} {g : Option (Nat × Bool)} {i bs : Nat} {x : AO} {v : AV} {cs : List AV} (hg : wantedL g t = some true) (hx : gl t x = some v) (he : v.cells = cs) (hc : allCell cs = true) (w : ∀ id, WD B T os ((k, .ptr ⟨false, id, 0⟩) :: t) ((id, .row cs) :: H) HH Q) :
  WD B T (⟨⟨some k, .box x, g⟩, .quiet, i, bs⟩ :: os) t H HH Q := WD.quiet hg (fun _ _ h => by cases h) (fun _ _ h => by cases h) (by subst he; exact WOp.box hx hc w)
def fullP {V : Type} (most : Nat) (es : List (TE V)) (key : List Nat) : Prop := findE es key = none ∧ most ≤ es.length
structure Tg where
 a : AV
 c : a.isCell = true
theorem Tg.cells (t : Tg) : t.a.cells = [t.a] := by
 obtain ⟨a, c⟩ := t
 cases a <;> first | rfl | cases c
structure NV where
 node : Int
 addr : List Nat
 jm : Int
 ji : Int
structure SV where
 node : Int
 id : List Nat
 name : List Nat
 tags : List (List Nat)
 tg : Tg
 port : Int
 jm : Int
 ji : Int
structure CV where
 node : Int
 id : List Nat
 svc : List Nat
 note : List Nat
 st : Int
 jm : Int
 ji : Int
def valN (v : NV) : List AV := [.int .i64 v.node, .str v.addr, .int .u64 v.jm, .int .u64 v.ji]
def valS (v : SV) : List AV := [.int .i64 v.node, .str v.id, .str v.name, v.tg.a, .int .i64 v.port, .int .u64 v.jm, .int .u64 v.ji]
def valC (v : CV) : List AV := [.int .i64 v.node, .str v.id, .str v.svc, .str v.note, .int .i64 v.st, .int .u64 v.jm, .int .u64 v.ji]
def rowN (e : TE NV) : List AV := [.str e.key, .int .i64 e.v.node, .str e.v.addr, .int .u64 e.v.jm, .int .u64 e.v.ji, .int .u64 e.mke, .int .u64 e.ix]
def rowS (e : TE SV) : List AV := [.str e.key, .int .i64 e.v.node, .str e.v.id, .str e.v.name, e.v.tg.a, .int .i64 e.v.port, .int .u64 e.v.jm, .int .u64 e.v.ji, .int .u64 e.mke, .int .u64 e.ix]
def rowC (e : TE CV) : List AV := [.str e.key, .int .i64 e.v.node, .str e.v.id, .str e.v.svc, .str e.v.note, .int .i64 e.v.st, .int .u64 e.v.jm, .int .u64 e.v.ji, .int .u64 e.mke, .int .u64 e.ix]
def zeN : TE NV := ⟨[], ⟨.ofNat 0, [], .ofNat 0, .ofNat 0⟩, .ofNat 0, .ofNat 0⟩
def zeS : TE SV := ⟨[], ⟨.ofNat 0, [], [], [], ⟨.nilsl, rfl⟩, .ofNat 0, .ofNat 0, .ofNat 0⟩, .ofNat 0, .ofNat 0⟩
def zeC : TE CV := ⟨[], ⟨.ofNat 0, [], [], [], .ofNat 0, .ofNat 0, .ofNat 0⟩, .ofNat 0, .ofNat 0⟩
theorem acRN (e : TE NV) : allCell (rowN e) = true := by
 have h := trivial
 repeat' (first | exact ac0 | apply ac1)
 all_goals first | rfl | assumption
theorem acRS (e : TE SV) : allCell (rowS e) = true := by
 have h := e.v.tg.c
 repeat' (first | exact ac0 | apply ac1)
 all_goals first | rfl | assumption
theorem acRC (e : TE CV) : allCell (rowC e) = true := by
 have h := trivial
 repeat' (first | exact ac0 | apply ac1)
 all_goals first | rfl | assumption
theorem at106_ok {H : HL} {c2 c3 a : Nat} {v : AV} {es : List (TE NV)} {key : List Nat} {m : Nat} (h2 : Ld B H ⟨false, c2, 0⟩ 1 [.ptr ⟨false, a, 0⟩]) (h3 : Ld B H ⟨false, c3, 0⟩ 1 [.str key]) (ha : Ld B H ⟨false, a, 1⟩ 1 [v])
  (hs : SlIs B H v 7 (es.map rowN)) (hm : m < es.length) :
  WF B tab (.func 106) [.int .i64 (.ofNat m), .ptr ⟨false, c2, 0⟩, .ptr ⟨false, c3, 0⟩] H fun r H' => H' = H ∧ ∃ b : Bool, r = .bool b ∧ (b = true ↔ ¬ strLess (es[m]).key key = true) := by
 have hc : (es.map rowN)[m]? = some (rowN es[m]) := by rw [List.getElem?_map, List.getElem?_eq_getElem hm]; rfl
 refine WF.fnR g106 rfl ?_
 repeat' (first
  | apply zC | apply zE | apply zD | apply zL | apply zT | apply zW | (apply zI; rfl; (apply at2; exact rd_ld0 rfl h2; exact same0)) | (apply zI; rfl; (apply at2; exact rd_ld0 rfl h3; exact same0)) | (apply zI; rfl; (apply at2; exact rd_ld0 rfl ha; exact same0)) | (apply WD.ixSl; rfl; rfl; rfl; exact hs; exact hc; intro ax hax) | (apply zI; rfl; (apply at2; exact rd_ld0 rfl (Ld.part (hax _ hs) 0 1 (by decide)); exact same0)) | (apply zB; rfl; (intro _; rfl)) | (apply WD.cmpT; rfl; rfl; rfl; rfl; intro _ _) | (apply zQ; rfl; (intro _; rfl)))
 refine ⟨trivial, List.Sublist.refl _, [_], ⟨_, [], rfl, rfl, rfl⟩, _, rfl, ?_⟩
 assumption
theorem at92_ok {H : HL} {a : Nat} {v : AV} {es : List (TE NV)} {key : List Nat} (ha : Ld B H ⟨false, a, 1⟩ 1 [v]) (hs : SlIs B H v 7 (es.map rowN)) (hn : es.length ≤ 4611686018427387903) (so : Sorted es) :
  WF B tab (.func 92) [.ptr ⟨false, a, 0⟩, .str key] H fun r H' => H' = H ∧ ∃ (k : Nat) (b : Bool), r = .tup [.int .i64 (.ofNat k), .bool b] ∧ isLeast (notBelow es key) es.length k ∧ (b = true ↔ ∃ h : k < es.length, es[k].key = key) := by
 refine WF.fnR g92 rfl ?_
 repeat' (first
  | apply zC | apply zE | apply zD | (apply zF; rfl; rfl; (first | exact ld0 rfl | exact ld1 rfl | exact ld2 rfl); rfl) | (apply yC; rfl; rfl; (· repeat' (first | rfl | assumption | apply ac1)); intro _) | (apply zF; rfl; rfl; exact ha.cons.cons; rfl) | (apply zU; rfl; rfl; exact hs.cons.cons) | (apply zB; rfl; (intro _; rfl)))
 rename_i c2 c3
 rw [List.length_map]
 have h2 : Ld B ((c3, .row (AV.str key).cells) :: (c2, .row (AV.ptr ⟨false, a, 0⟩).cells) :: H) ⟨false, c2, 0⟩ 1 [.ptr ⟨false, a, 0⟩] := Ld.own (Tk.tail zG) rfl
 have h3 : Ld B ((c3, .row (AV.str key).cells) :: (c2, .row (AV.ptr ⟨false, a, 0⟩).cells) :: H) ⟨false, c3, 0⟩ 1 [.str key] := Ld.own zG rfl
 have ha' : Ld B ((c3, .row (AV.str key).cells) :: (c2, .row (AV.ptr ⟨false, a, 0⟩).cells) :: H) ⟨false, a, 1⟩ 1 [v] := ha.cons.cons
 have hs' : SlIs B ((c3, .row (AV.str key).cells) :: (c2, .row (AV.ptr ⟨false, a, 0⟩).cells) :: H) v 7 (es.map rowN) := SlIs.cons (SlIs.cons hs)
 apply WOps.clR
 rfl
 rfl
 refine search104_ok es.length hn 106 _ (notBelow es key) (notBelow_mono so) fun m hm => WF.mono (at106_ok h2 h3 ha' hs' hm) ?_
 ·rintro r _ ⟨rfl, b, rfl, hb⟩
  exact ⟨rfl, b, rfl, hb.trans ⟨fun h => ⟨hm, h⟩, fun ⟨_, h⟩ => h⟩⟩
 rintro _ ⟨k, rfl, hk⟩
 repeat' (first
  | apply zC | apply zE | apply zL | apply zT | apply zW | (apply zI; rfl; (apply at2; exact rd_ld0 rfl h2; exact same0)) | (apply zI; rfl; (apply at2; exact rd_ld0 rfl ha'; exact same0)) | (apply WD.lenS; rfl; rfl; exact hs') | (apply zB; rfl; (intro _; rfl)) | (apply WD.cmp; rfl; rfl; rfl; rfl; intro _ _) | (apply zQ; rfl; (intro _; rfl)) | (apply WD.skp; rfl) | (apply WD.skpL; rfl) | (apply WD.ask; rfl; all_goals (intro hb; first | subst hb | fail_if_success (cases hb))))
 ·have hlt : k < es.length := by
   have h0 := ‹true = true ↔ cmpP BinOp.lss (Int.ofNat k) (Int.ofNat (List.map rowN es).length)›
   rw [List.length_map] at h0
   simp [cmpP] at h0; omega
  have hc : (es.map rowN)[k]? = some (rowN es[k]) := by rw [List.getElem?_map, List.getElem?_eq_getElem hlt]; rfl
  repeat' (first
   | apply zL | apply zW | (apply WD.ixSl; rfl; rfl; rfl; exact hs'; exact hc; intro ax hax) | (apply zI; rfl; (apply at2; exact rd_ld0 rfl (Ld.part (hax _ hs') 0 1 (by decide)); exact same0)) | (apply zI; rfl; (apply at2; exact rd_ld0 rfl h3; exact same0)) | (apply WD.cmpT; rfl; rfl; rfl; rfl; intro _ _) | (apply zQ; rfl; (intro _; rfl)))
  rename_i b hb
  refine ⟨trivial, (List.sublist_cons_self _ _).trans (List.sublist_cons_self _ _), [_, _], ⟨_, _, rfl, rfl, _, _, rfl, rfl, rfl⟩, k, _, rfl, hk, ?_⟩
  simp only [cmpS] at hb
  rw [hb]
  exact ⟨fun h => ⟨hlt, h⟩, fun ⟨_, h⟩ => h⟩
 ·have hge : ¬ k < es.length := by
   have h0 := ‹false = true ↔ cmpP BinOp.lss (Int.ofNat k) (Int.ofNat (List.map rowN es).length)›
   rw [List.length_map] at h0
   simp [cmpP] at h0; omega
  refine ⟨trivial, (List.sublist_cons_self _ _).trans (List.sublist_cons_self _ _), [_, _], ⟨_, _, rfl, rfl, _, _, rfl, rfl, rfl⟩, k, _, rfl, hk, ?_⟩
  simp [hge]
theorem none90_ok {H : HL} {a most : Nat} (h0 : Ld B H ⟨false, a, 0⟩ 1 [.int .i64 (.ofNat most)]) (hm : 1 ≤ most) : WF B tab (.func 90) [.ptr ⟨false, a, 0⟩] H fun r H' => H' = H ∧ r = .bool false := by
 refine WF.fnR g90 rfl ?_
 repeat' (first
  | apply zC | apply zE | apply zD | apply zL | (apply zF; rfl; rfl; exact h0; rfl) | (apply zM; rfl; rfl; rfl; rfl; intro _ _) | (apply zB; rfl; (intro _; rfl)))
 rename_i b hb
 refine ⟨trivial, List.Sublist.refl _, [_], ⟨_, [], rfl, rfl, rfl⟩, ?_⟩
 have : b = false := by
  rw [Bool.eq_false_iff]
  intro h
  have := hb.1 h
  simp [cmpP] at this
  omega
 rw [this]
 rfl
set_option maxHeartbeats 1000000 in
theorem get93_ok {H : HL} {a most : Nat} {v : AV} {es : List (TE NV)} {key : List Nat} (h0 : Ld B H ⟨false, a, 0⟩ 1 [.int .i64 (.ofNat most)]) (hm : 1 ≤ most) (ha : Ld B H ⟨false, a, 1⟩ 1 [v]) (hs : SlIs B H v 7 (es.map rowN)) (hn : es.length ≤ 4611686018427387903) (so : Sorted es) :
  WF B tab (.func 93) [.ptr ⟨false, a, 0⟩, .str key] H fun r H' => H' = H ∧ ∃ k : Nat, isLeast (notBelow es key) es.length k ∧
   ((∃ h : k < es.length, es[k].key = key ∧ r = .tup [.agg (rowN es[k]), .bool true]) ∨ ((¬ ∃ h : k < es.length, es[k].key = key) ∧ r = .tup [.agg (rowN zeN), .bool false])) := by
 refine WF.fnR g93 rfl ?_
 repeat' (first
  | apply zC | apply zE | apply zD | apply zJ | apply zL | (apply zO; rfl) | (apply zP; rfl; rfl; (first | exact tk0 | exact tk1 | exact tk2); rfl; (· repeat' (first | rfl | assumption | apply ac1)); rfl) | (apply yE; rfl; intro _) | (apply WOps.clR; rfl; rfl; exact none90_ok h0.cons hm; rintro _ rfl) | (apply WOps.clR; rfl; rfl; exact at92_ok ha.cons (SlIs.cons hs) hn so; rintro _ ⟨k, b, rfl, hk, hkb⟩) | (apply zF; rfl; rfl; exact ha.cons; rfl) | (apply zB; rfl; (intro _; rfl)) | (apply zN; rfl; all_goals (intro hb; try subst hb)))
 ·refine ⟨trivial, List.sublist_cons_self _ _, [_, _], ⟨_, _, rfl, ⟨_, _, rfl, Ld.own zG rfl, rfl⟩, _, _, rfl, rfl, rfl⟩, k, hk, .inr ⟨?_, rfl⟩⟩
  intro h
  simp [hkb.2 h] at hb
 ·have hbt : b = true := by simpa using hb
  obtain ⟨hlt, hkey⟩ := hkb.1 hbt
  have hc : (es.map rowN)[k]? = some (rowN es[k]) := by rw [List.getElem?_map, List.getElem?_eq_getElem hlt]; rfl
  repeat' (first
   | apply zC | apply zL | (apply zP; rfl; rfl; (first | exact tk0 | exact tk1 | exact tk2); rfl; (· repeat' (first | rfl | assumption | apply ac1)); rfl) | (apply yA; rfl; rfl; rfl; exact SlIs.cons hs; exact hc; intro ax hax) | (apply zF; rfl; rfl; exact hax; rfl) | (apply zB; rfl; (intro _; rfl)))
  exact ⟨trivial, List.sublist_cons_self _ _, [_, _], ⟨_, _, rfl, ⟨_, _, rfl, Ld.own zG rfl, rfl⟩, _, _, rfl, rfl, rfl⟩, k, hk, .inl ⟨hlt, hkey, rfl⟩⟩
theorem new22_ok {H : HL} (m : Int) : WF B tab (.func 22) [.int .i64 m] H fun r H' => ∃ a, r = .ptr ⟨false, a, 0⟩ ∧ H' = (a, .row [.int .i64 (.ofNat (mostOf m)), .nilsl, .int .u64 (.ofNat 0)]) :: H := by
 refine WF.fn g22 rfl ?_
 repeat' (first
  | apply zC | apply zE | apply zD | apply zL | (apply yC; rfl; rfl; (· repeat' (first | rfl | assumption | apply ac1)); intro _) | (apply zB; rfl; (intro _; rfl)))
 refine ⟨trivial, [_], ⟨_, [], rfl, rfl, rfl⟩, _, rfl, ?_⟩
 have : (if Int.ofNat 64 < if Int.ofNat 1 > m then Int.ofNat 1 else m then Int.ofNat 64 else if Int.ofNat 1 > m then Int.ofNat 1 else m) = Int.ofNat (mostOf m) := by
  unfold mostOf
  simp only [Int.ofNat_eq_natCast, gt_iff_lt]
  split <;> split <;> (try split) <;> (try split) <;> omega
 rw [this]
 rfl
theorem raise56_ok {H : HL} {a most : Nat} {v : AV} {last ix : Int} (hm : 1 ≤ most) : WF B tab (.func 56) [.ptr ⟨false, a, 0⟩, .int .u64 ix] ((a, .row [.int .i64 (.ofNat most), v, .int .u64 last]) :: H) fun r H' => H' = (a, .row [.int .i64 (.ofNat most), v, .int .u64 (maxI last ix)]) :: H := by
 refine WF.fn g56 rfl ?_
 repeat' (first
  | apply zC | apply zE | apply zD | (apply zS; rfl) | (apply zF; rfl; rfl; (first | exact ld0 rfl | exact ld1 rfl | exact ld2 rfl); rfl) | (apply zP; rfl; rfl; (first | exact tk0 | exact tk1 | exact tk2); rfl; (· repeat' (first | rfl | assumption | apply ac1)); rfl) | (apply WOps.clR; rfl; rfl; exact none90_ok (Ld.own zG rfl) hm; rintro _ rfl) | (apply zB; rfl; (intro _; rfl)))
 exact ⟨trivial, [], rfl, rfl⟩
theorem last59_ok {H : HL} {a most : Nat} {last : Int} (h0 : Ld B H ⟨false, a, 0⟩ 1 [.int .i64 (.ofNat most)]) (hm : 1 ≤ most) (h2 : Ld B H ⟨false, a, 2⟩ 1 [.int .u64 last]) : WF B tab (.func 59) [.ptr ⟨false, a, 0⟩] H fun r H' => H' = H ∧ r = .int .u64 last := by
 refine WF.fnR g59 rfl ?_
 repeat' (first
  | apply zC | apply zE | apply zD | apply zJ | apply zL | (apply zO; rfl) | (apply WOps.clR; rfl; rfl; exact none90_ok h0 hm; rintro _ rfl) | (apply zF; rfl; rfl; exact h2; rfl) | (apply zB; rfl; (intro _; rfl)))
 exact ⟨trivial, List.Sublist.refl _, [_], ⟨_, [], rfl, rfl, rfl⟩, rfl⟩
theorem rowN_len {e : TE NV} : (rowN e).length = 7 := rfl
theorem rows_lenN : ∀ (es : List (TE NV)), (es.map rowN).flatten.length = es.length * 7 := by
 intro es
 induction es with
 | nil => rfl
 | cons e es ih => rw [List.map_cons, List.flatten_cons, List.length_append, ih, rowN_len, List.length_cons]; omega
theorem rows_cellN : ∀ (es : List (TE NV)), allCell (es.map rowN).flatten = true := by
 intro es
 rw [allCell_iff]
 intro v hv
 simp only [List.mem_flatten, List.mem_map] at hv
 obtain ⟨_, ⟨e, _, rfl⟩, hv⟩ := hv
 exact (allCell_iff _).1 (acRN e) v hv
theorem list83_ok {H : HL} {a most : Nat} {v : AV} {es : List (TE NV)} (h0 : Ld B H ⟨false, a, 0⟩ 1 [.int .i64 (.ofNat most)]) (hm : 1 ≤ most) (h1 : Ld B H ⟨false, a, 1⟩ 1 [v]) (o : SrcIs B H v 7 es.length (es.map rowN).flatten) (hn : es.length ≤ 1000) :
  WF B tab (.func 83) [.ptr ⟨false, a, 0⟩] H fun r H' => ∃ h', OwnSl r (es.map rowN).flatten es.length 7 h' ∧ H' = h' ++ H := by
 refine WF.fn g83 rfl ?_
 repeat' (first
  | apply zC | apply zE | apply zD | apply zJ | (apply zO; rfl) | (apply yF; rfl; (· repeat' (first | rfl | assumption | apply ac1)); intro _) | (apply WOps.clR; rfl; rfl; exact none90_ok h0 hm; rintro _ rfl) | (apply zF; rfl; rfl; exact h1.cons; rfl) | (apply zB; rfl; (intro _; rfl)))
 rename_i id
 refine yD (h := [(id, .row [])]) (cells := []) (n := 0) rfl rfl rfl (.inr ⟨id, rfl, rfl, rfl⟩) (List.Perm.refl _) (src_cons o) rfl (rows_cellN es) (rows_lenN es) (by omega) ?_
 intro v' h' o'
 repeat' (first
  | apply zC | apply zL | (apply zB; rfl; (intro _; rfl)))
 refine ⟨trivial, [_], ⟨_, [], rfl, rfl, rfl⟩, h', ?_, rfl⟩
 have o2 : OwnSl v' (es.map rowN).flatten es.length 7 h' := by simpa using o'
 exact o2
theorem rows_slN {v : AV} {es : List (TE NV)} {h : HL} (o : OwnSl v (es.map rowN).flatten es.length 7 h) : SlIs B h v 7 (es.map rowN) := by
 have o2 : OwnSl v (es.map rowN).flatten (es.map rowN).length 7 h := by simpa using o
 exact OwnSl.sl o2 (by intro c hc; simp only [List.mem_map] at hc; obtain ⟨e, _, rfl⟩ := hc; rfl)
theorem rows_takeN : ∀ {es : List (TE NV)} {k : Nat}, (es.map rowN).flatten.take (k * 7) = ((es.take k).map rowN).flatten := by
 intro es
 induction es with
 | nil => intro k; simp
 | cons x es ih =>
  intro k
  cases k with
  | zero => simp
  | succ k =>
   simp only [List.map_cons, List.flatten_cons, List.take_succ_cons]
   rw [List.take_append, rowN_len, List.take_of_length_le (by rw [rowN_len]; omega), show (k + 1) * 7 - 7 = k * 7 by omega, ih]
theorem rows_dropN : ∀ {es : List (TE NV)} {k : Nat}, (es.map rowN).flatten.drop (k * 7) = ((es.drop k).map rowN).flatten := by
 intro es
 induction es with
 | nil => intro k; simp
 | cons x es ih =>
  intro k
  cases k with
  | zero => simp
  | succ k =>
   simp only [List.map_cons, List.flatten_cons, List.drop_succ_cons]
   rw [List.drop_append, rowN_len, List.drop_eq_nil_of_le (by rw [rowN_len]; omega), show (k + 1) * 7 - 7 = k * 7 by omega, ih, List.nil_append]
theorem raise56_tk {H R : HL} {a most : Nat} {v : AV} {last ix : Int} (hm : 1 ≤ most) (tk : Tk H a (.row (tblC most v last)) R) : WF B tab (.func 56) [.ptr ⟨false, a, 0⟩, .int .u64 ix] H fun r H' => H' = (a, .row (tblC most v (maxI last ix))) :: R :=
 WF.perm tk (raise56_ok hm)
theorem flat_putN {A Cs : List (TE NV)} {z : List AV} {e : TE NV} (hz : z.length = 7) :
  let ds := (A.map rowN).flatten ++ (z ++ (Cs.map rowN).flatten)
  ds.take (A.length * 7) ++ (rowN e ++ ds.drop (A.length * 7 + 7)) = ((A ++ e :: Cs).map rowN).flatten := by
 have hl := rows_lenN A
 simp only
 rw [← hl, List.take_left, List.drop_append, List.drop_eq_nil_of_le (by omega), List.nil_append, Nat.add_sub_cancel_left, ← hz, List.drop_left]
 simp
theorem copy_rowsN {es : List (TE NV)} {k : Nat} {zz : List AV} (hk : k ≤ es.length) (hz : zz.length = 7) :
  ∃ z : List AV, z.length = 7 ∧ 
  ((es.map rowN).flatten ++ zz).take (0 + (k + 1) * 7) ++ ((((es.map rowN).flatten ++ zz).drop (k * 7)).take (min (es.length + 1 - k) (es.length + 1 - (k + 1)) * 7) ++ ((es.map rowN).flatten ++ zz).drop (0 + (k + 1) * 7 + min (es.length + 1 - k) (es.length + 1 - (k + 1)) * 7)) =
   ((es.take k).map rowN).flatten ++ (z ++ ((es.drop k).map rowN).flatten) := by
 have hA : ((es.take k).map rowN).flatten.length = k * 7 := by rw [rows_lenN, List.length_take]; omega
 have hC : ((es.drop k).map rowN).flatten.length = (es.length - k) * 7 := by rw [rows_lenN, List.length_drop]
 have he : (es.map rowN).flatten = ((es.take k).map rowN).flatten ++ ((es.drop k).map rowN).flatten := by
  rw [← List.flatten_append, ← List.map_append, List.take_append_drop]
 have hmin : min (es.length + 1 - k) (es.length + 1 - (k + 1)) = es.length - k := by omega
 rw [he, hmin]
 generalize ((es.take k).map rowN).flatten = Ar at *
 generalize ((es.drop k).map rowN).flatten = Cr at *
 refine ⟨(Cr ++ zz).take 7, by rw [List.length_take, List.length_append]; omega, ?_⟩
 have e1 : List.take (0 + (k + 1) * 7) (Ar ++ Cr ++ zz) = Ar ++ (Cr ++ zz).take 7 := by
  rw [List.append_assoc, List.take_append, List.take_of_length_le (by omega), hA]
  congr 2; omega
 have e2 : List.take ((es.length - k) * 7) (List.drop (k * 7) (Ar ++ Cr ++ zz)) = Cr := by
  rw [List.append_assoc, ← hA, List.drop_left, ← hC, List.take_left]
 have e3 : List.drop (0 + (k + 1) * 7 + (es.length - k) * 7) (Ar ++ Cr ++ zz) = [] := by
  rw [List.drop_eq_nil_iff, List.length_append, List.length_append]; omega
 rw [e1, e2, e3, List.append_nil, List.append_assoc]
theorem put_rowN {es : List (TE NV)} {k : Nat} {z vs : List AV} {e : TE NV} {A Cs : List (TE NV)} (hA : A.length = k) (hz : z.length = 7) (hv : vs = rowN e) :
  putN ((A.map rowN).flatten ++ (z ++ (Cs.map rowN).flatten)) (0 + k * 7) vs = some ((A ++ e :: Cs).map rowN).flatten := by
 subst hv hA
 have hl := rows_lenN A
 rw [putN_of (by rw [List.length_append, List.length_append, rowN_len, hz]; omega), Nat.zero_add, rowN_len]
 exact congrArg some (flat_putN hz)
set_option maxHeartbeats 4000000 in
theorem put62_ok {hs R : HL} {a most : Nat} {v : AV} {last : Int} {es : List (TE NV)} {e : TE NV} (hm : 1 ≤ most) (o : OwnSl v (es.map rowN).flatten es.length 7 hs) (hn : es.length ≤ 1000) (so : Rise es) (hmk : e.mke = e.ix) :
  WF B tab (.func 62) [.ptr ⟨false, a, 0⟩, .str e.key, .agg (valN e.v), .int .u64 e.ix] ((a, .row (tblC most v last)) :: (hs ++ R)) fun r H' =>
   ((findE es e.key = none ∧ most ≤ es.length) ∧ r = .tup [.agg (rowN zeN), .int .i64 (.ofNat 5)] ∧ H' = (a, .row (tblC most v last)) :: (hs ++ R)) ∨
   (¬ (findE es e.key = none ∧ most ≤ es.length) ∧ ∃ e' v' hs', r = .tup [.agg (rowN e'), .int .i64 (.ofNat 0)] ∧ OwnSl v' ((putE es e).map rowN).flatten (putE es e).length 7 hs' ∧ H' = (a, .row (tblC most v' (maxI last e.ix))) :: (hs' ++ R)) := by
 refine zY ?_
 refine WF.fn g62 rfl ?_
 have hsl : ∀ {H : HL}, SlIs B (H ++ (hs ++ R)) v 7 (es.map rowN) := SlIs.right (SlIs.left (rows_slN o))
 repeat' (first
  | apply zC | apply zE | apply zD | apply zJ | apply zL | (apply zS; rfl) | (apply zO; rfl) | apply zT | apply zW | (apply zF; rfl; rfl; (first | exact ld0 rfl | exact ld1 rfl | exact ld2 rfl); rfl) | (apply zP; rfl; rfl; (first | exact tk0 | exact tk1 | exact tk2); rfl; (· repeat' (first | rfl | assumption | apply ac1)); rfl) | (apply yE; rfl; intro _) | (apply yC; rfl; rfl; (· repeat' (first | rfl | assumption | apply ac1)); intro _) | (apply yF; rfl; (· repeat' (first | rfl | assumption | apply ac1)); intro _) | (apply WOps.clR; rfl; rfl; exact none90_ok (most := most) (Ld.own (Tk.tail (Tk.tail zG)) rfl) hm; rintro _ rfl) | (apply WOps.clR; rfl; rfl; exact at92_ok (v := v) (Ld.own (Tk.tail (Tk.tail zG)) rfl) (hsl (H := [_, _, _])) (by omega) (sorted_of so); rintro _ ⟨k, b, rfl, hk, hkb⟩; cases b) | (apply WD.lenO; rfl; rfl; exact o) | (apply zF; rfl; rfl; exact Ld.own (Tk.tail (Tk.tail (Tk.tail zG))) rfl; rfl) | (apply zB; rfl; (intro _; rfl)) | (apply zI; rfl; · repeat' (first | refine at1 ?_ rfl | apply at2 | exact same0 | refine same1 ?_ rfl | apply same2 | (first | exact rd0 rfl rfl rfl | exact rd1 rfl rfl rfl | exact rd2 rfl rfl rfl))) | (apply WD.cmp; rfl; rfl; rfl; rfl; intro _ _) | (apply zQ; rfl; (intro _; rfl)) | (apply WD.skp; rfl) | (apply WD.skpL; rfl) | (apply zN; rfl; all_goals (intro hb; try subst hb)))
 ·have hge := ‹true = true ↔ cmpP BinOp.geq (Int.ofNat es.length) (Int.ofNat most)›
  simp only [cmpP, true_iff, Int.ofNat_eq_natCast] at hge
  rcases find_at (sorted_of so) hk with ⟨h1, h2, h3⟩ | ⟨h1, h2⟩
  ·exact absurd (hkb.2 ⟨h1, h2⟩) (by simp)
  ·exact ⟨trivial, [_, _], ⟨_, _, rfl, ⟨_, _, rfl, Ld.own zG rfl, rfl⟩, _, _, rfl, rfl, rfl⟩, _, .inl ⟨⟨h2, by omega⟩, rfl, rfl⟩, subF (by intro f; simp only [AV.cells, pm] <;> omega)⟩
 ·have hge := ‹false = true ↔ cmpP BinOp.geq (Int.ofNat es.length) (Int.ofNat most)›
  simp only [cmpP, Bool.false_eq_true, false_iff, Int.ofNat_eq_natCast] at hge
  rename_i p6 p8 _ p12 q
  have hno : ¬ ∃ h : k < es.length, es[k].key = e.key := fun h => absurd (hkb.2 h) (by simp)
  have hk1 := hk.1
  refine yD (n := es.length) rfl rfl rfl o (List.perm_append_comm_assoc [_, _, _, _, _] hs R) (src_one zG rfl) (rows_cellN _) rfl rfl (by omega) ?_
  intro v2 h2 o2
  rcases o2 with ⟨_, hz, _⟩ | ⟨id2, rfl, rfl, hl2⟩
  ·omega
  simp only [List.cons_append, List.nil_append]
  repeat' (first
   | apply zC | apply zE | apply zT | (apply zP; rfl; rfl; exact Tk.tail (Tk.tail (Tk.tail (Tk.tail (Tk.tail zG)))); rfl; rfl; rfl) | (apply WD.addN; rfl; rfl; rfl; omega) | (apply WD.slLo; rfl; rfl; rfl; omega) | (apply zB; rfl; (intro _; rfl)) | (apply zI; rfl; · repeat' (first | refine at1 ?_ rfl | apply at2 | exact same0 | refine same1 ?_ rfl | apply same2 | (first | exact rd0 rfl rfl rfl | exact rd1 rfl rfl rfl | exact rd2 rfl rfl rfl))) | (apply zQ; rfl; (intro _; rfl)))
  have hlen : ((es.map rowN).flatten ++ rowN zeN).length = (es.length + 1) * 7 := hl2
  refine WD.cpy (sn := es.length + 1 - k) (off := 0 + (k + 1) * 7) (cs := ((es.map rowN).flatten ++ rowN zeN).drop (k * 7)) rfl rfl rfl (Tk.tail zG) (.inr ⟨_, rfl, .inr (Ld.own (Tk.tail zG) ?_)⟩) ?_ ?_ ?_
  ·show takeN (List.drop (0 + k * 7) ((es.map rowN).flatten ++ rowN zeN)) _ = _
   rw [Nat.zero_add, takeN_of (by rw [List.length_drop, hlen]; omega), List.take_of_length_le (by rw [List.length_drop, hlen]; omega)]
  ·rw [List.length_drop, hlen]; omega
  ·rw [hl2]; omega
  obtain ⟨z, hz, hX⟩ := copy_rowsN (es := es) (k := k) (zz := rowN zeN) hk1 rfl
  refine WD.heq (H' := (id2, .row (((es.take k).map rowN).flatten ++ (z ++ ((es.drop k).map rowN).flatten))) :: _) (by rw [← hX]; rfl) ?_
  have hput : putE es e = es.take k ++ e :: es.drop k := by
   rcases put_at (sorted_of so) hk with ⟨h1, h2, h3⟩ | ⟨h1, h2⟩
   ·exact absurd ⟨h1, h2⟩ hno
   ·exact h2
  have hf : findE es e.key = none := by
   rcases find_at (sorted_of so) hk with ⟨h1, h2, h3⟩ | ⟨h1, h2⟩
   ·exact absurd ⟨h1, h2⟩ hno
   ·exact h2
  repeat' (first
   | apply zT | apply zW | (apply zI; rfl; (apply at2; exact rd_ld rfl (Ld.own (Tk.tail (Tk.tail (Tk.tail zG))) rfl) rfl; exact same0)) | (apply WD.ixO; rfl; rfl; rfl; omega) | (apply zI; rfl; · repeat' (first | refine at1 ?_ rfl | apply at2 | exact same0 | refine same1 ?_ rfl | apply same2 | (first | exact rd0 rfl rfl rfl | exact rd1 rfl rfl rfl | exact rd2 rfl rfl rfl))) | (apply zQ; rfl; (intro _; rfl)))
  have hrow : rowN e = [.str e.key, .int .i64 e.v.node, .str e.v.addr, .int .u64 e.v.jm, .int .u64 e.v.ji, .int .u64 e.ix, .int .u64 e.ix] := by simp [rowN, hmk]
  refine WD.st rfl rfl rfl zG rfl rfl (put_rowN (es := es) (e := e) (by rw [List.length_take]; omega) hz hrow.symm) ?_
  repeat' (first
   | apply zC | apply zE | apply zD | apply zL | apply zW | (apply WOps.clA; rfl; rfl; exact raise56_tk hm (Tk.tail zG); rintro _ _ rfl) | (apply zF; rfl; rfl; exact Ld.own (Tk.tail (Tk.tail (Tk.tail zG))) rfl; rfl) | (apply zP; rfl; rfl; exact (Tk.tail (Tk.tail (Tk.tail (Tk.tail zG)))); rfl; rfl; rfl) | (apply zB; rfl; (intro _; rfl)))
  refine ⟨trivial, [_, _], ⟨_, _, rfl, ⟨_, _, rfl, Ld.own zG rfl, rfl⟩, _, _, rfl, rfl, rfl⟩, _, .inr ⟨fun h => hge (by omega), e, _, [(id2, _)], ?_, .inr ⟨id2, rfl, rfl, rows_lenN _⟩, rfl⟩, ?_⟩
  ·rw [hrow]; rfl
  ·have hln : (putE es e).length = es.length + 1 := by
    rw [hput, List.length_append, List.length_cons, List.length_take, List.length_drop]; omega
   rw [hln, hput]
   exact subF (by intro f; simp only [AV.cells, pm] <;> omega)
 ·rename_i p6 p8 p12
  obtain ⟨hlt, hkey⟩ := hkb.1 rfl
  rcases o with ⟨_, hz, _⟩ | ⟨id2, rfl, rfl, hl2⟩
  ·omega
  have hcm : (es.map rowN)[k]? = some (rowN es[k]) := by rw [List.getElem?_map, List.getElem?_eq_getElem hlt]; rfl
  have hput : putE es e = es.take k ++ { e with mke := es[k].mke } :: es.drop (k + 1) := by
   rcases put_at (sorted_of so) hk with ⟨h1, h2, h3⟩ | ⟨h1, h2⟩
   ·exact h3
   ·exact absurd ⟨hlt, hkey⟩ h1
  have hf : findE es e.key = some es[k] := by
   rcases find_at (sorted_of so) hk with ⟨h1, h2, h3⟩ | ⟨h1, h2⟩
   ·exact h3
   ·exact absurd ⟨hlt, hkey⟩ h1
  have hrows : (es.map rowN).flatten = ((es.take k).map rowN).flatten ++ (rowN es[k] ++ ((es.drop (k + 1)).map rowN).flatten) := by
   have h1 : (es.map rowN).flatten = ((es.take k).map rowN).flatten ++ ((es.drop k).map rowN).flatten := by
    rw [← List.flatten_append, ← List.map_append, List.take_append_drop]
   rw [h1, List.drop_eq_getElem_cons hlt, List.map_cons, List.flatten_cons]
  repeat' (first
   | apply zC | apply zT | (apply zP; rfl; rfl; (first | exact tk0 | exact tk1 | exact tk2); rfl; (· repeat' (first | rfl | assumption | apply ac1)); rfl) | (apply yA; rfl; rfl; rfl; exact hsl (H := [_, _, _, _]); exact hcm; intro ax hax) | (apply zF; rfl; rfl; exact Ld.part hax 5 1 (by decide); rfl) | (apply zI; rfl; (apply at2; exact rd_ld rfl (Ld.own (Tk.tail (Tk.tail (Tk.tail zG))) rfl) rfl; exact same0)) | (apply WD.ixO; rfl; rfl; rfl; omega) | (apply zB; rfl; (intro _; rfl)) | (apply zI; rfl; · repeat' (first | refine at1 ?_ rfl | apply at2 | exact same0 | refine same1 ?_ rfl | apply same2 | (first | exact rd0 rfl rfl rfl | exact rd1 rfl rfl rfl | exact rd2 rfl rfl rfl))) | (apply zQ; rfl; (intro _; rfl)))
  refine WD.st rfl rfl rfl (Tk.tail (Tk.tail (Tk.tail (Tk.tail zG)))) rfl rfl ((congrArg (fun x => putN x _ _) hrows).trans (put_rowN (es := es) (e := { e with mke := es[k].mke }) (by rw [List.length_take]; omega) rfl rfl)) ?_
  repeat' (first
   | apply zC | apply zE | apply zD | apply zL | apply zW | (apply zF; rfl; rfl; (first | exact ld0 rfl | exact ld1 rfl | exact ld2 rfl); rfl) | (apply WOps.clA; rfl; rfl; exact raise56_tk hm (Tk.tail (Tk.tail (Tk.tail (Tk.tail zG)))); rintro _ _ rfl) | (apply zP; rfl; rfl; exact (Tk.tail (Tk.tail (Tk.tail zG))); rfl; rfl; rfl) | (apply zB; rfl; (intro _; rfl)))
  refine ⟨trivial, [_, _], ⟨_, _, rfl, ⟨_, _, rfl, Ld.own zG rfl, rfl⟩, _, _, rfl, rfl, rfl⟩, _, .inr ⟨fun h => (by rw [hf] at h; cases h.1), { e with mke := es[k].mke }, _, [(id2, _)], rfl, .inr ⟨id2, rfl, rfl, rows_lenN _⟩, rfl⟩, ?_⟩
  have hln : (putE es e).length = es.length := by
   rw [hput, List.length_append, List.length_cons, List.length_take, List.length_drop]; omega
  rw [hln, hput]
  exact subF (by intro f; simp only [AV.cells, pm] <;> omega)
def TbN (H : HL) (a most : Nat) (es : List (TE NV)) (last : Int) (R : HL) : Prop := ∃ v hs, OwnSl v (es.map rowN).flatten es.length 7 hs ∧ H.Perm ((a, .row (tblC most v last)) :: (hs ++ R))
theorem TbN.cons {H R : HL} {a most : Nat} {es : List (TE NV)} {last : Int} {x : Nat × AObj} (h : TbN H a most es last R) : TbN (x :: H) a most es last (x :: R) := by
 obtain ⟨v, hs, o, p⟩ := h
 refine ⟨v, hs, o, ?_⟩
 exact (List.Perm.cons _ p).trans ((List.Perm.swap _ _ _).trans (List.Perm.cons _ List.perm_middle.symm))
theorem TbN.permR {H R R' : HL} {a most : Nat} {es : List (TE NV)} {last : Int} (h : TbN H a most es last R) (p : R.Perm R') : TbN H a most es last R' := by
 obtain ⟨v, hs, o, q⟩ := h
 exact ⟨v, hs, o, q.trans (List.Perm.cons _ (List.Perm.append_left _ p))⟩
theorem TbN.perm {H H' R : HL} {a most : Nat} {es : List (TE NV)} {last : Int} (h : TbN H a most es last R) (p : H'.Perm H) : TbN H' a most es last R := by
 obtain ⟨v, hs, o, q⟩ := h
 exact ⟨v, hs, o, p.trans q⟩
theorem TbN.tk {H R R' : HL} {a most : Nat} {es : List (TE NV)} {last : Int} {id : Nat} {o : AObj} (h : TbN H a most es last R) (k : Tk R id o R') : ∃ R2, Tk H id o R2 ∧ ∀ o', TbN ((id, o') :: R2) a most es last ((id, o') :: R') := by
 obtain ⟨v, hs, ow, q⟩ := h
 refine ⟨(a, .row (tblC most v last)) :: (hs ++ R'), ?_, fun o' => ?_⟩
 ·refine q.trans ?_
  refine (List.Perm.cons _ (List.Perm.append_left _ k)).trans ?_
  exact (List.Perm.cons _ List.perm_middle).trans (List.Perm.swap _ _ _)
 ·refine ⟨v, hs, ow, ?_⟩
  exact (List.Perm.swap _ _ _).trans (List.Perm.cons _ List.perm_middle.symm)
theorem TbN.ld {H R : HL} {a most : Nat} {es : List (TE NV)} {last : Int} {b : AA} {n : Nat} {l : List AV} (h : TbN H a most es last R) (k : Ld B R b n l) : Ld B H b n l := by
 obtain ⟨v, hs, ow, q⟩ := h
 exact Ld.perm q k.right.cons
theorem TbN.sl {H R : HL} {a most : Nat} {es : List (TE NV)} {last : Int} {w : AV} {n : Nat} {xs : List (List AV)} (h : TbN H a most es last R) (k : SlIs B R w n xs) : SlIs B H w n xs := by
 obtain ⟨v, hs, ow, q⟩ := h
 exact SlIs.perm q k.right.cons
theorem TbN.rd {H R : HL} {a most : Nat} {es : List (TE NV)} {last : Int} (h : TbN H a most es last R) :
  ∃ v, Ld B H ⟨false, a, 0⟩ 1 [.int .i64 (.ofNat most)] ∧ Ld B H ⟨false, a, 1⟩ 1 [v] ∧ Ld B H ⟨false, a, 2⟩ 1 [.int .u64 last] ∧ SrcIs B H v 7 es.length (es.map rowN).flatten ∧ SlIs B H v 7 (es.map rowN) := by
 obtain ⟨v, hs, ow, q⟩ := h
 exact ⟨v, Ld.perm q (Ld.own zG rfl), Ld.perm q (Ld.own zG rfl), Ld.perm q (Ld.own zG rfl), SrcIs.perm q (SrcIs.left ow.src).cons, SlIs.perm q (SlIs.cons (SlIs.left (rows_slN ow)))⟩
theorem TbN.less {H R R1 : HL} {a most : Nat} {es : List (TE NV)} {last : Int} (h : TbN H a most es last R) (p : SubP R1 R) : ∃ H3, TbN H3 a most es last R1 ∧ SubP H3 H := by
 obtain ⟨v, hs, ow, q⟩ := h
 obtain ⟨G, pg⟩ := p
 refine ⟨(a, .row (tblC most v last)) :: (hs ++ R1), ⟨v, hs, ow, List.Perm.refl _⟩, G, ?_⟩
 refine q.trans ?_
 simp only [List.cons_append, List.append_assoc]
 exact List.Perm.cons _ (List.Perm.append_left _ pg)
theorem put62_at {H R : HL} {a most : Nat} {last : Int} {es : List (TE NV)} {e : TE NV} (hm : 1 ≤ most) (hn : es.length ≤ 1000) (so : Rise es) (hmk : e.mke = e.ix) (t : TbN H a most es last R) :
  WF B tab (.func 62) [.ptr ⟨false, a, 0⟩, .str e.key, .agg (valN e.v), .int .u64 e.ix] H fun r H' =>
   ((findE es e.key = none ∧ most ≤ es.length) ∧ r = .tup [.agg (rowN zeN), .int .i64 (.ofNat 5)] ∧ TbN H' a most es last R) ∨
   (¬ (findE es e.key = none ∧ most ≤ es.length) ∧ ∃ e', r = .tup [.agg (rowN e'), .int .i64 (.ofNat 0)] ∧ TbN H' a most (putE es e) (maxI last e.ix) R) := by
 obtain ⟨v, hs, ow, q⟩ := t
 refine WF.perm q (WF.mono (put62_ok hm ow hn so hmk) ?_)
 rintro r H' (⟨h1, h2, rfl⟩ | ⟨h1, e', v', hs', h2, o', rfl⟩)
 ·exact .inl ⟨h1, h2, v, hs, ow, List.Perm.refl _⟩
 ·exact .inr ⟨h1, e', h2, v', hs', o', List.Perm.refl _⟩
theorem drop66_ok {hs R : HL} {a most : Nat} {v : AV} {last ix : Int} {es : List (TE NV)} {key : List Nat} (hm : 1 ≤ most) (o : OwnSl v (es.map rowN).flatten es.length 7 hs) (hn : es.length ≤ 1000) (so : Rise es) :
  WF B tab (.func 66) [.ptr ⟨false, a, 0⟩, .str key, .int .u64 ix] ((a, .row (tblC most v last)) :: (hs ++ R)) fun r H' =>
   (findE es key = none ∧ r = .bool false ∧ H' = (a, .row (tblC most v last)) :: (hs ++ R)) ∨
   ((∃ x, findE es key = some x) ∧ r = .bool true ∧ ∃ v' hs', OwnSl v' ((dropE es key).map rowN).flatten (dropE es key).length 7 hs' ∧ H' = (a, .row (tblC most v' (maxI last ix))) :: (hs' ++ R)) := by
 refine zY ?_
 refine WF.fn g66 rfl ?_
 have hsl : ∀ {H : HL}, SlIs B (H ++ (hs ++ R)) v 7 (es.map rowN) := SlIs.right (SlIs.left (rows_slN o))
 repeat' (first
  | apply zC | apply zE | apply zD | apply zJ | apply zL | (apply zS; rfl) | (apply zO; rfl) | apply zT | (apply WD.bsl; rfl; rfl; (· repeat' (first | rfl | assumption | apply ac1)); intro _) | (apply WOps.clR; rfl; rfl; exact none90_ok (most := most) (Ld.own zG rfl) hm; rintro _ rfl) | (apply WOps.clR; rfl; rfl; exact at92_ok (v := v) (Ld.own zG rfl) (hsl (H := [_])) (by omega) (sorted_of so); rintro _ ⟨k, b, rfl, hk, hkb⟩; cases b) | (apply zB; rfl; (intro _; rfl)) | (apply zI; rfl; · repeat' (first | refine at1 ?_ rfl | apply at2 | exact same0 | refine same1 ?_ rfl | apply same2 | (first | exact rd0 rfl rfl rfl | exact rd1 rfl rfl rfl | exact rd2 rfl rfl rfl))) | (apply zQ; rfl; (intro _; rfl)))
 ·rcases find_at (sorted_of so) hk with ⟨h1, h2, h3⟩ | ⟨h1, h2⟩
  ·have h := hkb.2 ⟨h1, h2⟩
   cases h
  ·exact ⟨trivial, [_], ⟨_, [], rfl, rfl, rfl⟩, _, .inl ⟨h2, rfl, rfl⟩, SubP.refl⟩
 ·obtain ⟨hlt, hkey⟩ := hkb.1 rfl
  rcases o with ⟨_, hz, _⟩ | ⟨id2, rfl, rfl, hl2⟩
  ·omega
  rename_i q
  have hdrop : dropE es key = es.take k ++ es.drop (k + 1) := by
   rcases drop_at (sorted_of so) hk with ⟨h1, h2, h3⟩ | ⟨h1, h2⟩
   ·exact h3
   ·exact absurd ⟨hlt, hkey⟩ h1
  have hf : findE es key = some es[k] := by
   rcases find_at (sorted_of so) hk with ⟨h1, h2, h3⟩ | ⟨h1, h2⟩
   ·exact h3
   ·exact absurd ⟨hlt, hkey⟩ h1
  repeat' (first
   | (apply WD.slHi; rfl; rfl; rfl; omega))
  refine WD.app (h := [(q, .row [])]) (cells := []) (n := 0) (m := k) (xs := ((es.take k).map rowN).flatten) rfl rfl rfl (.inr ⟨q, rfl, rfl, rfl⟩) (List.Perm.refl _) (.inr ⟨_, rfl, .inr (Ld.own (Tk.tail (Tk.tail zG)) ?_)⟩) rfl (rows_cellN _) (by rw [rows_lenN, List.length_take]; omega) (by omega) ?_
  ·show takeN (List.drop (0 + 0 * 7) _) _ = _
   rw [Nat.zero_mul, Nat.add_zero, List.drop_zero, takeN_of (by omega), rows_takeN]
  intro v2 h2 o2
  have hrd : ∀ {G : HL}, Ld B (G ++ (a, .row (tblC most (.sl ⟨false, id2, 0⟩ es.length 7) last)) :: ([(id2, .row (es.map rowN).flatten)] ++ R)) ⟨false, a, 0 + 1⟩ 1 [.sl ⟨false, id2, 0⟩ es.length 7] := Ld.right (Ld.own zG rfl)
  repeat' (first
   | (apply zI; rfl; (apply at2; exact rd_ld rfl hrd rfl; (apply same2; exact rd_ld rfl (hrd (G := [])) rfl; exact same0))) | (apply WD.addN; rfl; rfl; rfl; omega) | (apply WD.slLo; rfl; rfl; rfl; omega) | (apply zQ; rfl; (intro _; rfl)))
  have hdl : ((es.drop (k + 1)).map rowN).flatten.length = (es.length - (k + 1)) * 7 := by rw [rows_lenN, List.length_drop]
  have hsrc : SrcIs B (h2 ++ ((a, .row (tblC most (.sl ⟨false, id2, 0⟩ es.length 7) last)) :: ([(id2, .row (es.map rowN).flatten)] ++ R))) (.sl ⟨false, id2, 0 + (k + 1) * 7⟩ (es.length - (k + 1)) 7) 7 (es.length - (k + 1)) ((es.drop (k + 1)).map rowN).flatten := by
   refine .inr ⟨_, rfl, .inr (Ld.right (Ld.cons (Ld.own zG ?_)))⟩
   rw [Nat.zero_add, rows_dropN, takeN_of (by omega), List.take_of_length_le (by omega)]
  refine WD.app (h := h2) (n := k) rfl rfl rfl (by rw [Nat.zero_add] at o2; exact o2) (List.Perm.refl _) hsrc (rows_cellN _) (rows_cellN _) hdl (by omega) ?_
  intro v3 h3 o3
  have e : dropE es key = es.take k ++ es.drop (k + 1) := hdrop
  have o4 : OwnSl v3 ((dropE es key).map rowN).flatten (dropE es key).length 7 h3 := by
   rw [e, List.length_append, List.length_take, List.length_drop, List.map_append, List.flatten_append, Nat.min_eq_left (by omega)]
   exact o3
  repeat' (first
   | (apply zQ; rfl; (intro _; rfl)))
  apply WD.st (cs := tblC most (.sl ⟨false, id2, 0⟩ es.length 7) last) (cs' := tblC most v3 last)
  ·rfl
  ·rfl
  ·rfl
  ·exact List.perm_middle
  ·rw [o4.cells]; rfl
  ·rw [o4.cells]; exact allCell_cons o4.cell allCell_nil
  ·rw [o4.cells]; rfl
  repeat' (first
   | apply zC | apply zE | apply zD | apply zL | apply zW | (apply WOps.clA; rfl; rfl; exact raise56_tk hm zG; rintro _ _ rfl) | (apply zB; rfl; (intro _; rfl)))
  refine ⟨trivial, [_], ⟨_, [], rfl, rfl, rfl⟩, _, .inr ⟨⟨_, hf⟩, rfl, v3, h3, o4, rfl⟩, subF (by intro f; simp only [AV.cells, pm] <;> omega)⟩
theorem drop66_at {H R : HL} {a most : Nat} {last ix : Int} {es : List (TE NV)} {key : List Nat} (hm : 1 ≤ most) (hn : es.length ≤ 1000) (so : Rise es) (t : TbN H a most es last R) :
  WF B tab (.func 66) [.ptr ⟨false, a, 0⟩, .str key, .int .u64 ix] H fun r H' =>
   (findE es key = none ∧ r = .bool false ∧ TbN H' a most es last R) ∨ ((∃ x, findE es key = some x) ∧ r = .bool true ∧ TbN H' a most (dropE es key) (maxI last ix) R) := by
 obtain ⟨v, hs, ow, q⟩ := t
 refine WF.perm q (WF.mono (drop66_ok hm ow hn so) ?_)
 rintro r H' (⟨h1, h2, rfl⟩ | ⟨h1, h2, v', hs', o', rfl⟩)
 ·exact .inl ⟨h1, h2, v, hs, ow, List.Perm.refl _⟩
 ·exact .inr ⟨h1, h2, v', hs', o', List.Perm.refl _⟩
theorem copy79_ok {H : HL} {a most : Nat} {v : AV} {last : Int} {es : List (TE NV)} (h0 : Ld B H ⟨false, a, 0⟩ 1 [.int .i64 (.ofNat most)]) (hm : 1 ≤ most) (h1 : Ld B H ⟨false, a, 1⟩ 1 [v]) (h2 : Ld B H ⟨false, a, 2⟩ 1 [.int .u64 last]) (o : SrcIs B H v 7 es.length (es.map rowN).flatten) (hn : es.length ≤ 1000) :
  WF B tab (.func 79) [.ptr ⟨false, a, 0⟩] H fun r H' => ∃ a2 v' h', r = .ptr ⟨false, a2, 0⟩ ∧ OwnSl v' (es.map rowN).flatten es.length 7 h' ∧ H' = (a2, .row (tblC most v' last)) :: (h' ++ H) := by
 refine WF.fn g79 rfl ?_
 repeat' (first
  | apply zC | apply zE | apply zD | apply zJ | apply zL | (apply zO; rfl) | apply zT | apply zW | (apply WOps.clR; rfl; rfl; exact none90_ok h0 hm; rintro _ rfl) | (apply yI; rfl; rfl; exact list83_ok h0 hm h1 o hn; rintro v' _ ⟨h', o', rfl⟩; rcases id o' with ⟨rfl, _⟩ | ⟨id2, rfl, _⟩) | (apply WD.bx; rfl; rfl; rfl; rfl; intro _) | (apply zI; rfl; (apply at2; exact rd_ld0 rfl (Ld.right h0); (apply same2; exact rd_ld0 rfl h0; exact same0))) | (apply zI; rfl; (apply at2; exact rd_ld0 rfl (Ld.right h2); (apply same2; exact rd_ld0 rfl h2; exact same0))) | (apply zB; rfl; (intro _; rfl)) | (apply zQ; rfl; (intro _; rfl)))
 all_goals exact ⟨trivial, [_], ⟨_, [], rfl, rfl, rfl⟩, _, _, h', rfl, o', rfl⟩
end Go.Proofs.YtgpnpcahcegadaaGreat.RO
