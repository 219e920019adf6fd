/- What the functions do, shown by the logic. -/
import Derived.Test.YtgpnpcahcegadaaGreatRoA
set_option linter.unusedSimpArgs false
set_option linter.unusedVariables false
set_option linter.unusedSectionVars false
set_option maxRecDepth 20000
namespace Go.Proofs.YtgpnpcahcegadaaGreat.RO
open Go.Proofs.YtgpnpcahcegadaaGreat.Abs
variable {B : Nat → List AV}
def plainC (c : Nat) : Prop := (97 ≤ c ∧ c ≤ 122) ∨ (48 ≤ c ∧ c ≤ 57)
theorem plain103_ok {H : HL} (c : Nat) : WF B tab (.func 103) [.int .u8 (.ofNat c)] H fun r H' => H' = H ∧ ∃ b : Bool, r = .bool b ∧ (b = true ↔ plainC c) := by
 refine WF.fnR g103 rfl ?_
 repeat' (first
  | apply zC | apply zE | apply zD | apply zL | (apply zM; rfl; rfl; rfl; rfl; intro _ _) | (apply zB; rfl; (intro _; rfl)) | (apply zV; rfl) | (apply WOps.ask; rfl; all_goals (intro hb; first | subst hb | fail_if_success (cases hb))))
 all_goals refine ⟨trivial, List.Sublist.refl _, [_], ⟨_, [], rfl, rfl, rfl⟩, _, rfl, ?_⟩
 all_goals simp [cmpP, cmpS, plainC] at *
 all_goals first | omega | (apply Iff.trans; assumption; omega)
theorem plain111_ok {H : HL} (c : Nat) : WF B tab (.func 111) [.int .u8 (.ofNat c)] H fun r H' => H' = H ∧ ∃ b : Bool, r = .bool b ∧ (b = true ↔ plainC c) := by
 refine WF.fnR g111 rfl ?_
 repeat' (first
  | apply zC | apply zE | apply zD | apply zL | (apply zM; rfl; rfl; rfl; rfl; intro _ _) | (apply zB; rfl; (intro _; rfl)) | (apply zV; rfl) | (apply WOps.ask; rfl; all_goals (intro hb; first | subst hb | fail_if_success (cases hb))))
 all_goals refine ⟨trivial, List.Sublist.refl _, [_], ⟨_, [], rfl, rfl, rfl⟩, _, rfl, ?_⟩
 all_goals simp [cmpP, cmpS, plainC] at *
 all_goals first | omega | (apply Iff.trans; assumption; omega)
theorem name102_ok {H : HL} (c : Nat) : WF B tab (.func 102) [.int .u8 (.ofNat c)] H fun r H' => H' = H ∧ ∃ b : Bool, r = .bool b ∧ (b = true ↔ plainC c ∨ c = 45) := by
 refine WF.fnR g102 rfl ?_
 repeat' (first
  | apply zC | apply zE | apply zD | apply zL | (apply WOps.clR; rfl; rfl; exact plain103_ok _; rintro _ ⟨_, rfl, _⟩) | (apply zM; rfl; rfl; rfl; rfl; intro _ _) | (apply zB; rfl; (intro _; rfl)) | (apply zV; rfl) | (apply WOps.ask; rfl; all_goals (intro hb; first | subst hb | fail_if_success (cases hb))))
 all_goals refine ⟨trivial, List.Sublist.refl _, [_], ⟨_, [], rfl, rfl, rfl⟩, _, rfl, ?_⟩
 all_goals simp only [cmpP, cmpS, plainC, true_iff, false_iff, Bool.false_eq_true, Int.ofNat_eq_natCast] at *
 all_goals first | omega | (apply Iff.trans; assumption; omega)
theorem all101_ok {H : HL} (s : List Nat) (hs : s.length ≤ 9223372036854775807) (g : Nat) (p : Nat → Prop) (hy : ∀ c H, WF B tab (.func g) [.int .u8 (.ofNat c)] H fun r H' => H' = H ∧ ∃ b : Bool, r = .bool b ∧ (b = true ↔ p c)) :
  WF B tab (.func 101) [.str s, .fn (.func g) [] []] H fun r H' => H' = H ∧ ∃ b : Bool, r = .bool b ∧ (b = true ↔ ∀ c, c ∈ s → p c) := by
 refine WF.fnR g101 rfl ?_
 repeat' (first
  | apply zC | apply zE | apply zD | apply zK | (apply WOps.lenT; rfl; rfl) | (apply zB; rfl; (intro _; rfl)))
 refine yG ?_
 obtain ⟨i, hi⟩ : ∃ i : Nat, i = 0 := ⟨0, rfl⟩
 refine WL.le (t' := [(0, .str s), (1, .fn (.func g) [] []), (7, .int .i64 (.ofNat s.length)), (8, .int .i64 (.ofNat i))]) (by subst hi; exact zA rfl (zA rfl (zA rfl (zA rfl zH)))) ?_
 have hle : i ≤ s.length := by omega
 have hpre : ∀ (j c : Nat), j < i → s[j]? = some c → p c := by intro j c hj; omega
 clear hi
 induction hk : s.length - i using Nat.strongRecOn generalizing i with | _ k ih => ?_
 apply WL.step
 repeat' (first
  | apply zC | apply zE | apply zD | apply zJ | apply zL | apply zZ | apply zK | (apply zM; rfl; rfl; rfl; rfl; intro _ _) | (apply zB; rfl; (intro _; rfl)) | (apply zN; rfl; all_goals (intro hb; try subst hb)))
 ·rename_i hlt
  have hlt : i < s.length := by have h0 := hlt; simp [cmpP] at h0; omega
  obtain ⟨c, hc⟩ : ∃ c, s[i]? = some c := ⟨s[i], List.getElem?_eq_getElem hlt⟩
  repeat' (first
   | apply zC | apply zE | apply zD | apply zJ | apply zL | (apply WOps.ixT; rfl; rfl; rfl; exact hc) | (apply WOps.cvR; rfl; rfl; rfl; exact hy _ _; rintro _ ⟨bb, rfl, hbb⟩) | (apply zR; rfl; rfl; rfl; omega) | (apply zB; rfl; (intro _; rfl)) | (apply zN; rfl; all_goals (intro hb; try subst hb)))
  ·refine ⟨trivial, List.Sublist.refl _, [_], ⟨_, [], rfl, rfl, rfl⟩, false, rfl, ?_⟩
   simp only [Bool.false_eq_true, false_iff]
   intro h
   have := hbb.2 (h c (List.mem_of_getElem? hc))
   simp_all
  ·refine WL.le (t' := [(0, .str s), (1, .fn (.func g) [] []), (7, .int .i64 (.ofNat s.length)), (8, .int .i64 (.ofNat (i + 1)))]) (zA rfl (zA rfl (zA rfl (zA rfl zH)))) (ih _ (by omega) (i + 1) (by omega) ?_ rfl)
   intro j d hj hd
   rcases Nat.lt_or_ge j i with h1 | h1
   ·exact hpre j d h1 hd
   ·obtain rfl : j = i := by omega
    rw [hc] at hd
    cases hd
    exact hbb.1 (by simpa using hb)
 ·rename_i hge
  have hge : s.length ≤ i := by have h0 := hge; simp [cmpP] at h0; omega
  refine ⟨trivial, List.Sublist.refl _, [_], ⟨_, [], rfl, rfl, rfl⟩, true, rfl, ?_⟩
  simp only [true_iff]
  intro c hc
  obtain ⟨j, hj, e⟩ := List.getElem_of_mem hc
  exact hpre j c (by omega) (by rw [← e]; exact List.getElem?_eq_getElem hj)
def nameP (s : List Nat) : Prop := 1 ≤ s.length ∧ s.length ≤ 24 ∧ ∀ k c, s[k]? = some c → plainC c ∨ (c = 45 ∧ k ≠ 0 ∧ k + 1 ≠ s.length)
theorem not_plain : ¬ plainC 45 := by unfold plainC; omega
theorem name_iff {s : List Nat} {c0 c9 : Nat} (h1 : 1 ≤ s.length) (h2 : s.length ≤ 24) (h0 : s[0]? = some c0) (h9 : s[s.length - 1]? = some c9) : nameP s ↔ c0 ≠ 45 ∧ c9 ≠ 45 ∧ ∀ c, c ∈ s → plainC c ∨ c = 45 := by
 constructor
 ·rintro ⟨_, _, h⟩
  refine ⟨?_, ?_, fun c hc => ?_⟩
  ·rintro rfl
   rcases h 0 45 h0 with h | ⟨_, h, _⟩
   ·exact not_plain h
   ·exact h rfl
  ·rintro rfl
   rcases h _ 45 h9 with h | ⟨_, _, h⟩
   ·exact not_plain h
   ·omega
  ·obtain ⟨k, hk, rfl⟩ := List.getElem_of_mem hc
   rcases h k _ (List.getElem?_eq_getElem hk) with h | ⟨h, _⟩
   ·exact .inl h
   ·exact .inr h
 ·rintro ⟨k0, k9, h⟩
  refine ⟨h1, h2, fun k c hc => ?_⟩
  rcases h c (List.mem_of_getElem? hc) with h | h
  ·exact .inl h
  ·refine .inr ⟨h, ?_, ?_⟩
   ·rintro rfl; rw [h0] at hc; cases hc; exact k0 h
   ·intro e
    have : k = s.length - 1 := by omega
    subst this; rw [h9] at hc; cases hc; exact k9 h
theorem right86_ok {H : HL} (s : List Nat) (hs : s.length ≤ 9223372036854775807) : WF B tab (.func 86) [.str s] H fun r H' => H' = H ∧ ∃ b : Bool, r = .bool b ∧ (b = true ↔ nameP s) := by
 refine WF.fnR g86 rfl ?_
 rcases Nat.eq_zero_or_pos s.length with hz | h1
 ·repeat' (first
   | apply zC | apply zE | apply zD | apply zL | (apply zS; rfl) | (apply WOps.lenT; rfl; rfl) | (apply zM; rfl; rfl; rfl; rfl; intro _ _) | (apply zB; rfl; (intro _; rfl)) | (apply zV; rfl) | (apply WOps.ask; rfl; all_goals (intro hb; first | subst hb | fail_if_success (cases hb))))
  ·exact ⟨trivial, List.Sublist.refl _, [_], ⟨_, [], rfl, rfl, rfl⟩, false, rfl, by simp only [Bool.false_eq_true, false_iff]; intro h; have := h.1; omega⟩
  all_goals
   have h0 := eq_of_ff ‹false = true ↔ cmpP BinOp.lss (Int.ofNat s.length) (Int.ofNat 1)›
   exfalso
   simp [cmpP] at h0
   omega
 ·obtain ⟨c9, h9⟩ : ∃ c, s[s.length - 1]? = some c := ⟨s[s.length - 1]'(by omega), List.getElem?_eq_getElem _⟩
  obtain ⟨c0, h0⟩ : ∃ c, s[0]? = some c := ⟨s[0]'(by omega), List.getElem?_eq_getElem _⟩
  repeat' (first
   | apply zC | apply zE | apply zD | apply zJ | apply zL | (apply zS; rfl) | (apply WOps.lenT; rfl; rfl) | (apply WOps.subN; rfl; rfl; rfl; omega; omega) | (apply WOps.ixT; rfl; rfl; rfl; exact h0) | (apply WOps.ixT; rfl; rfl; rfl; exact h9) | (apply WOps.clR; rfl; rfl; exact all101_ok s hs 102 _ (fun c H => name102_ok c); rintro _ ⟨bb, rfl, hbb⟩) | (apply zM; rfl; rfl; rfl; rfl; intro _ _) | (apply zB; rfl; (intro _; rfl)) | (apply zV; rfl) | (apply WOps.ask; rfl; all_goals (intro hb; first | subst hb | fail_if_success (cases hb))) | (apply zN; rfl; all_goals (intro hb; try subst hb)))
  ·have h2 := ‹true = true ↔ cmpP BinOp.lss _ _›.1 rfl
   simp only [cmpP, Int.ofNat_eq_natCast] at h2
   omega
  ·have h2 := ‹true = true ↔ cmpP BinOp.gtr _ _›.1 rfl
   simp only [cmpP, Int.ofNat_eq_natCast] at h2
   exact ⟨trivial, List.Sublist.refl _, [_], ⟨_, [], rfl, rfl, rfl⟩, false, rfl, by simp only [Bool.false_eq_true, false_iff]; intro h; have := h.2.1; omega⟩
  all_goals
   have h2 := eq_of_ff ‹false = true ↔ cmpP BinOp.gtr _ _›
   simp only [cmpP, Int.ofNat_eq_natCast] at h2
   rw [name_iff h1 (by omega) h0 h9]
  ·have h3 := ‹true = true ↔ cmpP BinOp.eql (Int.ofNat c0) _›.1 rfl
   simp only [cmpP, Int.ofNat_eq_natCast] at h3
   exact ⟨trivial, List.Sublist.refl _, [_], ⟨_, [], rfl, rfl, rfl⟩, false, rfl, by simp only [Bool.false_eq_true, false_iff]; intro h; exact h.1 (by omega)⟩
  ·have h3 := ‹true = true ↔ cmpP BinOp.eql (Int.ofNat c9) _›.1 rfl
   simp only [cmpP, Int.ofNat_eq_natCast] at h3
   exact ⟨trivial, List.Sublist.refl _, [_], ⟨_, [], rfl, rfl, rfl⟩, false, rfl, by simp only [Bool.false_eq_true, false_iff]; intro h; exact h.2.1 (by omega)⟩
  ·have h3 := eq_of_ff ‹false = true ↔ cmpP BinOp.eql (Int.ofNat c0) _›
   have h4 := eq_of_ff ‹false = true ↔ cmpP BinOp.eql (Int.ofNat c9) _›
   simp only [cmpP, Int.ofNat_eq_natCast] at h3 h4
   exact ⟨trivial, List.Sublist.refl _, [_], ⟨_, [], rfl, rfl, rfl⟩, bb, rfl, by rw [hbb]; exact ⟨fun h => ⟨by omega, by omega, h⟩, fun h => h.2.2⟩⟩
theorem right99_ok {H : HL} (s : List Nat) (hs : s.length ≤ 9223372036854775807) : WF B tab (.func 99) [.str s] H fun r H' => H' = H ∧ ∃ b : Bool, r = .bool b ∧ (b = true ↔ nameP s) := by
 refine WF.fnR g99 rfl ?_
 repeat' (first
  | apply zC | apply zE | apply zD | apply zJ | apply zL | (apply zS; rfl) | apply zK | (apply WOps.lenT; rfl; rfl) | (apply zM; rfl; rfl; rfl; rfl; intro _ _) | (apply zB; rfl; (intro _; rfl)) | (apply zV; rfl) | (apply WOps.ask; rfl; all_goals (intro hb; first | subst hb | fail_if_success (cases hb))) | (apply zN; rfl; all_goals (intro hb; try subst hb)))
 ·have h2 := ‹true = true ↔ cmpP BinOp.lss _ _›.1 rfl
  simp only [cmpP, Int.ofNat_eq_natCast] at h2
  exact ⟨trivial, List.Sublist.refl _, [_], ⟨_, [], rfl, rfl, rfl⟩, false, rfl, by simp only [Bool.false_eq_true, false_iff]; intro h; have := h.1; omega⟩
 ·have h2 := ‹true = true ↔ cmpP BinOp.gtr _ _›.1 rfl
  simp only [cmpP, Int.ofNat_eq_natCast] at h2
  exact ⟨trivial, List.Sublist.refl _, [_], ⟨_, [], rfl, rfl, rfl⟩, false, rfl, by simp only [Bool.false_eq_true, false_iff]; intro h; have := h.2.1; omega⟩
 have h1 := eq_of_ff ‹false = true ↔ cmpP BinOp.lss (Int.ofNat s.length) (Int.ofNat 1)›
 have h2 := eq_of_ff ‹false = true ↔ cmpP BinOp.gtr (Int.ofNat s.length) (Int.ofNat 24)›
 simp only [cmpP, Int.ofNat_eq_natCast] at h1 h2
 have g1 : 1 ≤ s.length := by omega
 have g2 : s.length ≤ 24 := by omega
 refine yG ?_
 obtain ⟨i, hi⟩ : ∃ i : Nat, i = 0 := ⟨0, rfl⟩
 refine WL.le (t' := [(0, .str s), (3, .int .i64 (.ofNat i))]) (by subst hi; exact zA rfl (zA rfl zH)) ?_
 have hle : i ≤ s.length := by omega
 have hpre : ∀ (j c : Nat), j < i → s[j]? = some c → plainC c ∨ (c = 45 ∧ j ≠ 0 ∧ j + 1 ≠ s.length) := by intro j c hj; omega
 clear hi
 induction hk : s.length - i using Nat.strongRecOn generalizing i with | _ k ih => ?_
 apply WL.step
 repeat' (first
  | apply zC | apply zE | apply zD | apply zJ | apply zL | apply zZ | apply zK | (apply WOps.lenT; rfl; rfl) | (apply zM; rfl; rfl; rfl; rfl; intro _ _) | (apply zB; rfl; (intro _; rfl)) | (apply zN; rfl; all_goals (intro hb; try subst hb)))
 ·have hlt : i < s.length := by have h0 := ‹true = true ↔ cmpP BinOp.lss _ _›.1 rfl; simp [cmpP] at h0; omega
  obtain ⟨c, hc⟩ : ∃ c, s[i]? = some c := ⟨s[i], List.getElem?_eq_getElem hlt⟩
  repeat' (first
   | apply zC | apply zE | apply zD | apply zJ | apply zL | (apply zS; rfl) | (apply zO; rfl) | (apply WOps.ixT; rfl; rfl; rfl; exact hc) | (apply WOps.clR; rfl; rfl; exact plain111_ok _; rintro _ ⟨bb, rfl, hbb⟩; cases bb) | (apply WOps.lenT; rfl; rfl) | (apply WOps.subN; rfl; rfl; rfl; omega; omega) | (apply zR; rfl; rfl; rfl; omega) | (apply zM; rfl; rfl; rfl; rfl; intro _ _) | (apply zB; rfl; (intro _; rfl)) | (apply zV; rfl) | (apply WOps.ask; rfl; all_goals (intro hb; first | subst hb | fail_if_success (cases hb))) | (apply zN; rfl; all_goals (intro hb; try subst hb)))
  ·have h3 := ‹true = true ↔ cmpP BinOp.neq _ _›.1 rfl
   simp only [cmpP, Int.ofNat_eq_natCast] at h3
   refine ⟨trivial, List.Sublist.refl _, [_], ⟨_, [], rfl, rfl, rfl⟩, false, rfl, ?_⟩
   simp only [Bool.false_eq_true, false_iff]
   rintro ⟨_, _, h⟩
   rcases h i c hc with h | ⟨h, _⟩
   ·exact eq_of_ff hbb h
   ·omega
  ·have h3 := ‹true = true ↔ cmpP BinOp.eql (Int.ofNat i) (Int.ofNat 0)›.1 rfl
   simp only [cmpP, Int.ofNat_eq_natCast] at h3
   refine ⟨trivial, List.Sublist.refl _, [_], ⟨_, [], rfl, rfl, rfl⟩, false, rfl, ?_⟩
   simp only [Bool.false_eq_true, false_iff]
   rintro ⟨_, _, h⟩
   rcases h i c hc with h | ⟨_, h, _⟩
   ·exact eq_of_ff hbb h
   ·omega
  ·have h3 := ‹true = true ↔ cmpP BinOp.eql (Int.ofNat i) (Int.ofNat (s.length - 1))›.1 rfl
   simp only [cmpP, Int.ofNat_eq_natCast] at h3
   refine ⟨trivial, List.Sublist.refl _, [_], ⟨_, [], rfl, rfl, rfl⟩, false, rfl, ?_⟩
   simp only [Bool.false_eq_true, false_iff]
   rintro ⟨_, _, h⟩
   rcases h i c hc with h | ⟨_, _, h⟩
   ·exact eq_of_ff hbb h
   ·omega
  ·have h3 := eq_of_ff ‹false = true ↔ cmpP BinOp.neq _ _›
   have h4 := eq_of_ff ‹false = true ↔ cmpP BinOp.eql (Int.ofNat i) (Int.ofNat 0)›
   have h5 := eq_of_ff ‹false = true ↔ cmpP BinOp.eql (Int.ofNat i) (Int.ofNat (s.length - 1))›
   simp only [cmpP, Int.ofNat_eq_natCast] at h3 h4 h5
   refine WL.le (t' := [(0, .str s), (3, .int .i64 (.ofNat (i + 1)))]) (zA rfl (zA rfl zH)) (ih _ (by omega) (i + 1) (by omega) ?_ rfl)
   intro j d hj hd
   rcases Nat.lt_or_ge j i with h1 | h1
   ·exact hpre j d h1 hd
   ·obtain rfl : j = i := by omega
    rw [hc] at hd
    cases hd
    exact .inr ⟨by omega, by omega, by omega⟩
  ·refine WL.le (t' := [(0, .str s), (3, .int .i64 (.ofNat (i + 1)))]) (zA rfl (zA rfl zH)) (ih _ (by omega) (i + 1) (by omega) ?_ rfl)
   intro j d hj hd
   rcases Nat.lt_or_ge j i with h1 | h1
   ·exact hpre j d h1 hd
   ·obtain rfl : j = i := by omega
    rw [hc] at hd
    cases hd
    exact .inl (hbb.1 rfl)
 ·have hge : s.length ≤ i := by have h0 := eq_of_ff ‹false = true ↔ cmpP BinOp.lss (Int.ofNat i) (Int.ofNat s.length)›; simp only [cmpP, Int.ofNat_eq_natCast] at h0; omega
  exact ⟨trivial, List.Sublist.refl _, [_], ⟨_, [], rfl, rfl, rfl⟩, true, rfl, by simp only [true_iff]; exact ⟨g1, g2, fun k c h => hpre k c (by have := (List.getElem?_eq_some_iff.1 h).1; omega) h⟩⟩
def tagsP (l : List (List Nat)) : Prop := l.length ≤ 4 ∧ (∀ (k : Nat) x, l[k]? = some x → nameP x) ∧ ∀ (k : Nat) x y, l[k]? = some x → l[k + 1]? = some y → strLess x y = true
def strC (k : List Nat) : List AV := [.str k]
theorem strC_at {l : List (List Nat)} {i : Nat} {x : List Nat} (h : l[i]? = some x) : (l.map strC)[i]? = some (strC x) := by rw [List.getElem?_map, h]; rfl
def shortL (l : List (List Nat)) : Prop := ∀ x, x ∈ l → x.length ≤ 9223372036854775807
theorem tags98_ok {H : HL} {v : AV} {l : List (List Nat)} (hv : SlIs B H v 1 (l.map strC)) (hl : l.length ≤ 9223372036854775807) (hs : shortL l) : WF B tab (.func 98) [v] H fun r H' => H' = H ∧ ∃ b : Bool, r = .bool b ∧ (b = true ↔ tagsP l) := by
 refine WF.fnR g98 rfl ?_
 repeat' (first
  | apply zC | apply zE | apply zD | apply zJ | apply zL | apply zK | (apply zU; rfl; rfl; exact hv) | (apply zM; rfl; rfl; rfl; rfl; intro _ _) | (apply zB; rfl; (intro _; rfl)) | (apply zN; rfl; all_goals (intro hb; try subst hb)))
 all_goals rw [List.length_map] at *
 ·have h2 := ‹true = true ↔ cmpP BinOp.gtr _ _›.1 rfl
  simp only [cmpP, Int.ofNat_eq_natCast] at h2
  exact ⟨trivial, List.Sublist.refl _, [_], ⟨_, [], rfl, rfl, rfl⟩, false, rfl, by simp only [Bool.false_eq_true, false_iff]; intro h; have := h.1; omega⟩
 have h4 := eq_of_ff ‹false = true ↔ cmpP BinOp.gtr _ _›
 simp only [cmpP, Int.ofNat_eq_natCast] at h4
 refine yG ?_
 obtain ⟨i, hi⟩ : ∃ i : Nat, i = 0 := ⟨0, rfl⟩
 refine WL.le (t' := [(0, v), (8, v), (9, .int .i64 (.ofNat l.length)), (10, .int .i64 (.ofNat i))]) (by subst hi; exact zA rfl (zA rfl (zA rfl (zA rfl zH)))) ?_
 have hle : i ≤ l.length := by omega
 have hp1 : ∀ (k : Nat) x, k < i → l[k]? = some x → nameP x := by intro k x hk; omega
 have hp2 : ∀ (k : Nat) x y, k + 1 < i → l[k]? = some x → l[k + 1]? = some y → strLess x y = true := by intro k x y hk; omega
 clear hi
 induction hk : l.length - i using Nat.strongRecOn generalizing i with | _ k ih => ?_
 apply WL.step
 repeat' (first
  | apply zC | apply zE | apply zD | apply zJ | apply zL | apply zZ | apply zK | (apply zM; rfl; rfl; rfl; rfl; intro _ _) | (apply zB; rfl; (intro _; rfl)) | (apply zN; rfl; all_goals (intro hb; try subst hb)))
 ·have hlt : i < l.length := by have h0 := ‹true = true ↔ cmpP BinOp.lss (Int.ofNat i) (Int.ofNat l.length)›.1 rfl; simp only [cmpP, Int.ofNat_eq_natCast] at h0; omega
  obtain ⟨x, hx⟩ : ∃ c, l[i]? = some c := ⟨l[i], List.getElem?_eq_getElem hlt⟩
  have hxs := hs x (List.mem_of_getElem? hx)
  obtain ⟨y, hy⟩ : ∃ c, l[i - 1]? = some c := ⟨l[i - 1]'(by omega), List.getElem?_eq_getElem _⟩
  repeat' (first
   | apply zC | apply zE | apply zD | apply zJ | apply zL | (apply zS; rfl) | (apply zO; rfl) | (apply yA; rfl; rfl; rfl; exact hv; exact strC_at hx; intro a1 l1) | (apply yA; rfl; rfl; rfl; exact hv; exact strC_at hy; intro a2 l2) | (apply zF; rfl; rfl; exact l1; rfl) | (apply zF; rfl; rfl; exact l2; rfl) | (apply WOps.clR; rfl; rfl; exact right86_ok x hxs; rintro _ ⟨bb, rfl, hbb⟩; cases bb) | (apply WOps.subN; rfl; rfl; rfl; (have h0 := ‹true = true ↔ cmpP BinOp.gtr (Int.ofNat i) (Int.ofNat 0)›.1 rfl; simp only [cmpP, Int.ofNat_eq_natCast] at h0; omega); omega) | (apply zR; rfl; rfl; rfl; omega) | (apply zM; rfl; rfl; rfl; rfl; intro _ _) | (apply yH; rfl; rfl; rfl; rfl; intro _ _) | (apply zB; rfl; (intro _; rfl)) | (apply zV; rfl) | (apply WOps.ask; rfl; all_goals (intro hb; first | subst hb | fail_if_success (cases hb))) | (apply zN; rfl; all_goals (intro hb; try subst hb)))
  ·refine ⟨trivial, List.Sublist.refl _, [_], ⟨_, [], rfl, rfl, rfl⟩, false, rfl, ?_⟩
   simp only [Bool.false_eq_true, false_iff]
   intro h
   exact eq_of_ff hbb (h.2.1 i x hx)
  ·have h3 := ‹true = true ↔ cmpS BinOp.geq _ _›.1 rfl
   have h0 := ‹true = true ↔ cmpP BinOp.gtr (Int.ofNat i) (Int.ofNat 0)›.1 rfl
   simp only [cmpP, Int.ofNat_eq_natCast] at h0
   refine ⟨trivial, List.Sublist.refl _, [_], ⟨_, [], rfl, rfl, rfl⟩, false, rfl, ?_⟩
   simp only [Bool.false_eq_true, false_iff]
   intro h
   exact h3 (h.2.2 (i - 1) y x hy (by rw [Nat.sub_add_cancel (by omega)]; exact hx))
  all_goals
   refine WL.le (t' := [(0, v), (8, v), (9, .int .i64 (.ofNat l.length)), (10, .int .i64 (.ofNat (i + 1)))]) (zA rfl (zA rfl (zA rfl (zA rfl zH)))) (ih _ (by omega) (i + 1) (by omega) ?_ ?_ rfl)
   ·intro j z hj hz
    rcases Nat.lt_or_ge j i with h1 | h1
    ·exact hp1 j z h1 hz
    ·obtain rfl : j = i := by omega
     rw [hx] at hz; cases hz
     exact hbb.1 rfl
  ·intro j z u hj hz hu
   rcases Nat.lt_or_ge (j + 1) i with h1 | h1
   ·exact hp2 j z u h1 hz hu
   ·have e : j + 1 = i := by omega
    rw [e, hx] at hu; cases hu
    rw [show i - 1 = j by omega, hz] at hy; cases hy
    have h3 := eq_of_ff ‹false = true ↔ cmpS BinOp.geq _ _›
    simpa [cmpS] using h3
  ·intro j z u hj hz hu
   have h3 := eq_of_ff ‹false = true ↔ cmpP BinOp.gtr (Int.ofNat i) (Int.ofNat 0)›
   simp only [cmpP, Int.ofNat_eq_natCast] at h3
   omega
 ·have hge : l.length ≤ i := by have h0 := eq_of_ff ‹false = true ↔ cmpP BinOp.lss (Int.ofNat i) (Int.ofNat l.length)›; simp only [cmpP, Int.ofNat_eq_natCast] at h0; omega
  exact ⟨trivial, List.Sublist.refl _, [_], ⟨_, [], rfl, rfl, rfl⟩, true, rfl, by simp only [true_iff]; exact ⟨by omega, fun k c h => hp1 k c (by have := (List.getElem?_eq_some_iff.1 h).1; omega) h, fun k x y h1 h2 => hp2 k x y (by have := (List.getElem?_eq_some_iff.1 h2).1; omega) h1 h2⟩⟩
def riseP (l : List (List Nat)) : Prop := ∀ (k : Nat) x y, l[k]? = some x → l[k + 1]? = some y → strLess x y = true
theorem rising112_ok {H : HL} {v : AV} {l : List (List Nat)} (hv : SlIs B H v 1 (l.map strC)) (hl : l.length ≤ 8796093021952) : WF B tab (.func 112) [v] H fun r H' => H' = H ∧ ∃ b : Bool, r = .bool b ∧ (b = true ↔ riseP l) := by
 refine WF.fnR g112 rfl ?_
 repeat' (first
  | apply zC | apply zE | apply zD | apply zK | (apply zB; rfl; (intro _; rfl)))
 refine yG ?_
 obtain ⟨i, hi⟩ : ∃ i : Nat, i = 1 := ⟨1, rfl⟩
 refine WL.le (t' := [(0, v), (3, .int .i64 (.ofNat i))]) (by subst hi; exact zA rfl (zA rfl zH)) ?_
 have hi1 : 1 ≤ i := by omega
 have hle : i ≤ l.length + 1 := by omega
 have hp2 : ∀ (k : Nat) x y, k + 1 < i → l[k]? = some x → l[k + 1]? = some y → strLess x y = true := by intro k x y hk; omega
 clear hi
 induction hk : l.length + 1 - i using Nat.strongRecOn generalizing i with | _ k ih => ?_
 apply WL.step
 repeat' (first
  | apply zC | apply zE | apply zD | apply zJ | apply zL | apply zZ | apply zK | apply zT | (apply zU; rfl; rfl; exact hv) | (apply WD.subN; rfl; rfl; rfl; omega; omega) | (apply zM; rfl; rfl; rfl; rfl; intro _ _) | (apply zB; rfl; (intro _; rfl)) | (apply zQ; rfl; (intro _; rfl)) | (apply zN; rfl; all_goals (intro hb; try subst hb)))
 all_goals rw [List.length_map] at *
 ·have hlt : i < l.length := by have h0 := ‹true = true ↔ cmpP BinOp.lss (Int.ofNat i) (Int.ofNat l.length)›.1 rfl; simp only [cmpP, Int.ofNat_eq_natCast] at h0; omega
  obtain ⟨x, hx⟩ : ∃ c, l[i]? = some c := ⟨l[i], List.getElem?_eq_getElem hlt⟩
  obtain ⟨y, hy⟩ : ∃ c, l[i - 1]? = some c := ⟨l[i - 1]'(by omega), List.getElem?_eq_getElem _⟩
  repeat' (first
   | apply zC | apply zE | apply zD | apply zJ | apply zL | apply zW | (apply WD.ixSl; rfl; rfl; rfl; exact hv; exact strC_at hy; intro a2 l2) | (apply WD.ixSl; rfl; rfl; rfl; exact hv; exact strC_at hx; intro a1 l1) | (apply zI; rfl; · repeat' (first | refine at1 ?_ rfl | apply at2 | exact same0 | refine same1 ?_ rfl | apply same2 | exact rd_ld rfl (l1 _ hv) rfl)) | (apply zI; rfl; · repeat' (first | refine at1 ?_ rfl | apply at2 | exact same0 | refine same1 ?_ rfl | apply same2 | exact rd_ld rfl (l2 _ hv) rfl)) | (apply zR; rfl; rfl; rfl; omega) | (apply zB; rfl; (intro _; rfl)) | (apply WD.cmpT; rfl; rfl; rfl; rfl; intro _ _) | (apply zQ; rfl; (intro _; rfl)) | (apply zN; rfl; all_goals (intro hb; try subst hb)))
  ·have h3 := ‹true = true ↔ cmpS BinOp.geq _ _›.1 rfl
   refine ⟨trivial, List.Sublist.refl _, [_], ⟨_, [], rfl, rfl, rfl⟩, false, rfl, ?_⟩
   simp only [Bool.false_eq_true, false_iff]
   intro h
   exact h3 (h (i - 1) y x hy (by rw [Nat.sub_add_cancel (by omega)]; exact hx))
  ·refine WL.le (t' := [(0, v), (3, .int .i64 (.ofNat (i + 1)))]) (zA rfl (zA rfl zH)) (ih _ (by omega) (i + 1) (by omega) (by omega) ?_ rfl)
   intro j z u hj hz hu
   rcases Nat.lt_or_ge (j + 1) i with h1 | h1
   ·exact hp2 j z u h1 hz hu
   ·have e : j + 1 = i := by omega
    rw [e, hx] at hu; cases hu
    rw [show i - 1 = j by omega, hz] at hy; cases hy
    have h3 := eq_of_ff ‹false = true ↔ cmpS BinOp.geq _ _›
    simpa [cmpS] using h3
 ·have hge : l.length ≤ i := by have h0 := eq_of_ff ‹false = true ↔ cmpP BinOp.lss (Int.ofNat i) (Int.ofNat l.length)›; simp only [cmpP, Int.ofNat_eq_natCast] at h0; omega
  exact ⟨trivial, List.Sublist.refl _, [_], ⟨_, [], rfl, rfl, rfl⟩, true, rfl, by simp only [true_iff]; exact fun k x y h1 h2 => hp2 k x y (by have := (List.getElem?_eq_some_iff.1 h2).1; omega) h1 h2⟩
theorem tags100_ok {H : HL} {v : AV} {l : List (List Nat)} (hv : SlIs B H v 1 (l.map strC)) (hl : l.length ≤ 8796093021952) (hs : shortL l) : WF B tab (.func 100) [v] H fun r H' => H' = H ∧ ∃ b : Bool, r = .bool b ∧ (b = true ↔ tagsP l) := by
 refine WF.fnR g100 rfl ?_
 repeat' (first
  | apply zC | apply zE | apply zD | apply zJ | apply zL | (apply zS; rfl) | (apply zO; rfl) | apply zK | (apply zU; rfl; rfl; exact hv) | (apply WOps.clR; rfl; rfl; exact rising112_ok hv hl; rintro _ ⟨bb, rfl, hbb⟩; cases bb) | (apply zM; rfl; rfl; rfl; rfl; intro _ _) | (apply zB; rfl; (intro _; rfl)) | (apply zV; rfl) | (apply WOps.ask; rfl; all_goals (intro hb; first | subst hb | fail_if_success (cases hb))))
 all_goals rw [List.length_map] at *
 ·have h2 := ‹true = true ↔ cmpP BinOp.gtr _ _›.1 rfl
  simp only [cmpP, Int.ofNat_eq_natCast] at h2
  exact ⟨trivial, List.Sublist.refl _, [_], ⟨_, [], rfl, rfl, rfl⟩, false, rfl, by simp only [Bool.false_eq_true, false_iff]; intro h; have := h.1; omega⟩
 ·exact ⟨trivial, List.Sublist.refl _, [_], ⟨_, [], rfl, rfl, rfl⟩, false, rfl, by simp only [Bool.false_eq_true, false_iff]; intro h; exact eq_of_ff hbb h.2.2⟩
 have h4 := eq_of_ff ‹false = true ↔ cmpP BinOp.gtr _ _›
 simp only [cmpP, Int.ofNat_eq_natCast] at h4
 have g20 : l.length ≤ 4 := by omega
 refine yG ?_
 obtain ⟨i, hi⟩ : ∃ i : Nat, i = 0 := ⟨0, rfl⟩
 refine WL.le (t' := [(0, v), (3, .int .i64 (.ofNat i))]) (by subst hi; exact zA rfl (zA rfl zH)) ?_
 have hle : i ≤ l.length := by omega
 have hp1 : ∀ (k : Nat) x, k < i → l[k]? = some x → nameP x := by intro k x hk; omega
 clear hi
 induction hk : l.length - i using Nat.strongRecOn generalizing i with | _ k ih => ?_
 apply WL.step
 repeat' (first
  | apply zC | apply zE | apply zD | apply zJ | apply zL | apply zZ | apply zK | (apply zU; rfl; rfl; exact hv) | (apply zM; rfl; rfl; rfl; rfl; intro _ _) | (apply zB; rfl; (intro _; rfl)) | (apply zN; rfl; all_goals (intro hb; try subst hb)))
 all_goals rw [List.length_map] at *
 ·have hlt : i < l.length := by have h0 := ‹true = true ↔ cmpP BinOp.lss (Int.ofNat i) (Int.ofNat l.length)›.1 rfl; simp only [cmpP, Int.ofNat_eq_natCast] at h0; omega
  obtain ⟨x, hx⟩ : ∃ c, l[i]? = some c := ⟨l[i], List.getElem?_eq_getElem hlt⟩
  have hxs := hs x (List.mem_of_getElem? hx)
  repeat' (first
   | apply zC | apply zE | apply zD | apply zJ | apply zL | (apply zS; rfl) | (apply zO; rfl) | (apply yA; rfl; rfl; rfl; exact hv; exact strC_at hx; intro a1 l1) | (apply zF; rfl; rfl; exact l1; rfl) | (apply WOps.clR; rfl; rfl; exact right99_ok x hxs; rintro _ ⟨bb, rfl, hb2⟩; cases bb) | (apply zR; rfl; rfl; rfl; omega) | (apply zB; rfl; (intro _; rfl)))
  ·refine ⟨trivial, List.Sublist.refl _, [_], ⟨_, [], rfl, rfl, rfl⟩, false, rfl, ?_⟩
   simp only [Bool.false_eq_true, false_iff]
   intro h
   exact eq_of_ff hb2 (h.2.1 i x hx)
  ·refine WL.le (t' := [(0, v), (3, .int .i64 (.ofNat (i + 1)))]) (zA rfl (zA rfl zH)) (ih _ (by omega) (i + 1) (by omega) ?_ rfl)
   intro j z hj hz
   rcases Nat.lt_or_ge j i with h1 | h1
   ·exact hp1 j z h1 hz
   ·obtain rfl : j = i := by omega
    rw [hx] at hz; cases hz
    exact hb2.1 rfl
 ·have hge : l.length ≤ i := by have h0 := eq_of_ff ‹false = true ↔ cmpP BinOp.lss (Int.ofNat i) (Int.ofNat l.length)›; simp only [cmpP, Int.ofNat_eq_natCast] at h0; omega
  exact ⟨trivial, List.Sublist.refl _, [_], ⟨_, [], rfl, rfl, rfl⟩, true, rfl, by simp only [true_iff]; exact ⟨g20, fun k c h => hp1 k c (by have := (List.getElem?_eq_some_iff.1 h).1; omega) h, hbb.1 rfl⟩⟩
end Go.Proofs.YtgpnpcahcegadaaGreat.RO
