/- What the functions do, shown by the logic. -/
import Derived.Test.YtdcbglljljfleaaDuP4
set_option linter.unusedSimpArgs false
set_option linter.unusedVariables false
set_option linter.unusedSectionVars false
set_option maxRecDepth 20000
namespace Go.Proofs.Ytdcbglljljfleaa.DU
open Go.Proofs.Ytdcbglljljfleaa.Abs
variable {B : Nat → List AV}
theorem strEq_self (l : List Nat) : strEq l l = true := by
 induction l with
 | nil => rfl
 | cons a l ih => simp only [strEq, ih, Nat.beq_refl]
theorem WD.eqS {T : Tr FnI} {t : EL} {H : HL} {HH : List (Nat × HL)} {Q : EL → HL → Prop} {os : List DOper} {k : Nat} {g : Option (Nat × Bool)} {i bs : Nat} {x y : AO} {l : List Nat} (hg : wantedL g t = some true) (hx : gl t x = some (.str l)) (hy : gl t y = some (.str l))
  (w : WD B T os ((k, .bool true) :: t) H HH Q) : WD B T (⟨⟨some k, .bin .eql x y, g⟩, .quiet, i, bs⟩ :: os) t H HH Q :=
 WD.pur hg (fun h => by simp [aopL, hx, hy, aBin, pure1, strEq_self]) w
/-! ### What is read was laid so -/
theorem digs_val : ∀ {l : List Nat}, byL l → l.head? ≠ some 0 → digs (valB l) = l.reverse ∧ (l ≠ [] → 0 < valB l) := by
 intro l
 induction h : l.length generalizing l with
 | zero =>
  intro _ _
  obtain rfl := List.length_eq_zero_iff.1 h
  exact ⟨digs_zero, fun h => absurd rfl h⟩
 | succ n ih =>
  intro hb hh
  rcases List.eq_nil_or_concat l with rfl | ⟨l', b, rfl⟩
  ·simp at h
  ·rw [List.concat_eq_append] at *
   have hb' : byL l' := fun x hx => hb x (List.mem_append_left _ hx)
   have b1 := hb b (by simp)
   rw [valB_snoc, List.reverse_append]
   rcases List.eq_nil_or_concat l' with rfl | ⟨l2, c, rfl⟩
   ·have b0 : b ≠ 0 := fun e => hh (by rw [e]; rfl)
    have e0 : valB [] = 0 := rfl
    rw [e0]
    refine ⟨?_, fun _ => by omega⟩
    rw [digs_eq (by omega), show (0 * 256 + b) % 256 = b by omega, show (0 * 256 + b) / 256 = 0 by omega, digs_zero]; rfl
   ·rw [List.concat_eq_append] at *
    obtain ⟨h1, h2⟩ := ih (l := l2 ++ [c]) (by simpa using h) hb' (fun e => hh (by
     cases l2 with
     | nil => simpa using e
     | cons x l2 => simpa using e))
    have h3 := h2 (by simp)
    refine ⟨?_, fun _ => by omega⟩
    rw [digs_eq (by omega), show (valB (l2 ++ [c]) * 256 + b) % 256 = b by omega, show (valB (l2 ++ [c]) * 256 + b) / 256 = valB (l2 ++ [c]) by omega, h1]; rfl
theorem rdN_inv {bs : List Nat} {n k : Nat} (hb : byL bs) (h : rdN bs = (n, k, 0)) : bs = numB n ++ bs.drop k ∧ n < 18446744073709551616 := by
 have hlt := (rdN_lt hb).1
 rw [h] at hlt
 refine ⟨?_, hlt⟩
 cases bs with
 | nil => simp [rdN] at h
 | cons m r =>
  by_cases h8 : 8 < m
  ·rw [rdN_8 h8] at h; simp at h
  by_cases h0 : 0 < m ∧ r.head? = some 0
  ·rw [rdN_0 h0] at h; simp at h
  by_cases hs : r.length < m
  ·rw [rdN_s h8 h0 hs] at h; simp at h
  rw [rdN_ok h8 h0 hs] at h
  simp only [Prod.mk.injEq, and_true] at h
  obtain ⟨rfl, rfl⟩ := h
  have hr : byL r := fun b h => hb b (List.mem_cons_of_mem _ h)
  have hl : (r.take m).length = m := by rw [List.length_take]; omega
  obtain ⟨e, _⟩ := digs_val (l := r.take m) (hr.take m) (by
   intro e
   rcases Nat.eq_zero_or_pos m with hz | hz
   ·rw [hz] at e; simp at e
   ·rw [List.head?_take] at e
    rw [if_neg (by omega)] at e
    exact h0 ⟨hz, e⟩)
  have e2 : (digs (valB (r.take m))).length = m := by rw [e, List.length_reverse, hl]
  rw [numB, e2, e, List.reverse_reverse, List.drop_succ_cons, List.cons_append, List.take_append_drop]
theorem exNum {m : Nat} : Ex (numS m) numB (fun n => n ≤ m) := by
 rintro ⟨bs, e⟩ hb h
 by_cases he : e = 0
 ·subst he
  obtain ⟨n, k, e, hr⟩ : ∃ n k e, rdN bs = (n, k, e) := ⟨_, _, _, rfl⟩
  by_cases h1 : e = 0
  ·subst h1
   by_cases h2 : m < n
   ·rw [numS_c hr h2] at h; simp at h
   ·rw [numS_d hr (by omega)]
    exact ⟨rfl, (rdN_inv hb hr).1, by simp only; omega⟩
  ·rw [numS_b hr h1] at h; exact absurd h h1
 ·rw [numS_a he] at h; exact absurd h he
theorem exText : Ex (textS 80) textB (fun l => l.length ≤ 80) := by
 rintro ⟨bs, e⟩ hb h
 by_cases he : e = 0
 ·subst he
  obtain ⟨n, k, e, hr⟩ : ∃ n k e, rdN bs = (n, k, e) := ⟨_, _, _, rfl⟩
  by_cases h1 : e = 0
  ·subst h1
   by_cases h2 : 80 < n
   ·rw [textS_c hr h2] at h; simp at h
   by_cases h3 : bs.length - k < n
   ·rw [textS_d hr (by omega) h3] at h; simp at h
   ·rw [textS_e hr (by omega) (by omega)]
    have hl : ((bs.drop k).take n).length = n := by rw [List.length_take, List.length_drop]; omega
    refine ⟨rfl, ?_, by simp only [hl]; omega⟩
    have e1 := (rdN_inv hb hr).1
    simp only [textB, hl]
    rw [List.append_assoc, ← List.drop_drop, List.take_append_drop]
    exact e1
  ·rw [textS_b hr h1] at h; exact absurd h h1
 ·rw [textS_a he] at h; exact absurd h he
theorem exFlag : Ex flagS flagB (fun _ => True) := by
 rintro ⟨bs, e⟩ hb h
 by_cases he : e = 0
 ·subst he
  obtain ⟨n, k, e, hr⟩ : ∃ n k e, rdN bs = (n, k, e) := ⟨_, _, _, rfl⟩
  by_cases h1 : e = 0
  ·subst h1
   by_cases h2 : 1 < n
   ·rw [flagS_c hr h2] at h; simp at h
   ·rw [flagS_d hr (by omega)]
    have e1 := (rdN_inv hb hr).1
    refine ⟨rfl, ?_, trivial⟩
    have : n = 0 ∨ n = 1 := by omega
    rcases this with rfl | rfl
    ·rw [numB_zero] at e1; exact e1
    ·rw [numB_one] at e1; exact e1
  ·rw [flagS_b hr h1] at h; exact absurd h h1
 ·rw [flagS_a he] at h; exact absurd h he
theorem exLoop {α : Type} {rd : St → α × St} {by_ : α → List Nat} {good : α → Prop} (h : Ex rd by_ good) : ∀ n, Ex (loopS rd n) (fun l => (l.map by_).flatten) (fun l => l.length = n ∧ ∀ x, x ∈ l → good x) := by
 intro n
 induction n with
 | zero =>
  intro s hb h0
  exact ⟨h0, rfl, rfl, fun x hx => by cases hx⟩
 | succ n ih =>
  intro s hb h0
  by_cases hs : s.2 = 0
  ·rw [loopS_s hs] at h0 ⊢
   dsimp only at h0 ⊢
   have hq : (rd s).2.2 = 0 := by
    cases n with
    | zero => exact h0
    | succ n =>
     by_cases hq : (rd s).2.2 = 0
     ·exact hq
     ·rw [loopS_e hq] at h0; exact h0
   obtain ⟨_, e1, g1⟩ := h s hb hq
   obtain ⟨_, e2, e3, g2⟩ := ih (rd s).2 (h.by hb hq) h0
   refine ⟨hs, ?_, by rw [List.length_cons, e3], ?_⟩
   ·rw [List.map_cons, List.flatten_cons, List.append_assoc, ← e2]; exact e1
   ·intro x hx
    rcases List.mem_cons.1 hx with rfl | hx
    ·exact g1
    ·exact g2 x hx
  ·rw [loopS_e hs] at h0; exact absurd h0 hs
theorem exMany {α : Type} {rd : St → α × St} {by_ : α → List Nat} {good : α → Prop} (h : Ex rd by_ good) (m : Nat) : Ex (fun s => loopS rd (numS m s).1 (numS m s).2) (fun l => numB l.length ++ (l.map by_).flatten) (fun l => l.length ≤ m ∧ ∀ x, x ∈ l → good x) := by
 intro s hb h0
 dsimp only at h0 ⊢
 have hq : (numS m s).2.2 = 0 := by
  cases hn : (numS m s).1 with
  | zero => rw [hn] at h0; exact h0
  | succ n =>
   by_cases hq : (numS m s).2.2 = 0
   ·exact hq
   ·rw [loopS_e hq] at h0; exact h0
 obtain ⟨a1, a2, a3⟩ := exNum s hb hq
 obtain ⟨_, b2, b3, b4⟩ := exLoop h _ _ (exNum.by hb hq) h0
 refine ⟨a1, ?_, by rw [b3]; exact a3, b4⟩
 rw [b3, List.append_assoc, ← b2]; exact a2
theorem exTexts : Ex (textsS 8 80) textsB (fun l => l.length ≤ 8 ∧ ∀ s, s ∈ l → s.length ≤ 80) := by
 intro s hb h0
 unfold textsS at h0 ⊢
 split at h0
 ·rename_i hq
  rw [if_pos hq]
  exact exMany exText 8 s hb h0
 ·rename_i hq
  exact absurd h0 hq
theorem exF (k : Kd) : Ex (rdF k) Fd.bytes Fd.right := by
 intro s hb h0
 cases k with
 | int m =>
  obtain ⟨a, b, c⟩ := exNum (m := m) s hb h0
  exact ⟨a, b, ⟨by simp [rdF], by simp only [rdF, Int.ofNat_eq_natCast]; omega⟩⟩
 | num => obtain ⟨a, b, c⟩ := exNum (m := 18446744073709551615) s hb h0; exact ⟨a, b, trivial⟩
 | u32 => obtain ⟨a, b, c⟩ := exNum (m := 4294967295) s hb h0; exact ⟨a, b, trivial⟩
 | txt => exact exText s hb h0
 | flg => exact exFlag s hb h0
 | txs => exact exTexts s hb h0
theorem rdF_err {k : Kd} {s : St} (h : s.2 ≠ 0) : (rdF k s).2.2 ≠ 0 := by
 cases k with
 | int m => simp only [rdF, numS_a h]; exact h
 | num => simp only [rdF, numS_a h]; exact h
 | u32 => simp only [rdF, numS_a h]; exact h
 | txt => simp only [rdF, textS_a h]; exact h
 | flg => simp only [rdF, flagS_a h]; exact h
 | txs => simp only [rdF, textsS_e h]; exact h
theorem rdR_err : ∀ {ks : List Kd} {s : St}, s.2 ≠ 0 → (rdR ks s).2.2 ≠ 0 := by
 intro ks
 induction ks with
 | nil => intro s h; exact h
 | cons k ks ih => intro s h; exact ih (rdF_err h)
theorem exR : ∀ ks : List Kd, Ex (rdR ks) rowB rightRow := by
 intro ks
 induction ks with
 | nil => intro s hb h0; exact ⟨h0, rfl, fun f hf => by cases hf⟩
 | cons k ks ih =>
  intro s hb h0
  have hq : (rdF k s).2.2 = 0 := by
   by_cases hq : (rdF k s).2.2 = 0
   ·exact hq
   ·exact absurd (show (rdR ks (rdF k s).2).2.2 = 0 from h0) (rdR_err hq)
  obtain ⟨a1, a2, a3⟩ := exF k s hb hq
  obtain ⟨_, b2, b3⟩ := ih _ ((exF k).by hb hq) h0
  refine ⟨a1, ?_, ?_⟩
  ·simp only [rdR, rowB, List.map_cons, List.flatten_cons, List.append_assoc] at b2 ⊢
   rw [← b2]; exact a2
  ·intro f hf
   rcases List.mem_cons.1 hf with rfl | hf
   ·exact a3
   ·exact b3 f hf
theorem exRows (ks : List Kd) : Ex (rowsS ks) rowsB (fun l => l.length ≤ 64 ∧ ∀ r, r ∈ l → rightRow r) := exMany (exR ks) 64
theorem numS_err {m : Nat} {s : St} (h : (numS m s).2.2 = 0) : s.2 = 0 := by
 by_cases hq : s.2 = 0
 ·exact hq
 ·rw [numS_a hq] at h; exact h
theorem rowsS_err {ks : List Kd} {s : St} (h : (rowsS ks s).2.2 = 0) : s.2 = 0 := by
 by_cases hq : s.2 = 0
 ·exact hq
 ·rw [rowsS, numS_a hq] at h; exact h
theorem right_strip {f : Fd} : (strip f).right ↔ f.right := by cases f <;> exact Iff.rfl
theorem bytes_strip {f : Fd} : (strip f).bytes = f.bytes := by cases f <;> rfl
theorem rowB_strip (r : List Fd) : rowB (stripR r) = rowB r := by
 unfold rowB stripR
 rw [List.map_map]
 exact congrArg List.flatten (List.map_congr_left fun f _ => bytes_strip)
theorem rowsB_strip (l : List (List Fd)) : rowsB (l.map stripR) = rowsB l := by
 unfold rowsB
 rw [List.length_map, List.map_map]
 exact congrArg (fun x => numB l.length ++ List.flatten x) (List.map_congr_left fun r _ => rowB_strip r)
theorem nb_of {l l' : List (List Fd)} (e : l.map stripR = l') (h : ∀ r, r ∈ l' → rightRow r) : ¬ badL l := by
 rintro ⟨r, hr, hn⟩
 apply hn
 have h1 := h (stripR r) (by rw [← e]; exact List.mem_map_of_mem hr)
 intro f hf
 exact right_strip.1 (h1 (strip f) (List.mem_map_of_mem hf))
theorem exNum' {m : Nat} {s : St} {x : Nat × St} (e : x = numS m s) (hb : byL s.1) (h0 : x.2.2 = 0) : byL x.2.1 ∧ s.1 = numB x.1 ++ x.2.1 := by
 subst e; exact ⟨exNum.by hb h0, (exNum s hb h0).2.1⟩
theorem exRows' {ks : List Kd} {s : St} {x : List (List Fd) × St} (e : x = rowsS ks s) (hb : byL s.1) (h0 : x.2.2 = 0) : byL x.2.1 ∧ s.1 = rowsB x.1 ++ x.2.1 ∧ x.1.length ≤ 64 ∧ ∀ r, r ∈ x.1 → rightRow r := by
 subst e; exact ⟨(exRows ks).by hb h0, (exRows ks s hb h0).2⟩
theorem once_get {d : DD} {bs : List Nat} (hb : byL bs) (h0 : (getD bs).2 = 0) (e : stripD d = (getD bs).1) : ¬ badD d ∧ dumpB d = bs := by
 obtain ⟨g, hg⟩ : ∃ g, getS bs = g := ⟨_, rfl⟩
 have eD : getD bs = if doneS g.2 = 0 then (g.1, 0) else (zD, doneS g.2) := by rw [getD, hg]
 rw [eD] at h0 e
 have hz : doneS g.2 = 0 := by
  by_cases hz : doneS g.2 = 0
  ·exact hz
  ·rw [if_neg hz] at h0; exact h0
 rw [if_pos hz] at e
 dsimp only at e
 have h1 : g.2.2 = 0 := by
  by_cases hq : g.2.2 = 0
  ·exact hq
  ·rw [doneS, if_neg hq] at hz; exact hz
 have h2 : g.2.1 = [] := by
  by_cases hq : 0 < g.2.1.length
  ·rw [doneS, if_pos h1, if_pos hq] at hz; cases hz
  ·exact List.length_eq_zero_iff.1 (Nat.eq_zero_of_not_pos hq)
 clear eD h0 hz
 subst hg
 unfold getS at h1 h2 e
 dsimp only at h1 h2 e
 obtain ⟨a, ea⟩ : ∃ a, a = numS 18446744073709551615 (bs, 0) := ⟨_, rfl⟩
 rw [← ea] at h1 h2 e
 obtain ⟨n, en⟩ : ∃ x, x = rowsS kN a.2 := ⟨_, rfl⟩
 rw [← en] at h1 h2 e
 obtain ⟨s, es⟩ : ∃ x, x = rowsS kS n.2 := ⟨_, rfl⟩
 rw [← es] at h1 h2 e
 obtain ⟨c, ec⟩ : ∃ x, x = rowsS kC s.2 := ⟨_, rfl⟩
 rw [← ec] at h1 h2 e
 obtain ⟨i, ei⟩ : ∃ x, x = rowsS kI c.2 := ⟨_, rfl⟩
 rw [← ei] at h1 h2 e
 obtain ⟨e', ee⟩ : ∃ x, x = rowsS kE i.2 := ⟨_, rfl⟩
 rw [← ee] at h1 h2 e
 obtain ⟨l, el⟩ : ∃ x, x = rowsS kL e'.2 := ⟨_, rfl⟩
 rw [← el] at h1 h2 e
 obtain ⟨a0, e0⟩ : ∃ x, x = numS 18446744073709551615 l.2 := ⟨_, rfl⟩
 rw [← e0] at h1 h2 e
 obtain ⟨a1, e1⟩ : ∃ x, x = numS 18446744073709551615 a0.2 := ⟨_, rfl⟩
 rw [← e1] at h1 h2 e
 obtain ⟨a2, e2⟩ : ∃ x, x = numS 18446744073709551615 a1.2 := ⟨_, rfl⟩
 rw [← e2] at h1 h2 e
 obtain ⟨a3, e3⟩ : ∃ x, x = numS 18446744073709551615 a2.2 := ⟨_, rfl⟩
 rw [← e3] at h1 h2 e
 obtain ⟨a4, e4⟩ : ∃ x, x = numS 18446744073709551615 a3.2 := ⟨_, rfl⟩
 rw [← e4] at h1 h2 e
 obtain ⟨a5, e5⟩ : ∃ x, x = numS 18446744073709551615 a4.2 := ⟨_, rfl⟩
 rw [← e5] at h1 h2 e
 obtain ⟨q, eq⟩ : ∃ x, x = rowsS kQ a5.2 := ⟨_, rfl⟩
 rw [← eq] at h1 h2 e
 have z5 : a5.2.2 = 0 := rowsS_err (by rw [← eq]; exact h1)
 have z4 : a4.2.2 = 0 := numS_err (by rw [← e5]; exact z5)
 have z3 : a3.2.2 = 0 := numS_err (by rw [← e4]; exact z4)
 have z2 : a2.2.2 = 0 := numS_err (by rw [← e3]; exact z3)
 have z1 : a1.2.2 = 0 := numS_err (by rw [← e2]; exact z2)
 have z0 : a0.2.2 = 0 := numS_err (by rw [← e1]; exact z1)
 have zl : l.2.2 = 0 := numS_err (by rw [← e0]; exact z0)
 have ze : e'.2.2 = 0 := rowsS_err (by rw [← el]; exact zl)
 have zi : i.2.2 = 0 := rowsS_err (by rw [← ee]; exact ze)
 have zc : c.2.2 = 0 := rowsS_err (by rw [← ei]; exact zi)
 have zs : s.2.2 = 0 := rowsS_err (by rw [← ec]; exact zc)
 have zn : n.2.2 = 0 := rowsS_err (by rw [← es]; exact zs)
 have za : a.2.2 = 0 := rowsS_err (by rw [← en]; exact zn)
 obtain ⟨ba, ua⟩ := exNum' ea hb za
 obtain ⟨bn, un, gn1, gn⟩ := exRows' en ba zn
 obtain ⟨bs', us, gs1, gs⟩ := exRows' es bn zs
 obtain ⟨bc, uc, gc1, gc⟩ := exRows' ec bs' zc
 obtain ⟨bi, ui, gi1, gi⟩ := exRows' ei bc zi
 obtain ⟨be, ue, ge1, ge⟩ := exRows' ee bi ze
 obtain ⟨bl, ul, gl1, gl⟩ := exRows' el be zl
 obtain ⟨b0, u0⟩ := exNum' e0 bl z0
 obtain ⟨b1, u1⟩ := exNum' e1 b0 z1
 obtain ⟨b2, u2⟩ := exNum' e2 b1 z2
 obtain ⟨b3, u3⟩ := exNum' e3 b2 z3
 obtain ⟨b4, u4⟩ := exNum' e4 b3 z4
 obtain ⟨b5, u5⟩ := exNum' e5 b4 z5
 obtain ⟨_, uq, gq1, gq⟩ := exRows' eq b5 h1
 simp only [stripD, DD.mk.injEq, true_and] at e
 obtain ⟨d0, d1, d2, d3, d4, d5, d6, dn, ds, dc, di, de, dl, dq⟩ := e
 constructor
 ·have hl : ∀ {x y : List (List Fd)}, x.map stripR = y → y.length ≤ 64 → ¬ 64 < x.length := fun h k => by
   have := congrArg List.length h
   rw [List.length_map] at this; omega
  rintro ((((((((h | h | h | h | h | h | h) | h) | h) | h) | h) | h) | h) | h)
  ·exact hl dn gn1 h
  ·exact hl ds gs1 h
  ·exact hl dc gc1 h
  ·exact hl di gi1 h
  ·exact hl de ge1 h
  ·exact hl dl gl1 h
  ·exact hl dq gq1 h
  ·exact nb_of dn gn h
  ·exact nb_of ds gs h
  ·exact nb_of dc gc h
  ·exact nb_of di gi h
  ·exact nb_of de ge h
  ·exact nb_of dl gl h
  ·exact nb_of dq gq h
 ·rw [h2, List.append_nil] at uq
  dsimp only at ua
  have hd : dumpB d = numB d.ix ++ (rowsB d.n ++ (rowsB d.s ++ (rowsB d.c ++ (rowsB d.i ++ (rowsB d.e ++ (rowsB d.l ++ (numB d.l0 ++ (numB d.l1 ++ (numB d.l2 ++ (numB d.l3 ++ (numB d.l4 ++ (numB d.l5 ++ rowsB d.q)))))))))))) := by
   simp only [dumpB, List.nil_append, List.append_assoc]
  rw [hd, d0, d1, d2, d3, d4, d5, d6, ← rowsB_strip d.n, ← rowsB_strip d.s, ← rowsB_strip d.c, ← rowsB_strip d.i, ← rowsB_strip d.e, ← rowsB_strip d.l, ← rowsB_strip d.q, dn, ds, dc, di, de, dl, dq, ← uq, ← u5, ← u4, ← u3, ← u2, ← u1, ← u0, ← ul, ← ue, ← ui, ← uc, ← us, ← un]
  exact ua.symm
theorem getD_err {bs : List Nat} (h : (getD bs).2 ≠ 0) : (getD bs).1 = zD := by
 obtain ⟨g, hg⟩ : ∃ g, getS bs = g := ⟨_, rfl⟩
 have eD : getD bs = if doneS g.2 = 0 then (g.1, 0) else (zD, doneS g.2) := by rw [getD, hg]
 rw [eD] at h ⊢
 by_cases hz : doneS g.2 = 0
 ·rw [if_pos hz] at h; exact absurd rfl h
 ·rw [if_neg hz]
theorem WOps.eqS {T : Tr FnI} {t : EL} {H : HL} {Q : EL → HL → Prop} {os : List AOper} {k : Nat} {g : Option (Nat × Bool)} {x y : AO} {l : List Nat} (hg : wantedL g t = some true) (hx : gl t x = some (.str l)) (hy : gl t y = some (.str l))
  (w : WOps B T os ((k, .bool true) :: t) H Q) : WOps B T (⟨some k, .bin .eql x y, g⟩ :: os) t H Q :=
 WOps.purG hg (fun h => by simp [aopL, hx, hy, aBin, pure1, strEq_self]) w
set_option maxHeartbeats 4000000 in
theorem once_ok {u : AV} {bs : List Nat} (sr : SrcIs B [] u 1 bs.length (cellsOfStr bs)) (hb : byL bs) (hl : bs.length ≤ 140737488355328) : WF B tab (.func 6) [u] [] fun v _ => v = .bool true := by
 refine WF.fn g6 rfl ?_
 refine WC.seq (WC.reg ?_)
 repeat' (first
  | apply WOps.nil | (apply WOps.purG; rfl; (intro _; rfl)))
 refine WC.seq (WC.reg ?_)
 repeat' (first
  | apply WOps.nil | (apply WOps.st; rfl; rfl; (first | exact tk0 | exact tk1 | exact tk2); rfl; (· repeat' (first | rfl | assumption | apply ac1)); rfl) | (apply WOps.alc; rfl; intro _) | (apply WOps.clA; rfl; rfl; exact get12_ok sr hb hl; rintro _ H1 ⟨d, X, rfl, hd, e1, rfl⟩; have ad := dumpC_cell hd) | (apply WOps.purG; rfl; (intro _; rfl)))
 rename_i p3
 have h1 := (hd.left (X := [])).cons (x := (p3, .row (dumpC d)))
 by_cases h0 : (getD bs).2 = 0
 ·obtain ⟨nb, db⟩ := once_get hb h0 e1
  refine WC.seq (WC.seq (WC.reg ?_))
  repeat' (first
   | apply WOps.nil | apply WC.skip | (apply WC.condF; rfl) | (apply WOps.cF; rfl; rfl; rfl; rfl; focus (simp only [cmpP, Int.ofNat_eq_natCast, List.length_cons, List.length_map, List.length_nil, Classical.not_not, not_true_eq_false, not_false_eq_true]; first | done | omega | decide)) | (apply WOps.purG; rfl; (intro _; rfl)))
  refine WC.seq (WC.reg ?_)
  repeat' (first
   | apply WOps.nil | (apply WOps.ldG; rfl; rfl; (first | exact ld0 rfl | exact ld1 rfl | exact ld2 rfl); rfl) | (apply WOps.clA; rfl; rfl; exact put7_ok h1 nb; rintro _ _ ⟨v, h', rfl, o, rfl⟩) | (apply WOps.purG; rfl; (intro _; rfl)))
  rw [db] at o
  repeat' (first
   | apply WOps.nil | apply WC.seq | apply WC.reg | apply WC.ret | (apply WOps.cT; rfl; rfl; rfl; rfl; focus (simp only [cmpP, Int.ofNat_eq_natCast, List.length_cons, List.length_map, List.length_nil, Classical.not_not, not_true_eq_false, not_false_eq_true]; first | done | omega | decide)) | (apply WOps.cvS; rfl; rfl; exact SrcIs.any sr; exact hb) | (apply WOps.cvS; rfl; rfl; exact SrcIs.left (own_src o); exact hb) | (apply WOps.eqS; rfl; rfl; rfl) | (apply WOps.clR; rfl; rfl; exact works10; rintro _ rfl) | (apply WOps.purG; rfl; (intro _; rfl)))
  exact ⟨trivial, [_], ⟨_, _, rfl, rfl, rfl⟩, rfl⟩
 ·have ez := getD_err h0
  rw [ez] at e1
  repeat' (first
   | apply WOps.nil | apply WC.seq | apply WC.reg | apply WC.ret | (apply WC.condT; rfl) | (apply WOps.ldG; rfl; rfl; (first | exact ld0 rfl | exact ld1 rfl | exact ld2 rfl); rfl) | (apply WOps.cT; rfl; rfl; rfl; rfl; focus (simp only [cmpP, Int.ofNat_eq_natCast, List.length_cons, List.length_map, List.length_nil, Classical.not_not, not_true_eq_false, not_false_eq_true]; first | done | omega | decide)) | (apply WOps.clR; rfl; rfl; exact same14_ok h1 (c := zD) zD_at e1; rintro _ rfl) | (apply WOps.clR; rfl; rfl; exact works10; rintro _ rfl) | (apply WOps.purG; rfl; (intro _; rfl)))
  exact ⟨trivial, [_], ⟨_, _, rfl, rfl, rfl⟩, rfl⟩
theorem t33 : tyOf Try.prog 33 = .sl 5 1 := by kernel_rfl
theorem t5' : tyOf Try.prog 5 = .int .u8 := by kernel_rfl
theorem b5 : Try.prog.bytesOf 5 = 1 := by kernel_rfl
theorem m8 : IntKind.u8.min = 0 ∧ IntKind.u8.max = 255 := by decide
theorem list_of' {α : Type} {P : α → Prop} {f : α → List AV} {xs : List (List AV)} (h : ∀ (i : Nat) c, xs[i]? = some c → ∃ a, c = f a ∧ P a) : ∃ l : List α, xs = l.map f ∧ ∀ a, a ∈ l → P a := by
  induction xs with
  | nil => exact ⟨[], rfl, fun a ha => by cases ha⟩
  | cons c xs ih =>
    obtain ⟨l, e, hl⟩ := ih fun i c' h' => h (i + 1) c' (by simpa using h')
    obtain ⟨a, e2, ha⟩ := h 0 c (by simp)
    refine ⟨a :: l, by rw [e, e2]; rfl, fun b hb => ?_⟩
    rcases List.mem_cons.1 hb with h3 | h3
    · rw [h3]; exact ha
    · exact hl b h3
theorem takeN_iff : ∀ {l c : List AV} {n : Nat}, takeN l n = some c → n ≤ l.length ∧ c = l.take n := by
  intro l c n h
  by_cases hn : n ≤ l.length
  · rw [takeN_of hn] at h
    cases h
    exact ⟨hn, rfl⟩
  · exfalso
    have key : ∀ (l : List AV) (n : Nat), ¬ n ≤ l.length → takeN l n = none := by
      intro l
      induction l with
      | nil => intro n hn; cases n with
        | zero => exact absurd (Nat.zero_le _) hn
        | succ n => rfl
      | cons x l ih => intro n hn; cases n with
        | zero => exact absurd (Nat.zero_le _) hn
        | succ n => simp only [takeN, ih n (by simpa using hn)]
    rw [key l n hn] at h
    cases h
theorem src_of {v : AV} {esz : Nat} {xs : List (List AV)} (h : SlIs B [] v esz xs) : ∀ {H : HL}, SrcIs B H v esz xs.length xs.flatten := by
  intro H
  rcases h with ⟨rfl, rfl⟩ | ⟨a, rfl, h⟩
  · exact .inl ⟨rfl, rfl, rfl⟩
  · refine .inr ⟨a, rfl, ?_⟩
    cases xs with
    | nil => exact .inl ⟨rfl, rfl⟩
    | cons x0 xs0 =>
      right
      have hro : a.ro = true := by
        rcases h 0 x0 rfl with ⟨h1, _⟩ | ⟨_, cs, R, tk, _⟩
        · exact h1
        · have := tk.length_eq
          simp at this
      left
      refine ⟨hro, ?_⟩
      have key : ∀ (ys : List (List AV)) (off : Nat), (∀ i c, ys[i]? = some c → takeN ((B a.id).drop (off + i * esz)) esz = some c) → takeN ((B a.id).drop off) (ys.length * esz) = some ys.flatten := by
        intro ys
        induction ys with
        | nil => intro off _; simp [takeN_of]
        | cons y ys ih =>
          intro off hh
          have h0 := takeN_iff (hh 0 y rfl)
          rw [Nat.zero_mul, Nat.add_zero] at h0
          have h1 := takeN_iff (ih (off + esz) fun i c hc => by
            have := hh (i + 1) c (by simpa using hc)
            rw [Nat.succ_mul] at this
            rw [show off + esz + i * esz = off + (i * esz + esz) by omega]
            exact this)
          rw [List.length_drop] at h0 h1
          rw [takeN_of (by rw [List.length_drop, List.length_cons, Nat.succ_mul]; omega), List.length_cons, Nat.succ_mul, Nat.add_comm (ys.length * esz) esz, List.take_add, List.flatten_cons, h1.2, h0.2, List.drop_drop]
      refine key (x0 :: xs0) a.off fun i c hc => ?_
      rcases h i c hc with ⟨_, h2⟩ | ⟨_, cs, R, tk, _⟩
      · exact h2
      · have := tk.length_eq
        simp at this
theorem bytes_of {n : Nat} {c : List AV} (h : Is Try.prog B n 33 c) : ∃ (u : AV) (bs : List Nat), c = [u] ∧ SrcIs B [] u 1 bs.length (cellsOfStr bs) ∧ byL bs ∧ bs.length ≤ 140737488355328 := by
  obtain ⟨m, v, xs, e, sl, l1, l2, y⟩ := h.sliceB t33
  obtain ⟨l, il, ol⟩ := list_of' (α := Nat) (P := fun b => b < 256) (f := byC) (xs := xs) fun i c hc => by
    obtain ⟨k, e, lo, hi⟩ := (y i c hc).int t5'
    rw [m8.1] at lo
    rw [m8.2] at hi
    refine ⟨k.toNat, ?_, by omega⟩
    rw [e, byC, show Int.ofNat k.toNat = k by simp only [Int.ofNat_eq_natCast]; omega]
  subst il
  have hs := src_of sl (H := [])
  rw [List.length_map, bytes_flat] at hs
  rw [List.length_map, b5, Nat.mul_one] at l2
  have : reachBytes = 140737488351232 := rfl
  exact ⟨v, l, e, hs, ol, by omega⟩
theorem dumpOnce_wf (B : Nat → List AV) (args : List AV) (h : ArgIs Try.prog B Try.f6.params.toList args) : WF B tab (.func 6) args [] fun v _ => v = .bool true := by
  rw [show Try.f6.params.toList = [33] from by kernel_rfl] at h
  match args, h with
  | [a], ⟨⟨n, cs, h, ha⟩, _⟩ =>
    rw [show (shapeOf Try.prog 33).1 = false from by kernel_rfl] at ha
    simp only at ha
    obtain ⟨u, bs, e, h1, h2, h3⟩ := bytes_of h
    rw [e] at ha
    cases ha
    exact once_ok h1 h2 h3
end Go.Proofs.Ytdcbglljljfleaa.DU
