/- The logic: heaps in parts. -/
import Derived.Test.YtdcbglljljfleaaAbsN4
set_option linter.unusedSimpArgs false
set_option linter.unusedVariables false
set_option linter.unusedSectionVars false
set_option linter.constructorNameAsVariable false
namespace Go.Proofs.Ytdcbglljljfleaa.Abs
section n5
/-! ### Heaps held against one another by sums -/
theorem sum_perm {a b : HL} (p : a.Perm b) (f : Nat × AObj → Nat) : (a.map f).sum = (b.map f).sum := (p.map f).sum_nat
theorem mem_sum {b : HL} {x : Nat × AObj} : 0 < (b.map fun y => @ite _ (y = x) (Classical.propDecidable _) 1 0).sum → x ∈ b := by
 induction b with
 | nil => intro h; simp at h
 | cons y b ih =>
  intro h
  by_cases e : y = x
  ·subst e; simp
  ·simp only [List.map_cons, if_neg e, List.sum_cons, Nat.zero_add] at h
   exact List.mem_cons_of_mem _ (ih h)
def SubP (A H : HL) : Prop := ∃ G, H.Perm (A ++ G)
theorem subF : ∀ {a b : HL} (h : ∀ f : Nat × AObj → Nat, (a.map f).sum ≤ (b.map f).sum), SubP a b := by
 intro a
 induction a with
 | nil => intro b _; exact ⟨b, List.Perm.refl _⟩
 | cons x a ih =>
  intro b h
  have hx : x ∈ b := by
   refine mem_sum ?_
   have := h fun y => @ite _ (y = x) (Classical.propDecidable _) 1 0
   simp only [List.map_cons, if_true, List.sum_cons] at this
   omega
  obtain ⟨s, t, rfl⟩ := List.append_of_mem hx
  obtain ⟨G, p⟩ := ih (b := s ++ t) fun f => by
   have := h f
   simp only [List.map_cons, List.map_append, List.sum_cons, List.sum_append] at this ⊢
   omega
  exact ⟨G, List.perm_middle.trans (List.Perm.cons _ p)⟩
theorem permF {a b : HL} (h : ∀ f : Nat × AObj → Nat, (a.map f).sum = (b.map f).sum) : a.Perm b := by
 obtain ⟨G, p⟩ := subF (a := b) (b := a) fun f => by rw [h f]; exact Nat.le_refl _
 cases G with
 | nil => simpa using p
 | cons x G =>
  have h1 := sum_perm p fun _ => 1
  have h2 := h fun _ => 1
  simp only [List.map_append, List.sum_append, List.map_cons, List.sum_cons] at h1
  omega
theorem SubP.refl {H : HL} : SubP H H := ⟨[], by simp⟩
theorem SubP.cons {H A : HL} {x : Nat × AObj} (h : SubP A H) : SubP (x :: A) (x :: H) := by
 obtain ⟨G, p⟩ := h
 exact ⟨G, List.Perm.cons _ p⟩
theorem SubP.of {H A : HL} (h : A.Sublist H) : SubP A H := subF fun f => by
 induction h with
 | slnil => simp
 | cons _ _ ih => simp only [List.map_cons, List.sum_cons]; omega
 | cons_cons _ _ ih => simp only [List.map_cons, List.sum_cons]; omega
variable {B : Nat → List AV} {T : Tr FnI}
theorem WF.less {f : AFn} {args : List AV} {H : HL} {P : AV → HL → Prop} (w : WF B T f args H fun v H' => ∃ H3, P v H3 ∧ H3.Sublist H') : WF B T f args H P := fun h F s => by
 obtain ⟨v, h', H', ⟨H3, p, sb⟩, s', e⟩ := w h F s
 exact ⟨v, h', H3, p, s'.sub (sb.append (List.Sublist.refl _)), e⟩
theorem WF.perm {f : AFn} {args : List AV} {H H1 : HL} {P : AV → HL → Prop} (p : H.Perm H1) (w : WF B T f args H1 P) : WF B T f args H P := fun h F s => w h F (s.perm (p.append_right F))
theorem WF.lessP {f : AFn} {args : List AV} {H : HL} {P : AV → HL → Prop} (w : WF B T f args H fun v H' => ∃ H3, P v H3 ∧ SubP H3 H') : WF B T f args H P := fun h F s => by
 obtain ⟨v, h', H', ⟨H3, p, R, pr⟩, s', e⟩ := w h F s
 refine ⟨v, h', H3, p, (s'.perm (pr.append_right F)).sub ?_, e⟩
 rw [List.append_assoc]
 exact (List.Sublist.refl _).append (List.sublist_append_right _ _)
theorem Ld.left {H R : HL} {a : AA} {n : Nat} {l : List AV} (h : Ld B H a n l) : Ld B (H ++ R) a n l := by
 rcases h with h | ⟨h1, cs, R', h2, h3⟩
 ·exact .inl h
 ·exact .inr ⟨h1, cs, R' ++ R, h2.app, h3⟩
theorem Ld.right {H R : HL} {a : AA} {n : Nat} {l : List AV} (h : Ld B R a n l) : Ld B (H ++ R) a n l := by
 induction H with
 | nil => exact h
 | cons p H ih => exact ih.cons
theorem Ld.perm {H R : HL} {a : AA} {n : Nat} {l : List AV} (p : H.Perm R) (h : Ld B R a n l) : Ld B H a n l := by
 rcases h with h | ⟨h1, cs, R', h2, h3⟩
 ·exact .inl h
 ·exact .inr ⟨h1, cs, R', p.trans h2, h3⟩
theorem SlIs.left {H R : HL} {v : AV} {esz : Nat} {xs : List (List AV)} (h : SlIs B H v esz xs) : SlIs B (H ++ R) v esz xs := by
 rcases h with h | ⟨a, h1, h2⟩
 ·exact .inl h
 ·exact .inr ⟨a, h1, fun i c hc => (h2 i c hc).left⟩
theorem SlIs.right {H R : HL} {v : AV} {esz : Nat} {xs : List (List AV)} (h : SlIs B R v esz xs) : SlIs B (H ++ R) v esz xs := by
 rcases h with h | ⟨a, h1, h2⟩
 ·exact .inl h
 ·exact .inr ⟨a, h1, fun i c hc => (h2 i c hc).right⟩
theorem SlIs.perm {H R : HL} {v : AV} {esz : Nat} {xs : List (List AV)} (p : H.Perm R) (h : SlIs B R v esz xs) : SlIs B H v esz xs := by
 rcases h with h | ⟨a, h1, h2⟩
 ·exact .inl h
 ·exact .inr ⟨a, h1, fun i c hc => (h2 i c hc).perm p⟩
theorem SrcIs.left {H R : HL} {u : AV} {esz m : Nat} {xs : List AV} (h : SrcIs B H u esz m xs) : SrcIs B (H ++ R) u esz m xs := by
 rcases h with h | ⟨a, h1, h | h⟩
 ·exact .inl h
 ·exact .inr ⟨a, h1, .inl h⟩
 ·exact .inr ⟨a, h1, .inr h.left⟩
theorem SrcIs.right {H R : HL} {u : AV} {esz m : Nat} {xs : List AV} (h : SrcIs B R u esz m xs) : SrcIs B (H ++ R) u esz m xs := by
 rcases h with h | ⟨a, h1, h | h⟩
 ·exact .inl h
 ·exact .inr ⟨a, h1, .inl h⟩
 ·exact .inr ⟨a, h1, .inr h.right⟩
theorem SrcIs.perm {H R : HL} {u : AV} {esz m : Nat} {xs : List AV} (p : H.Perm R) (h : SrcIs B R u esz m xs) : SrcIs B H u esz m xs := by
 rcases h with h | ⟨a, h1, h | h⟩
 ·exact .inl h
 ·exact .inr ⟨a, h1, .inl h⟩
 ·exact .inr ⟨a, h1, .inr (h.perm p)⟩
theorem SrcIs.cons {H : HL} {q : Nat × AObj} {u : AV} {esz m : Nat} {xs : List AV} (h : SrcIs B H u esz m xs) : SrcIs B (q :: H) u esz m xs := SrcIs.right (H := [q]) h
theorem OwnSl.src {v : AV} {cells : List AV} {n esz : Nat} {hs : HL} (o : OwnSl v cells n esz hs) : SrcIs B hs v esz n cells := by
 rcases o with ⟨rfl, rfl, rfl, rfl⟩ | ⟨id, rfl, rfl, hl⟩
 ·exact .inl ⟨rfl, rfl, rfl⟩
 ·refine .inr ⟨_, rfl, .inr (Ld.own Tk.head ?_)⟩
  rw [List.drop_zero, takeN_of (by omega), List.take_of_length_le (by omega)]
theorem src_one {H R : HL} {id esz : Nat} {c : List AV} (tk : Tk H id (.row c) R) (hc : c.length = esz) : SrcIs B H (.sl ⟨false, id, 0⟩ 1 esz) esz 1 c :=
 .inr ⟨_, rfl, .inr (Ld.own tk (by rw [List.drop_zero, takeN_of (by omega), List.take_of_length_le (by omega)]))⟩
theorem OwnSl.cells {v : AV} {cells : List AV} {n esz : Nat} {h : HL} (o : OwnSl v cells n esz h) : v.cells = [v] := by
 rcases o with ⟨rfl, _⟩ | ⟨id, rfl, _⟩ <;> rfl
theorem WC.heq {nt : Nat} {rdn : Option Nat} {c : AC} {t : EL} {H H' : HL} {Q : AExit → EL → HL → Prop} (e : H = H') (w : WC B T nt rdn c t H' Q) : WC B T nt rdn c t H Q := e ▸ w
theorem WOps.heq {t : EL} {H H' : HL} {Q : EL → HL → Prop} {os : List AOper} (e : H = H') (w : WOps B T os t H' Q) : WOps B T os t H Q := e ▸ w
theorem WD.heq {t : EL} {H H' : HL} {HH : List (Nat × HL)} {Q : EL → HL → Prop} {os : List DOper} (e : H = H') (w : WD B T os t H' HH Q) : WD B T os t H HH Q := e ▸ w
theorem WC.lessP {nt : Nat} {rdn : Option Nat} {c : AC} {t : EL} {H H1 : HL} {Q : AExit → EL → HL → Prop} (p : SubP H1 H) (w : WC B T nt rdn c t H1 Q) : WC B T nt rdn c t H Q :=
 WC.perm p.choose_spec (WC.sub (List.sublist_append_left _ _) w)
theorem WL.lessP {nt : Nat} {rdn : Option Nat} {c : AC} {t : EL} {H H1 : HL} {Q : AExit → EL → HL → Prop} (p : SubP H1 H) (w : WL B T nt rdn c t H1 Q) : WL B T nt rdn c t H Q :=
 WL.perm p.choose_spec (WL.sub (List.sublist_append_left _ _) w)
theorem OwnSl.n0 {v : AV} {cells : List AV} {n esz : Nat} {h : HL} (o : OwnSl v cells n esz h) : cells.length = n * esz := by
 rcases o with ⟨_, rfl, rfl, _⟩ | ⟨id, _, _, h⟩
 ·simp
 ·exact h
/-! ### Short names, for the steps that are printed -/
theorem tk0 {H : HL} {id : Nat} {o : AObj} : Tk ((id, o) :: H) id o H := Tk.head
theorem tk1 {H : HL} {id : Nat} {o : AObj} {p : Nat × AObj} : Tk (p :: (id, o) :: H) id o (p :: H) := Tk.tail Tk.head
theorem tk2 {H : HL} {id : Nat} {o : AObj} {p q : Nat × AObj} : Tk (p :: q :: (id, o) :: H) id o (p :: q :: H) := Tk.tail (Tk.tail Tk.head)
theorem ld0 {H : HL} {id off n : Nat} {l cs : List AV} (e : takeN (cs.drop off) n = some l) : Ld B ((id, .row cs) :: H) ⟨false, id, off⟩ n l := Ld.own Tk.head e
theorem ld1 {H : HL} {id off n : Nat} {l cs : List AV} {p : Nat × AObj} (e : takeN (cs.drop off) n = some l) : Ld B (p :: (id, .row cs) :: H) ⟨false, id, off⟩ n l := (ld0 e).cons
theorem ld2 {H : HL} {id off n : Nat} {l cs : List AV} {p q : Nat × AObj} (e : takeN (cs.drop off) n = some l) : Ld B (p :: q :: (id, .row cs) :: H) ⟨false, id, off⟩ n l := (ld1 e).cons
theorem rd0 {t : EL} {H : HL} {id off n : Nat} {l cs : List AV} {agg : Bool} {x : AO} {v : AV} (hx : gl t x = some (.ptr ⟨false, id, off⟩)) (e : takeN (cs.drop off) n = some l) (hv : one agg l = some v) : Rd B (.load agg n x) t ((id, .row cs) :: H) v := rd_ld hx (ld0 e) hv
theorem rd1 {t : EL} {H : HL} {id off n : Nat} {l cs : List AV} {agg : Bool} {x : AO} {v : AV} {p : Nat × AObj} (hx : gl t x = some (.ptr ⟨false, id, off⟩)) (e : takeN (cs.drop off) n = some l) (hv : one agg l = some v) : Rd B (.load agg n x) t (p :: (id, .row cs) :: H) v := rd_ld hx (ld1 e) hv
theorem rd2 {t : EL} {H : HL} {id off n : Nat} {l cs : List AV} {agg : Bool} {x : AO} {v : AV} {p q : Nat × AObj} (hx : gl t x = some (.ptr ⟨false, id, off⟩)) (e : takeN (cs.drop off) n = some l) (hv : one agg l = some v) : Rd B (.load agg n x) t (p :: q :: (id, .row cs) :: H) v := rd_ld hx (ld2 e) hv
theorem ac0 : allCell [] = true := rfl
theorem ac1 {v : AV} {r : List AV} (h : v.isCell = true) (k : allCell r = true) : allCell (v :: r) = true := allCell_cons h k
end n5
end Go.Proofs.Ytdcbglljljfleaa.Abs
