/- What the functions do, shown by the logic. -/
import Derived.Test.YtgpnpcahcegadaaGreatRoB
set_option linter.unusedSimpArgs false
set_option linter.unusedVariables false
set_option linter.unusedSectionVars false
set_option maxRecDepth 20000
namespace Go.Proofs.YtgpnpcahcegadaaGreat.RO
open Go.Proofs.YtgpnpcahcegadaaGreat.Abs
variable {B : Nat → List AV}
theorem each67_ok {H : HL} {a most : Nat} {v : AV} {es : List (TE SV)} (h0 : Ld B H ⟨false, a, 0⟩ 1 [.int .i64 (.ofNat most)]) (hm : 1 ≤ most) (h1 : Ld B H ⟨false, a, 1⟩ 1 [v]) (o : SrcIs B H v 10 es.length (es.map rowS).flatten) (hn : es.length ≤ 1000) :
  WF B tab (.func 67) [.ptr ⟨false, a, 0⟩] H fun r H' => ∃ d c v' h', r = .fn (.func 95) [] [.ptr ⟨false, d, 0⟩] ∧ OwnSl v' (es.map rowS).flatten es.length 10 h' ∧ H' = (d, .row [.fn (.func 107) [] [.ptr ⟨false, c, 0⟩]]) :: (c, .row [v']) :: (h' ++ H) := by
 refine WF.fn g67 rfl ?_
 repeat' (first
  | apply zC | apply zE | apply zD | apply zL | (apply zP; rfl; rfl; (first | exact tk0 | exact tk1 | exact tk2); rfl; (· repeat' (first | rfl | assumption | apply ac1)); rfl) | (apply yE; rfl; intro _) | (apply WOps.clA; rfl; rfl; exact each94_ok h0 hm h1 o hn; rintro _ _ ⟨c, v', h', rfl, o', rfl⟩) | (apply zB; rfl; (intro _; rfl)))
 exact ⟨trivial, [_], ⟨_, [], rfl, rfl, rfl⟩, _, _, v', h', rfl, o', rfl⟩
theorem iter95_ok {l c d : Nat} {v : AV} {es : List (TE SV)} {H0 : HL} (hn : es.length ≤ 1000) (I : Nat → HL → Prop) (h0 : I 0 H0)
  (hd : ∀ i H, I i H → Ld B H ⟨false, d, 0⟩ 1 [.fn (.func 107) [] [.ptr ⟨false, c, 0⟩]])
  (hc : ∀ i H, I i H → Ld B H ⟨false, c, 0⟩ 1 [v] ∧ SlIs B H v 10 (es.map rowS))
  (hy : ∀ i H (h : i < es.length), I i H → WF B tab (.yield l) [.str es[i].key, .agg (valS es[i].v)] H fun r H2 => r = .bool true ∧ ∃ H3, I (i + 1) H3 ∧ SubP H3 H2) :
  WF B tab (.func 95) [.fn (.yield l) [] [], .ptr ⟨false, d, 0⟩] H0 fun _ H' => ∃ H3, I es.length H3 ∧ H3.Sublist H' := by
 have hd0 := hd 0 H0 h0
 refine WF.fn g95 rfl ?_
 repeat' (first
  | apply zC | apply zE | apply zD | apply zK | (apply yC; rfl; rfl; (· repeat' (first | rfl | assumption | apply ac1)); intro _) | (apply zF; rfl; rfl; exact hd0.cons; rfl))
 rename_i p2
 refine range107S (v := v) (es := es) (R0 := (p2, .row [.fn (.yield l) [] []]) :: H0) rfl hn (fun i R => ∃ R', I i R' ∧ R = (p2, .row [.fn (.yield l) [] []]) :: R') (List.Perm.refl _) ⟨H0, h0, rfl⟩ ?_ ?_ ?_
 ·rintro i _ ⟨R', hI, rfl⟩
  exact ⟨(hc i R' hI).1.cons, (hc i R' hI).2.cons⟩
 ·rintro l2 i _ hi ⟨R', hI, rfl⟩
  refine ⟨_, rfl, ?_⟩
  intro o
  have htg := es[i].v.tg.c
  repeat' (first
   | apply zC | apply zD | (apply zP; rfl; rfl; (first | exact tk0 | exact tk1 | exact tk2); rfl; (· repeat' (first | rfl | assumption | apply ac1)); rfl) | (apply yE; rfl; intro _))
  rename_i p3
  refine ⟨rfl, _, Tk.tail zG, ?_⟩
  intro o2
  have hw := WF.perm (List.perm_append_comm (l₁ := [(l2, o2), (p3, .row (rowS es[i])), (p2, .row [.fn (.yield l) [] []])]) (l₂ := R')) (WF.frame (R := [(l2, o2), (p3, .row (rowS es[i])), (p2, .row [.fn (.yield l) [] []])]) (hy i R' hi hI))
  repeat' (first
   | apply zC | apply zE | apply zD | apply zJ | (apply zO; rfl) | apply zK | (apply zF; rfl; rfl; (first | exact ld0 rfl | exact ld1 rfl | exact ld2 rfl); rfl) | (apply WOps.cyA; rfl; rfl; rfl; exact hw; rintro _ H2 ⟨H4, ⟨rfl, H3, hI3, hs3⟩, rfl⟩) | (apply zB; rfl; (intro _; rfl)))
  obtain ⟨G, pG⟩ := hs3
  refine ⟨rfl, (p3, .row (rowS es[i])) :: (p2, .row [.fn (.yield l) [] []]) :: H4, (p2, .row [.fn (.yield l) [] []]) :: H3, ?_, ⟨H3, hI3, rfl⟩, ?_⟩
  ·exact permF (by intro f; simp only [AV.cells, pm] <;> omega)
  ·refine ⟨(p3, .row (rowS es[i])) :: G, ?_⟩
   refine permF ?_
   intro f
   have := sum_perm pG f
   simp only [List.map_append, List.sum_append, List.map_cons, List.sum_cons, List.cons_append] at this ⊢
   omega
 ·rintro _ ⟨R', hI, rfl⟩
  exact ⟨trivial, [], rfl, R', hI, List.sublist_cons_self _ _⟩
theorem range95S {nt : Nat} {f : AO} {ps : List Nat} {asg body : AC} {c d : Nat} {v : AV} {es : List (TE SV)} {t : EL} {H R0 : HL} {Q : AExit → EL → HL → Prop} (hf : gl t f = some (.fn (.func 95) [] [.ptr ⟨false, d, 0⟩])) (hn : es.length ≤ 1000) (S : Nat → HL → Prop) (p0 : H.Perm R0) (h0 : S 0 R0)
  (hd : ∀ i R, S i R → Ld B R ⟨false, d, 0⟩ 1 [.fn (.func 107) [] [.ptr ⟨false, c, 0⟩]])
  (hc : ∀ i R, S i R → Ld B R ⟨false, c, 0⟩ 1 [v] ∧ SlIs B R v 10 (es.map rowS))
  (hy : ∀ (l i : Nat) (R : HL) (hi : i < es.length), S i R → ∃ t1, setPsL ps [.str es[i].key, .agg (valS es[i].v)] nt t = some t1 ∧ ∀ o, WC B tab nt (some l) asg t1 ((l, o) :: R) fun ex t2 H2 => ex = .normal ∧ ∃ R2, Tk H2 l o R2 ∧
   ∀ o2, WC B tab nt (some l) body t2 ((l, o2) :: R2) fun ex3 t3 H3 => ex3 = .normal ∧ ∃ R3 R4, Tk H3 l o2 R3 ∧ S (i + 1) R4 ∧ SubP R4 R3)
  (he : ∀ R, S es.length R → Q .normal t R) : WC B tab nt none (.rangef f ps asg body) t H Q := by
 refine WC.perm p0 (WC.rangef hf ?_)
 intro l env dd le
 refine WF.mono (Q := fun _ H => ∃ R, S es.length R ∧ H = (l, .loop .ready none env nt ps asg body dd) :: R) ?_ ?_
 ·refine WF.less ?_
  refine WF.mono (iter95_ok (c := c) (v := v) (es := es) hn (fun i H => ∃ R, S i R ∧ H = (l, .loop .ready none env nt ps asg body dd) :: R) ⟨R0, h0, rfl⟩ ?_ ?_ ?_) ?_
  ·rintro i _ ⟨R, hs, rfl⟩
   exact (hd i R hs).cons
  ·rintro i _ ⟨R, hs, rfl⟩
   obtain ⟨h1, h2⟩ := hc i R hs
   exact ⟨h1.cons, h2.cons⟩
  ·rintro i _ hi ⟨R, hs, rfl⟩
   obtain ⟨t1, ht1, w⟩ := hy l i R hi hs
   refine WF.yield le ht1 ((w _).mono ?_)
   rintro ex t2 H2 ⟨rfl, R2, k2, w2⟩
   refine ⟨rfl, R2, k2, (w2 _).mono ?_⟩
   rintro ex3 t3 H3 ⟨rfl, R3, R4, k3, s4, p4⟩
   refine ⟨R3, k3, rfl, ?_⟩
   exact ⟨_, ⟨R4, s4, rfl⟩, p4.cons⟩
  ·rintro _ _ ⟨H3, ⟨R, hs, rfl⟩, sb⟩
   exact ⟨_, ⟨R, hs, rfl⟩, sb⟩
 ·rintro _ _ ⟨R, hs, rfl⟩
  exact ⟨.ready, none, _, zG, by simp, he R hs⟩
theorem each97_ok {H : HL} {a most : Nat} {v : AV} {es : List (TE CV)} (h0 : Ld B H ⟨false, a, 0⟩ 1 [.int .i64 (.ofNat most)]) (hm : 1 ≤ most) (h1 : Ld B H ⟨false, a, 1⟩ 1 [v]) (o : SrcIs B H v 10 es.length (es.map rowC).flatten) (hn : es.length ≤ 1000) :
  WF B tab (.func 97) [.ptr ⟨false, a, 0⟩] H fun r H' => ∃ d c v' h', r = .fn (.func 110) [] [.ptr ⟨false, d, 0⟩] ∧ OwnSl v' (es.map rowC).flatten es.length 10 h' ∧ H' = (d, .row [.fn (.func 113) [] [.ptr ⟨false, c, 0⟩]]) :: (c, .row [v']) :: (h' ++ H) := by
 refine WF.fn g97 rfl ?_
 repeat' (first
  | apply zC | apply zE | apply zD | apply zL | (apply zP; rfl; rfl; (first | exact tk0 | exact tk1 | exact tk2); rfl; (· repeat' (first | rfl | assumption | apply ac1)); rfl) | (apply yE; rfl; intro _) | (apply WOps.clA; rfl; rfl; exact each109_ok h0 hm h1 o hn; rintro _ _ ⟨c, v', h', rfl, o', rfl⟩) | (apply zB; rfl; (intro _; rfl)))
 exact ⟨trivial, [_], ⟨_, [], rfl, rfl, rfl⟩, _, _, v', h', rfl, o', rfl⟩
theorem iter110_ok {l c d : Nat} {v : AV} {es : List (TE CV)} {H0 : HL} (hn : es.length ≤ 1000) (I : Nat → HL → Prop) (h0 : I 0 H0)
  (hd : ∀ i H, I i H → Ld B H ⟨false, d, 0⟩ 1 [.fn (.func 113) [] [.ptr ⟨false, c, 0⟩]])
  (hc : ∀ i H, I i H → Ld B H ⟨false, c, 0⟩ 1 [v] ∧ SlIs B H v 10 (es.map rowC))
  (hy : ∀ i H (h : i < es.length), I i H → WF B tab (.yield l) [.str es[i].key, .agg (valC es[i].v)] H fun r H2 => r = .bool true ∧ ∃ H3, I (i + 1) H3 ∧ SubP H3 H2) :
  WF B tab (.func 110) [.fn (.yield l) [] [], .ptr ⟨false, d, 0⟩] H0 fun _ H' => ∃ H3, I es.length H3 ∧ H3.Sublist H' := by
 have hd0 := hd 0 H0 h0
 refine WF.fn g110 rfl ?_
 repeat' (first
  | apply zC | apply zE | apply zD | apply zK | (apply yC; rfl; rfl; (· repeat' (first | rfl | assumption | apply ac1)); intro _) | (apply zF; rfl; rfl; exact hd0.cons; rfl))
 rename_i p2
 refine range113C (v := v) (es := es) (R0 := (p2, .row [.fn (.yield l) [] []]) :: H0) rfl hn (fun i R => ∃ R', I i R' ∧ R = (p2, .row [.fn (.yield l) [] []]) :: R') (List.Perm.refl _) ⟨H0, h0, rfl⟩ ?_ ?_ ?_
 ·rintro i _ ⟨R', hI, rfl⟩
  exact ⟨(hc i R' hI).1.cons, (hc i R' hI).2.cons⟩
 ·rintro l2 i _ hi ⟨R', hI, rfl⟩
  refine ⟨_, rfl, ?_⟩
  intro o
  
  repeat' (first
   | apply zC | apply zD | (apply zP; rfl; rfl; (first | exact tk0 | exact tk1 | exact tk2); rfl; (· repeat' (first | rfl | assumption | apply ac1)); rfl) | (apply yE; rfl; intro _))
  rename_i p3
  refine ⟨rfl, _, Tk.tail zG, ?_⟩
  intro o2
  have hw := WF.perm (List.perm_append_comm (l₁ := [(l2, o2), (p3, .row (rowC es[i])), (p2, .row [.fn (.yield l) [] []])]) (l₂ := R')) (WF.frame (R := [(l2, o2), (p3, .row (rowC es[i])), (p2, .row [.fn (.yield l) [] []])]) (hy i R' hi hI))
  repeat' (first
   | apply zC | apply zE | apply zD | apply zJ | (apply zO; rfl) | apply zK | (apply zF; rfl; rfl; (first | exact ld0 rfl | exact ld1 rfl | exact ld2 rfl); rfl) | (apply WOps.cyA; rfl; rfl; rfl; exact hw; rintro _ H2 ⟨H4, ⟨rfl, H3, hI3, hs3⟩, rfl⟩) | (apply zB; rfl; (intro _; rfl)))
  obtain ⟨G, pG⟩ := hs3
  refine ⟨rfl, (p3, .row (rowC es[i])) :: (p2, .row [.fn (.yield l) [] []]) :: H4, (p2, .row [.fn (.yield l) [] []]) :: H3, ?_, ⟨H3, hI3, rfl⟩, ?_⟩
  ·exact permF (by intro f; simp only [AV.cells, pm] <;> omega)
  ·refine ⟨(p3, .row (rowC es[i])) :: G, ?_⟩
   refine permF ?_
   intro f
   have := sum_perm pG f
   simp only [List.map_append, List.sum_append, List.map_cons, List.sum_cons, List.cons_append] at this ⊢
   omega
 ·rintro _ ⟨R', hI, rfl⟩
  exact ⟨trivial, [], rfl, R', hI, List.sublist_cons_self _ _⟩
theorem range110C {nt : Nat} {f : AO} {ps : List Nat} {asg body : AC} {c d : Nat} {v : AV} {es : List (TE CV)} {t : EL} {H R0 : HL} {Q : AExit → EL → HL → Prop} (hf : gl t f = some (.fn (.func 110) [] [.ptr ⟨false, d, 0⟩])) (hn : es.length ≤ 1000) (S : Nat → HL → Prop) (p0 : H.Perm R0) (h0 : S 0 R0)
  (hd : ∀ i R, S i R → Ld B R ⟨false, d, 0⟩ 1 [.fn (.func 113) [] [.ptr ⟨false, c, 0⟩]])
  (hc : ∀ i R, S i R → Ld B R ⟨false, c, 0⟩ 1 [v] ∧ SlIs B R v 10 (es.map rowC))
  (hy : ∀ (l i : Nat) (R : HL) (hi : i < es.length), S i R → ∃ t1, setPsL ps [.str es[i].key, .agg (valC es[i].v)] nt t = some t1 ∧ ∀ o, WC B tab nt (some l) asg t1 ((l, o) :: R) fun ex t2 H2 => ex = .normal ∧ ∃ R2, Tk H2 l o R2 ∧
   ∀ o2, WC B tab nt (some l) body t2 ((l, o2) :: R2) fun ex3 t3 H3 => ex3 = .normal ∧ ∃ R3 R4, Tk H3 l o2 R3 ∧ S (i + 1) R4 ∧ SubP R4 R3)
  (he : ∀ R, S es.length R → Q .normal t R) : WC B tab nt none (.rangef f ps asg body) t H Q := by
 refine WC.perm p0 (WC.rangef hf ?_)
 intro l env dd le
 refine WF.mono (Q := fun _ H => ∃ R, S es.length R ∧ H = (l, .loop .ready none env nt ps asg body dd) :: R) ?_ ?_
 ·refine WF.less ?_
  refine WF.mono (iter110_ok (c := c) (v := v) (es := es) hn (fun i H => ∃ R, S i R ∧ H = (l, .loop .ready none env nt ps asg body dd) :: R) ⟨R0, h0, rfl⟩ ?_ ?_ ?_) ?_
  ·rintro i _ ⟨R, hs, rfl⟩
   exact (hd i R hs).cons
  ·rintro i _ ⟨R, hs, rfl⟩
   obtain ⟨h1, h2⟩ := hc i R hs
   exact ⟨h1.cons, h2.cons⟩
  ·rintro i _ hi ⟨R, hs, rfl⟩
   obtain ⟨t1, ht1, w⟩ := hy l i R hi hs
   refine WF.yield le ht1 ((w _).mono ?_)
   rintro ex t2 H2 ⟨rfl, R2, k2, w2⟩
   refine ⟨rfl, R2, k2, (w2 _).mono ?_⟩
   rintro ex3 t3 H3 ⟨rfl, R3, R4, k3, s4, p4⟩
   refine ⟨R3, k3, rfl, ?_⟩
   exact ⟨_, ⟨R4, s4, rfl⟩, p4.cons⟩
  ·rintro _ _ ⟨H3, ⟨R, hs, rfl⟩, sb⟩
   exact ⟨_, ⟨R, hs, rfl⟩, sb⟩
 ·rintro _ _ ⟨R, hs, rfl⟩
  exact ⟨.ready, none, _, zG, by simp, he R hs⟩
section cut
variable {V W : Type}
theorem drop_is {es : List (TE V)} {key : List Nat} : dropE es key = es.filter fun e => decide (¬ e.key = key) := by
 induction es with
 | nil => rfl
 | cons x r ih =>
  rw [List.filter_cons]
  simp only [dropE]
  by_cases h : x.key = key
  ·rw [if_pos h, if_neg (by simp [h]), ih]
  ·rw [if_neg h, if_pos (by simp [h]), ih]
theorem rise_pw {es : List (TE V)} : Rise es ↔ es.Pairwise fun a b => strLess a.key b.key = true := by
 induction es with
 | nil => exact ⟨fun _ => .nil, fun _ => .nil⟩
 | cons x r ih =>
  rw [List.pairwise_cons, ← ih]
  constructor
  ·intro h
   cases h with
   | cons h k => exact ⟨h, k⟩
  ·rintro ⟨h, k⟩
   exact .cons h k
def cutE (p : V → Bool) (es : List (TE V)) : List (TE V) := es.filter fun e => !p e.v
def midE (p : V → Bool) (es : List (TE V)) (i : Nat) : List (TE V) := cutE p (es.take i) ++ es.drop i
def lastX (p : V → Bool) (es : List (TE V)) (l ix : Int) : Int := if es.any (fun e => p e.v) then maxI l ix else l
theorem cut_mp {f : V → W} {p : W → Bool} {es : List (TE V)} : (cutE (fun v => p (f v)) es).map (TE.mp f) = cutE p (es.map (TE.mp f)) := by
 unfold cutE
 rw [List.filter_map]; rfl
theorem cut_len {p : V → Bool} {es : List (TE V)} : (cutE p es).length ≤ es.length := List.length_filter_le _ _
theorem mid_zero {p : V → Bool} {es : List (TE V)} : midE p es 0 = es := by simp [midE, cutE]
theorem mid_end {p : V → Bool} {es : List (TE V)} : midE p es es.length = cutE p es := by simp [midE]
theorem mid_sub {p : V → Bool} {es : List (TE V)} {i : Nat} : (midE p es i).Sublist es := by
 unfold midE cutE
 conv => rhs; rw [← List.take_append_drop i es]
 exact List.Sublist.append List.filter_sublist (List.Sublist.refl _)
theorem mid_keep {p : V → Bool} {es : List (TE V)} {i : Nat} (h : i < es.length) (hp : p es[i].v = false) : midE p es (i + 1) = midE p es i := by
 unfold midE cutE
 rw [List.take_succ_eq_append_getElem h, List.filter_append, List.drop_eq_getElem_cons h]
 simp [List.filter_cons, hp]
theorem mid_hit {p : V → Bool} {es : List (TE V)} {i : Nat} (so : Rise es) (h : i < es.length) (hp : p es[i].v = true) : dropE (midE p es i) es[i].key = midE p es (i + 1) ∧ findE (midE p es i) es[i].key ≠ none := by
 have e : es = es.take i ++ es[i] :: es.drop (i + 1) := by rw [← List.drop_eq_getElem_cons h, List.take_append_drop]
 have pw := rise_pw.1 so
 rw [e, List.pairwise_append, List.pairwise_cons] at pw
 obtain ⟨p1, ⟨p2, p3⟩, p4⟩ := pw
 have e1 : midE p es (i + 1) = cutE p (es.take i) ++ es.drop (i + 1) := by
  unfold midE cutE
  rw [List.take_succ_eq_append_getElem h, List.filter_append]
  simp [List.filter_cons, hp]
 have e2 : midE p es i = cutE p (es.take i) ++ es[i] :: es.drop (i + 1) := by
  unfold midE
  rw [List.drop_eq_getElem_cons h]
 constructor
 ·rw [e1, e2, drop_is, List.filter_append, List.filter_cons, if_neg (by simp)]
  congr 1
  ·rw [List.filter_eq_self]
   intro a ha
   have := less_ne (p4 a (List.mem_filter.1 ha).1 es[i] List.mem_cons_self)
   simp [this]
  ·rw [List.filter_eq_self]
   intro a ha
   have := less_ne (p2 a ha)
   simp [Ne.symm this]
 ·intro hn
  rw [e2] at hn
  have : ∀ {xs : List (TE V)} {x : TE V}, x ∈ xs → findE xs x.key ≠ none := by
   intro xs x
   induction xs with
   | nil => intro h; cases h
   | cons y r ih =>
    intro h
    simp only [findE]
    split
    ·simp
    ·rename_i hk
     rcases List.mem_cons.1 h with rfl | h
     ·exact absurd rfl hk
     ·exact ih h
  exact this (List.mem_append_right _ List.mem_cons_self) hn
theorem maxI_idem {a b : Int} : maxI (maxI a b) b = maxI a b := by
 unfold maxI
 by_cases h : b > a
 ·simp only [if_pos h, if_neg (Int.lt_irrefl b)]
 ·simp only [if_neg h]
theorem lastX_hit {p : V → Bool} {es : List (TE V)} {i : Nat} {l ix : Int} (h : i < es.length) (hp : p es[i].v = true) : lastX p (es.take (i + 1)) l ix = maxI (lastX p (es.take i) l ix) ix := by
 unfold lastX
 rw [List.take_succ_eq_append_getElem h, List.any_append]
 simp only [List.any_cons, hp, List.any_nil, Bool.or_false, Bool.or_true, if_true]
 split
 ·exact maxI_idem.symm
 ·rfl
theorem lastX_keep {p : V → Bool} {es : List (TE V)} {i : Nat} {l ix : Int} (h : i < es.length) (hp : p es[i].v = false) : lastX p (es.take (i + 1)) l ix = lastX p (es.take i) l ix := by
 unfold lastX
 rw [List.take_succ_eq_append_getElem h, List.any_append]
 simp only [List.any_cons, hp, List.any_nil, Bool.or_false]
end cut
def RosC (H : HL) (rp a1 a2 a3 M : Nat) (s : RS) (xs : List (TE SV)) (R : HL) : Prop :=
 ∃ (xn : List (TE NV)) (xc : List (TE CV)) (v1 v2 v3 : AV) (h1 h2 h3 : HL), xn.map (TE.mp coN) = s.ns ∧ xs.map (TE.mp coS) = s.ss ∧ xc.map (TE.mp coC) = s.cs ∧
  OwnSl v1 (xn.map rowN).flatten xn.length 7 h1 ∧ OwnSl v2 (xs.map rowS).flatten xs.length 10 h2 ∧ OwnSl v3 (xc.map rowC).flatten xc.length 10 h3 ∧
  H.Perm ((a1, .row (tblC M v1 s.l1)) :: (a2, .row (tblC M v2 s.l2)) :: (a3, .row (tblC M v3 s.l3)) :: (rp, .row (rosC a1 a2 a3)) :: (h1 ++ (h2 ++ (h3 ++ R))))
theorem RosC.permL {H H' R : HL} {rp a1 a2 a3 M : Nat} {s : RS} {xs : List (TE SV)} (h : RosC H rp a1 a2 a3 M s xs R) (p : H'.Perm H) : RosC H' rp a1 a2 a3 M s xs R := by
 obtain ⟨xn, xc, v1, v2, v3, h1, h2, h3, e1, e2, e3, o1, o2, o3, q⟩ := h
 exact ⟨xn, xc, v1, v2, v3, h1, h2, h3, e1, e2, e3, o1, o2, o3, p.trans q⟩
theorem RosC.permR {H R R' : HL} {rp a1 a2 a3 M : Nat} {s : RS} {xs : List (TE SV)} (h : RosC H rp a1 a2 a3 M s xs R) (p : R.Perm R') : RosC H rp a1 a2 a3 M s xs R' := by
 obtain ⟨xn, xc, v1, v2, v3, h1, h2, h3, e1, e2, e3, o1, o2, o3, q⟩ := h
 refine ⟨xn, xc, v1, v2, v3, h1, h2, h3, e1, e2, e3, o1, o2, o3, q.trans ?_⟩
 exact ((((List.Perm.append_left _ p).append_left _).append_left _).cons _ |>.cons _ |>.cons _ |>.cons _)
theorem RosC.add {H R : HL} {rp a1 a2 a3 M : Nat} {s : RS} {xs : List (TE SV)} (h : RosC H rp a1 a2 a3 M s xs R) (X : HL) : RosC (X ++ H) rp a1 a2 a3 M s xs (X ++ R) := by
 obtain ⟨xn, xc, v1, v2, v3, h1, h2, h3, e1, e2, e3, o1, o2, o3, q⟩ := h
 refine ⟨xn, xc, v1, v2, v3, h1, h2, h3, e1, e2, e3, o1, o2, o3, (q.append_left X).trans ?_⟩
 exact permF (by intro f; simp only [pm] <;> omega)
theorem RosC.cons {H R : HL} {rp a1 a2 a3 M : Nat} {s : RS} {xs : List (TE SV)} {x : Nat × AObj} (h : RosC H rp a1 a2 a3 M s xs R) : RosC (x :: H) rp a1 a2 a3 M s xs (x :: R) := h.add [x]
theorem RosC.less {H R R1 : HL} {rp a1 a2 a3 M : Nat} {s : RS} {xs : List (TE SV)} (h : RosC H rp a1 a2 a3 M s xs R) (p : SubP R1 R) : ∃ H3, RosC H3 rp a1 a2 a3 M s xs R1 ∧ SubP H3 H := by
 obtain ⟨xn, xc, v1, v2, v3, h1, h2, h3, e1, e2, e3, o1, o2, o3, q⟩ := h
 obtain ⟨X, pX⟩ := p
 refine ⟨_, ⟨xn, xc, v1, v2, v3, h1, h2, h3, e1, e2, e3, o1, o2, o3, List.Perm.refl _⟩, X, q.trans ?_⟩
 have := sum_perm pX
 refine permF ?_
 intro f
 have := sum_perm pX f
 simp only [List.cons_append, List.map_cons, List.map_append, List.sum_cons, List.sum_append] at this ⊢
 omega
theorem RosC.ld {H R : HL} {rp a1 a2 a3 M : Nat} {s : RS} {xs : List (TE SV)} {b : AA} {n : Nat} {l : List AV} (h : RosC H rp a1 a2 a3 M s xs R) (k : Ld B R b n l) : Ld B H b n l := by
 obtain ⟨xn, xc, v1, v2, v3, h1, h2, h3, e1, e2, e3, o1, o2, o3, q⟩ := h
 exact Ld.perm q k.right.right.right.cons.cons.cons.cons
theorem RosC.sl {H R : HL} {rp a1 a2 a3 M : Nat} {s : RS} {xs : List (TE SV)} {w : AV} {n : Nat} {zs : List (List AV)} (h : RosC H rp a1 a2 a3 M s xs R) (k : SlIs B R w n zs) : SlIs B H w n zs := by
 obtain ⟨xn, xc, v1, v2, v3, h1, h2, h3, e1, e2, e3, o1, o2, o3, q⟩ := h
 exact SlIs.perm q (SlIs.cons (SlIs.cons (SlIs.cons (SlIs.cons (SlIs.right (SlIs.right (SlIs.right k)))))))
theorem RosC.row {H R : HL} {rp a1 a2 a3 M : Nat} {s : RS} {xs : List (TE SV)} (h : RosC H rp a1 a2 a3 M s xs R) : Ld B H ⟨false, rp, 0⟩ 3 (rosC a1 a2 a3) := by
 obtain ⟨xn, xc, v1, v2, v3, h1, h2, h3, e1, e2, e3, o1, o2, o3, q⟩ := h
 exact Ld.perm q (Ld.own (Tk.tail (Tk.tail (Tk.tail zG))) rfl)
theorem RosC.r1 {H R : HL} {rp a1 a2 a3 M : Nat} {s : RS} {xs : List (TE SV)} (h : RosC H rp a1 a2 a3 M s xs R) : Ld B H ⟨false, rp, 0⟩ 1 [.ptr ⟨false, a1, 0⟩] := h.row.part 0 1 (by omega)
theorem RosC.r2 {H R : HL} {rp a1 a2 a3 M : Nat} {s : RS} {xs : List (TE SV)} (h : RosC H rp a1 a2 a3 M s xs R) : Ld B H ⟨false, rp, 1⟩ 1 [.ptr ⟨false, a2, 0⟩] := h.row.part 1 1 (by omega)
theorem RosC.r3 {H R : HL} {rp a1 a2 a3 M : Nat} {s : RS} {xs : List (TE SV)} (h : RosC H rp a1 a2 a3 M s xs R) : Ld B H ⟨false, rp, 2⟩ 1 [.ptr ⟨false, a3, 0⟩] := h.row.part 2 1 (by omega)
theorem RosC.n {H R : HL} {rp a1 a2 a3 M : Nat} {s : RS} {xs : List (TE SV)} (h : RosC H rp a1 a2 a3 M s xs R) : ∃ (xn : List (TE NV)) (R1 : HL), xn.map (TE.mp coN) = s.ns ∧ TbN H a1 M xn s.l1 R1 ∧
  ∀ H' X xn' l', TbN H' a1 M xn' l' (X ++ R1) → RosC H' rp a1 a2 a3 M { s with ns := xn'.map (TE.mp coN), l1 := l' } xs (X ++ R) := by
 obtain ⟨xn, xc, v1, v2, v3, h1, h2, h3, e1, e2, e3, o1, o2, o3, q⟩ := h
 refine ⟨xn, (a2, .row (tblC M v2 s.l2)) :: (a3, .row (tblC M v3 s.l3)) :: (rp, .row (rosC a1 a2 a3)) :: (h2 ++ (h3 ++ R)), e1, ⟨v1, h1, o1, q.trans ?_⟩, ?_⟩
 ·exact permF (by intro f; simp only [pm] <;> omega)
 ·rintro H' X xn' l' ⟨v, hs, o, p⟩
  refine ⟨xn', xc, v, v2, v3, hs, h2, h3, rfl, e2, e3, o, o2, o3, p.trans ?_⟩
  exact permF (by intro f; simp only [pm] <;> omega)
theorem RosC.c {H R : HL} {rp a1 a2 a3 M : Nat} {s : RS} {xs : List (TE SV)} (h : RosC H rp a1 a2 a3 M s xs R) : ∃ (xc : List (TE CV)) (R1 : HL), xc.map (TE.mp coC) = s.cs ∧ TbC H a3 M xc s.l3 R1 ∧
  ∀ H' X xc' l', TbC H' a3 M xc' l' (X ++ R1) → RosC H' rp a1 a2 a3 M { s with cs := xc'.map (TE.mp coC), l3 := l' } xs (X ++ R) := by
 obtain ⟨xn, xc, v1, v2, v3, h1, h2, h3, e1, e2, e3, o1, o2, o3, q⟩ := h
 refine ⟨xc, (a1, .row (tblC M v1 s.l1)) :: (a2, .row (tblC M v2 s.l2)) :: (rp, .row (rosC a1 a2 a3)) :: (h1 ++ (h2 ++ R)), e3, ⟨v3, h3, o3, q.trans ?_⟩, ?_⟩
 ·exact permF (by intro f; simp only [pm] <;> omega)
 ·rintro H' X xc' l' ⟨v, hs, o, p⟩
  refine ⟨xn, xc', v1, v2, v, h1, h2, hs, e1, e2, rfl, o1, o2, o, p.trans ?_⟩
  exact permF (by intro f; simp only [pm] <;> omega)
theorem RosC.s {H R : HL} {rp a1 a2 a3 M : Nat} {s : RS} {xs : List (TE SV)} (h : RosC H rp a1 a2 a3 M s xs R) : ∃ (R1 : HL), xs.map (TE.mp coS) = s.ss ∧ TbS H a2 M xs s.l2 R1 ∧
  ∀ H' X xs' l', TbS H' a2 M xs' l' (X ++ R1) → RosC H' rp a1 a2 a3 M { s with ss := xs'.map (TE.mp coS), l2 := l' } xs' (X ++ R) := by
 obtain ⟨xn, xc, v1, v2, v3, h1, h2, h3, e1, e2, e3, o1, o2, o3, q⟩ := h
 refine ⟨(a1, .row (tblC M v1 s.l1)) :: (a3, .row (tblC M v3 s.l3)) :: (rp, .row (rosC a1 a2 a3)) :: (h1 ++ (h3 ++ R)), e2, ⟨v2, h2, o2, q.trans ?_⟩, ?_⟩
 ·exact permF (by intro f; simp only [pm] <;> omega)
 ·rintro H' X xs' l' ⟨v, hs, o, p⟩
  refine ⟨xn, xc, v1, v, v3, h1, hs, h3, e1, rfl, e3, o1, o, o3, p.trans ?_⟩
  exact permF (by intro f; simp only [pm] <;> omega)
theorem RosC.all {H G R : HL} {rp a1 a2 a3 M : Nat} {s : RS} {xs : List (TE SV)} (h : RosC H rp a1 a2 a3 M s xs (G ++ R)) (tg : TagsIn B G xs) : RosAt B H rp a1 a2 a3 M s R := by
 obtain ⟨xn, xc, v1, v2, v3, h1, h2, h3, e1, e2, e3, o1, o2, o3, q⟩ := h
 exact ⟨xn, xs, xc, v1, v2, v3, h1, h2, h3, G, e1, e2, e3, o1, o2, o3, tg, q⟩
theorem RosAt.bare {H R : HL} {rp a1 a2 a3 M : Nat} {s : RS} (h : RosAt B H rp a1 a2 a3 M s R) : ∃ xs G, RosC H rp a1 a2 a3 M s xs (G ++ R) ∧ TagsIn B G xs := by
 obtain ⟨xn, xs, xc, v1, v2, v3, h1, h2, h3, G, e1, e2, e3, o1, o2, o3, tg, q⟩ := h
 exact ⟨xs, G, ⟨xn, xc, v1, v2, v3, h1, h2, h3, e1, e2, e3, o1, o2, o3, q⟩, tg⟩
theorem RosC.z {H R : HL} {rp a1 a2 a3 M : Nat} {s : RS} {xs : List (TE SV)} (h : RosC H rp a1 a2 a3 M s xs R) : ∃ Z, H.Perm (Z ++ R) ∧ ∀ R' H', H'.Perm (Z ++ R') → RosC H' rp a1 a2 a3 M s xs R' := by
 obtain ⟨xn, xc, v1, v2, v3, h1, h2, h3, e1, e2, e3, o1, o2, o3, q⟩ := h
 refine ⟨(a1, .row (tblC M v1 s.l1)) :: (a2, .row (tblC M v2 s.l2)) :: (a3, .row (tblC M v3 s.l3)) :: (rp, .row (rosC a1 a2 a3)) :: (h1 ++ (h2 ++ h3)), q.trans (permF (by intro f; simp only [pm] <;> omega)), fun R' H' p => ⟨xn, xc, v1, v2, v3, h1, h2, h3, e1, e2, e3, o1, o2, o3, p.trans (permF (by intro f; simp only [pm] <;> omega))⟩⟩
theorem RsOk.le3 {M : Nat} {s : RS} (ok : RsOk M s) {xc : List (TE CV)} (e : xc.map (TE.mp coC) = s.cs) : xc.length ≤ 1000 := by
 have h1 := ok.n3
 have h2 := ok.m2
 rw [← e, List.length_map] at h1; omega
theorem RsOk.le2 {M : Nat} {s : RS} (ok : RsOk M s) {xs : List (TE SV)} (e : xs.map (TE.mp coS) = s.ss) : xs.length ≤ 1000 := by
 have h1 := ok.n2
 have h2 := ok.m2
 rw [← e, List.length_map] at h1; omega
theorem RsOk.le1 {M : Nat} {s : RS} (ok : RsOk M s) {xn : List (TE NV)} (e : xn.map (TE.mp coN) = s.ns) : xn.length ≤ 1000 := by
 have h1 := ok.n1
 have h2 := ok.m2
 rw [← e, List.length_map] at h1; omega
theorem RsOk.subC {M : Nat} {s : RS} (ok : RsOk M s) {es : List (TE KC)} (l : Int) (h : es.Sublist s.cs) : RsOk M { s with cs := es, l3 := l } :=
 ⟨ok.m1, ok.m2, ok.n1, ok.n2, Nat.le_trans h.length_le ok.n3, ok.r1, ok.r2, rise_pw.2 ((rise_pw.1 ok.r3).sublist h), ok.t⟩
theorem RsOk.subS {M : Nat} {s : RS} (ok : RsOk M s) {es : List (TE KS)} (l : Int) (h : es.Sublist s.ss) : RsOk M { s with ss := es, l2 := l } :=
 ⟨ok.m1, ok.m2, ok.n1, Nat.le_trans h.length_le ok.n2, ok.n3, ok.r1, rise_pw.2 ((rise_pw.1 ok.r2).sublist h), ok.r3, fun e he => ok.t e (h.subset he)⟩
theorem RsOk.subN {M : Nat} {s : RS} (ok : RsOk M s) {es : List (TE KN)} (l : Int) (h : es.Sublist s.ns) : RsOk M { s with ns := es, l1 := l } :=
 ⟨ok.m1, ok.m2, Nat.le_trans h.length_le ok.n1, ok.n2, ok.n3, rise_pw.2 ((rise_pw.1 ok.r1).sublist h), ok.r2, ok.r3, ok.t⟩
section drops
variable {H R : HL} {rp a1 a2 a3 M : Nat} {s : RS} {xs : List (TE SV)} {key : List Nat} {ix : Int}
theorem dropC_at (ok : RsOk M s) (h : RosC H rp a1 a2 a3 M s xs R) :
  WF B tab (.func 50) [.ptr ⟨false, a3, 0⟩, .str key, .int .u64 ix] H fun r H' =>
   (findE s.cs key = none ∧ r = .bool false ∧ RosC H' rp a1 a2 a3 M s xs R) ∨ (findE s.cs key ≠ none ∧ r = .bool true ∧ RosC H' rp a1 a2 a3 M { s with cs := dropE s.cs key, l3 := maxI s.l3 ix } xs R) := by
 obtain ⟨xc, R1, e3, t, back⟩ := h.c
 have so : Rise xc := (rise_mp (f := coC)).1 (by rw [e3]; exact ok.r3)
 refine WF.mono (drop50_at ok.m1 (ok.le3 e3) so t) ?_
 rintro r H' (⟨h1, rfl, t1⟩ | ⟨⟨x, h1⟩, rfl, t1⟩)
 ·have b := back H' [] _ _ t1
  rw [e3] at b
  exact .inl ⟨by rw [← e3, find_mp, h1]; rfl, rfl, b⟩
 ·have b := back H' [] _ _ t1
  rw [drop_mp, e3] at b
  exact .inr ⟨by rw [← e3, find_mp, h1]; simp, rfl, b⟩
theorem dropS_at (ok : RsOk M s) (h : RosC H rp a1 a2 a3 M s xs R) :
  WF B tab (.func 68) [.ptr ⟨false, a2, 0⟩, .str key, .int .u64 ix] H fun r H' =>
   (findE s.ss key = none ∧ r = .bool false ∧ RosC H' rp a1 a2 a3 M s xs R) ∨ (findE s.ss key ≠ none ∧ r = .bool true ∧ RosC H' rp a1 a2 a3 M { s with ss := dropE s.ss key, l2 := maxI s.l2 ix } (dropE xs key) R) := by
 obtain ⟨R1, e2, t, back⟩ := h.s
 have so : Rise xs := (rise_mp (f := coS)).1 (by rw [e2]; exact ok.r2)
 refine WF.mono (drop68_at ok.m1 (ok.le2 e2) so t) ?_
 rintro r H' (⟨h1, rfl, t1⟩ | ⟨⟨x, h1⟩, rfl, t1⟩)
 ·have b := back H' [] _ _ t1
  rw [e2] at b
  exact .inl ⟨by rw [← e2, find_mp, h1]; rfl, rfl, b⟩
 ·have b := back H' [] _ _ t1
  rw [drop_mp, e2] at b
  exact .inr ⟨by rw [← e2, find_mp, h1]; simp, rfl, b⟩
theorem dropN_at (ok : RsOk M s) (h : RosC H rp a1 a2 a3 M s xs R) :
  WF B tab (.func 66) [.ptr ⟨false, a1, 0⟩, .str key, .int .u64 ix] H fun r H' =>
   (findE s.ns key = none ∧ r = .bool false ∧ RosC H' rp a1 a2 a3 M s xs R) ∨ (findE s.ns key ≠ none ∧ r = .bool true ∧ RosC H' rp a1 a2 a3 M { s with ns := dropE s.ns key, l1 := maxI s.l1 ix } xs R) := by
 obtain ⟨xn, R1, e1, t, back⟩ := h.n
 have so : Rise xn := (rise_mp (f := coN)).1 (by rw [e1]; exact ok.r1)
 refine WF.mono (drop66_at ok.m1 (ok.le1 e1) so t) ?_
 rintro r H' (⟨h1, rfl, t1⟩ | ⟨⟨x, h1⟩, rfl, t1⟩)
 ·have b := back H' [] _ _ t1
  rw [e1] at b
  exact .inl ⟨by rw [← e1, find_mp, h1]; rfl, rfl, b⟩
 ·have b := back H' [] _ _ t1
  rw [drop_mp, e1] at b
  exact .inr ⟨by rw [← e1, find_mp, h1]; simp, rfl, b⟩
set_option maxHeartbeats 2000000 in
theorem drops69_ok {g : Nat} {cap : List AV} {p : KC → Bool} (ok : RsOk M s) (h : RosC H rp a1 a2 a3 M s xs R)
  (hy : ∀ (v : CV) (H' : HL), (∀ a n l, Ld B R a n l → Ld B H' a n l) → WF B tab (.func g) ([] ++ ([.agg (valC v)] ++ cap)) H' fun r H2 => H2 = H' ∧ r = .bool (p (coC v))) :
  WF B tab (.func 69) [.ptr ⟨false, rp, 0⟩, .fn (.func g) [] cap, .int .u64 ix] H fun r H' => RosC H' rp a1 a2 a3 M { s with cs := cutE p s.cs, l3 := lastX p s.cs s.l3 ix } xs R := by
 refine zY ?_
 refine WF.fn g69 rfl ?_
 obtain ⟨xc, R1, e3, t, back⟩ := h.c
 have hl := ok.le3 e3
 obtain ⟨v, h0, h1, h2, h3, h4⟩ := t.rd (B := B)
 have L : ∀ i, i < xc.length → i < s.cs.length := fun i hi => by rw [← e3, List.length_map]; exact hi
 have ek : ∀ i (hi : i < xc.length), (s.cs[i]'(L i hi)) = TE.mp coC xc[i] := fun i hi => by simp only [← e3, List.getElem_map]
 repeat' (first
  | apply zC | apply zE | apply zD | apply zK | (apply zF; rfl; rfl; (first | exact ld0 rfl | exact ld1 rfl | exact ld2 rfl); rfl) | (apply yC; rfl; rfl; (· repeat' (first | rfl | assumption | apply ac1)); intro _) | (apply zF; rfl; rfl; exact Ld.cons (Ld.cons (Ld.cons h.r3)); rfl) | (apply WOps.clA; rfl; rfl; exact each97_ok h0.cons.cons.cons ok.m1 h1.cons.cons.cons h3.cons.cons.cons hl; rintro _ _ ⟨d, c, v', h', rfl, o', rfl⟩) | (apply zB; rfl; (intro _; rfl)))
 rename_i p3 p4 p5
 refine range110C (c := c) (v := v') (es := xc) (R0 := (d, .row [.fn (.func 113) [] [.ptr ⟨false, c, 0⟩]]) :: (c, .row [v']) :: (p5, .row [.int .u64 ix]) :: (p4, .row [.fn (.func g) [] cap]) :: (p3, .row [.ptr ⟨false, rp, 0⟩]) :: (h' ++ H)) rfl hl
  (fun i R' => ∃ Hr, RosC Hr rp a1 a2 a3 M { s with cs := midE p s.cs i, l3 := lastX p (s.cs.take i) s.l3 ix } xs R ∧ R' = (d, .row [.fn (.func 113) [] [.ptr ⟨false, c, 0⟩]]) :: (c, .row [v']) :: (p5, .row [.int .u64 ix]) :: (p4, .row [.fn (.func g) [] cap]) :: (p3, .row [.ptr ⟨false, rp, 0⟩]) :: (h' ++ Hr)) ?_ ⟨H, by rw [mid_zero]; exact h, rfl⟩ ?_ ?_ ?_ ?_
 ·exact permF (by intro f; simp only [AV.cells, pm] <;> omega)
 ·rintro i _ ⟨Hr, hr, rfl⟩
  exact Ld.own zG rfl
 ·rintro i _ ⟨Hr, hr, rfl⟩
  exact ⟨Ld.own (Tk.tail zG) rfl, (SlIs.left (rows_slC o')).cons.cons.cons.cons.cons⟩
 ·rintro l i _ hi ⟨Hr, hr, rfl⟩
  refine ⟨_, rfl, ?_⟩
  intro o
  repeat' (first
   | apply zC | apply zE | apply zD | (apply zP; rfl; rfl; (first | exact tk0 | exact tk1 | exact tk2); rfl; (· repeat' (first | rfl | assumption | apply ac1)); rfl) | (apply yE; rfl; intro _) | (apply zB; rfl; (intro _; rfl)))
  rename_i p7
  refine ⟨rfl, _, Tk.tail zG, ?_⟩
  intro o2
  have hr2 := (hr.add h').cons (x := (p3, .row [.ptr ⟨false, rp, 0⟩])) |>.cons (x := (p4, .row [.fn (.func g) [] cap])) |>.cons (x := (p5, .row [.int .u64 ix])) |>.cons (x := (c, .row [v'])) |>.cons (x := (d, .row [.fn (.func 113) [] [.ptr ⟨false, c, 0⟩]])) |>.cons (x := (p7, .row (valC xc[i].v))) |>.cons (x := (l, o2))
  have hy2 := hy xc[i].v _ fun a n l k => hr2.ld k.right.cons.cons.cons.cons.cons.cons.cons
  have ok2 : RsOk M { s with cs := midE p s.cs i, l3 := lastX p (s.cs.take i) s.l3 ix } := ok.subC _ mid_sub
  cases hp : p (coC xc[i].v)
  ·rw [hp] at hy2
   repeat' (first
    | apply zC | apply zE | apply zD | apply zJ | (apply zO; rfl) | apply zK | (apply zF; rfl; rfl; (first | exact ld0 rfl | exact ld1 rfl | exact ld2 rfl); rfl) | (apply zF; rfl; rfl; exact Ld.own (Tk.tail (Tk.tail (Tk.tail (Tk.tail (Tk.tail zG))))) rfl; rfl) | (apply WOps.cvR; rfl; rfl; rfl; exact hy2; rintro _ rfl))
   refine ⟨rfl, _, _, zG, ⟨Hr, ?_, rfl⟩, subF (by intro f; simp only [AV.cells, pm] <;> omega)⟩
   rw [mid_keep (L i hi) (by rw [ek i hi]; exact hp), lastX_keep (L i hi) (by rw [ek i hi]; exact hp)]; exact hr
  ·rw [hp] at hy2
   obtain ⟨m1, m2⟩ := mid_hit ok.r3 (L i hi) (by rw [ek i hi]; exact hp)
   have m3 := lastX_hit (l := s.l3) (ix := ix) (L i hi) (by rw [ek i hi]; exact hp)
   rw [ek i hi] at m1 m2
   repeat' (first
    | apply zC | apply zE | apply zD | (apply zS; rfl) | apply zK | apply zT | apply zW | (apply zF; rfl; rfl; (first | exact ld0 rfl | exact ld1 rfl | exact ld2 rfl); rfl) | (apply zF; rfl; rfl; exact Ld.own (Tk.tail (Tk.tail (Tk.tail (Tk.tail (Tk.tail zG))))) rfl; rfl) | (apply WOps.cvR; rfl; rfl; rfl; exact hy2; rintro _ rfl) | (apply zI; rfl; · repeat' (first | refine at1 ?_ rfl | apply at2 | exact same0 | refine same1 ?_ rfl | apply same2 | exact rd_ld rfl (hr2.r3) rfl)) | (apply zI; rfl; · repeat' (first | refine at1 ?_ rfl | apply at2 | exact same0 | refine same1 ?_ rfl | apply same2 | exact rd_ld rfl (Ld.own (Tk.tail (Tk.tail (Tk.tail (Tk.tail (Tk.tail (Tk.tail zG)))))) rfl) rfl)) | (apply zI; rfl; · repeat' (first | refine at1 ?_ rfl | apply at2 | exact same0 | refine same1 ?_ rfl | apply same2 | exact rd_ld rfl (Ld.own (Tk.tail (Tk.tail (Tk.tail (Tk.tail zG)))) rfl) rfl)) | (apply yI; rfl; rfl; exact dropC_at ok2 hr2; rintro _ H1 (⟨h5, rfl, h6⟩ | ⟨h5, rfl, h6⟩)) | (apply zQ; rfl; (intro _; rfl)))
   ·exact absurd h5 m2
   ·obtain ⟨Z, pz, bk⟩ := h6.z
    have b6 := bk R (Z ++ R) (List.Perm.refl _)
    refine ⟨rfl, Z ++ ((p7, .row (valC xc[i].v)) :: (d, .row [.fn (.func 113) [] [.ptr ⟨false, c, 0⟩]]) :: (c, .row [v']) :: (p5, .row [.int .u64 ix]) :: (p4, .row [.fn (.func g) [] cap]) :: (p3, .row [.ptr ⟨false, rp, 0⟩]) :: (h' ++ R)), _, pz.trans (permF (by intro f; simp only [AV.cells, pm] <;> omega)), ⟨Z ++ R, ?_, rfl⟩, subF (by intro f; simp only [AV.cells, pm] <;> omega)⟩
    rw [m3]
    simp only at b6
    rw [← m1]
    exact b6
 ·rintro _ ⟨Hr, hr, rfl⟩
  have e : xc.length = s.cs.length := by rw [← e3, List.length_map]
  rw [e, mid_end, List.take_length] at hr
  exact ⟨trivial, [], rfl, Hr, hr, subF (by intro f; simp only [AV.cells, pm] <;> omega)⟩
end drops
theorem WD.cvR {T : Tr FnI} {t : EL} {H : HL} {HH : List (Nat × HL)} {Q : EL → HL → Prop} {os : List DOper} {k : Nat} {g : Option (Nat × Bool)} {i bs : Nat} {x : AO} {f : Nat} {first cap : List AV} {args : List AO} {vs : List AV} {P : AV → Prop} (hg : wantedL g t = some true) (hx : gl t x = some (.fn (.func f) first cap)) (ha : gls t args = some vs) (f1 : WF B T (.func f) (first ++ (vs ++ cap)) H fun v H' => H' = H ∧ P v)
  (w : ∀ v, P v → WD B T os ((k, v) :: t) H ((i, H) :: HH) Q) : WD B T (⟨⟨some k, .callv x args, g⟩, .loud, i, bs⟩ :: os) t H HH Q := WD.loud hg (by
 intro env h F le s
 obtain ⟨v, h', H', ⟨rfl, p⟩, s', e⟩ := f1 h F s
 refine ⟨v, h', _, w v p, s', e.mono fun n e => ?_⟩
 simp only [evOp, rd_mono le hx, rds_mono le ha]; exact e)
theorem isNode70_ok {H : HL} {p : Nat} {node : Int} (v : CV) (h : Ld B H ⟨false, p, 0⟩ 1 [.int .i64 node]) : WF B tab (.func 70) ([] ++ ([.agg (valC v)] ++ [.ptr ⟨false, p, 0⟩])) H fun r H2 => H2 = H ∧ r = .bool (decide ((coC v).node = node)) := by
 refine WF.fnR g70 rfl ?_
 repeat' (first
  | apply zC | apply zE | apply zD | apply zL | (apply zF; rfl; rfl; (first | exact ld0 rfl | exact ld1 rfl | exact ld2 rfl); rfl) | (apply yC; rfl; rfl; (· repeat' (first | rfl | assumption | apply ac1)); intro _) | (apply zF; rfl; rfl; exact h.cons; rfl) | (apply zM; rfl; rfl; rfl; rfl; intro _ _) | (apply zB; rfl; (intro _; rfl)))
 rename_i b hb
 refine ⟨trivial, List.sublist_cons_self _ _, [_], ⟨_, [], rfl, rfl, rfl⟩, ?_⟩
 show AV.bool b = _
 congr 1
 rw [Bool.eq_iff_iff, hb, decide_eq_true_iff]; rfl
theorem isSvc77_ok {H : HL} {p q : Nat} {node : Int} {id : List Nat} (v : CV) (h : Ld B H ⟨false, p, 0⟩ 1 [.int .i64 node]) (k : Ld B H ⟨false, q, 0⟩ 1 [.str id]) : WF B tab (.func 77) ([] ++ ([.agg (valC v)] ++ [.ptr ⟨false, p, 0⟩, .ptr ⟨false, q, 0⟩])) H fun r H2 => H2 = H ∧ r = .bool (decide ((coC v).node = node ∧ (coC v).svc = id)) := by
 refine WF.fnR g77 rfl ?_
 repeat' (first
  | apply zC | apply zE | apply zD | apply zL | (apply zF; rfl; rfl; (first | exact ld0 rfl | exact ld1 rfl | exact ld2 rfl); rfl) | (apply yC; rfl; rfl; (· repeat' (first | rfl | assumption | apply ac1)); intro _) | (apply zF; rfl; rfl; exact h.cons; rfl) | (apply zF; rfl; rfl; exact k.cons; rfl) | (apply zM; rfl; rfl; rfl; rfl; intro _ _) | (apply yH; rfl; rfl; rfl; rfl; intro _ _) | (apply zB; rfl; (intro _; rfl)) | (apply zV; rfl) | (apply WOps.ask; rfl; all_goals (intro hb; first | subst hb | fail_if_success (cases hb))))
 all_goals refine ⟨trivial, List.sublist_cons_self _ _, [_], ⟨_, [], rfl, rfl, rfl⟩, ?_⟩
 ·rename_i b hb
  have h1 := ‹true = true ↔ cmpP BinOp.eql v.node node›.1 rfl
  show AV.bool b = _
  congr 1
  rw [Bool.eq_iff_iff, hb, decide_eq_true_iff]
  exact ⟨fun h => ⟨h1, h⟩, fun h => h.2⟩
 ·have h1 := eq_of_ff ‹false = true ↔ cmpP BinOp.eql v.node node›
  show AV.bool false = _
  congr 1
  symm
  rw [decide_eq_false_iff_not]
  exact fun h => h1 h.1
open Classical in
/-- A node goes. -/
noncomputable def dropNodeS (s : RS) (node : Int) (ix : Int) : RS × Nat :=
 if thereK s.ns node then ({ s with ns := dropE s.ns (keyN node.toNat), ss := cutE (fun v => decide (v.node = node)) s.ss, cs := cutE (fun v => decide (v.node = node)) s.cs, l1 := maxI s.l1 ix, l2 := lastX (fun v : KS => decide (v.node = node)) s.ss s.l2 ix, l3 := lastX (fun v : KC => decide (v.node = node)) s.cs s.l3 ix }, 0) else (s, 4)
open Classical in
noncomputable def dropServiceS (s : RS) (node : Int) (id : List Nat) (ix : Int) : RS × Nat :=
 if (0 ≤ node ∧ node < 8) ∧ findE s.ss (keyS node.toNat id) ≠ none then ({ s with ss := dropE s.ss (keyS node.toNat id), l2 := maxI s.l2 ix, cs := cutE (fun v => decide (v.node = node ∧ v.svc = id)) s.cs, l3 := lastX (fun v : KC => decide (v.node = node ∧ v.svc = id)) s.cs s.l3 ix }, 0) else (s, 4)
open Classical in
noncomputable def dropCheckS (s : RS) (node : Int) (id : List Nat) (ix : Int) : RS × Nat :=
 if (0 ≤ node ∧ node < 8) ∧ findE s.cs (keyS node.toNat id) ≠ none then ({ s with cs := dropE s.cs (keyS node.toNat id), l3 := maxI s.l3 ix }, 0) else (s, 4)
section drops
variable {H R : HL} {rp a1 a2 a3 M : Nat} {s : RS} {xs : List (TE SV)} {id : List Nat} {node ix : Int}
theorem there65_c {m : Int} (ok : RsOk M s) (h : RosC H rp a1 a2 a3 M s xs R) :
  WF B tab (.func 65) [.ptr ⟨false, rp, 0⟩, .int .i64 m] H fun r H' => H' = H ∧ ∃ b : Bool, r = .bool b ∧ (b = true ↔ thereK s.ns m) := by
 obtain ⟨xn, R1, e1, t, back⟩ := h.n
 have so : Rise xn := (rise_mp (f := coN)).1 (by rw [e1]; exact ok.r1)
 rw [← e1]
 exact WF.mono (there65_ok ok.m1 (ok.le1 e1) so t h.r1) fun r H' ⟨q1, b, q2, q3⟩ => ⟨q1, b, q2, q3.trans hasN_mp⟩
theorem dropE_sub {V : Type} {es : List (TE V)} {key : List Nat} : (dropE es key).Sublist es := by rw [drop_is]; exact List.filter_sublist
set_option maxHeartbeats 4000000 in
theorem dropNode27_ok (ok : RsOk M s) (h : RosC H rp a1 a2 a3 M s xs R) :
  WF B tab (.func 27) [.ptr ⟨false, rp, 0⟩, .int .i64 node, .int .u64 ix] H fun r H' => r = .int .i64 (.ofNat (dropNodeS s node ix).2) ∧ ∃ xs', xs'.Sublist xs ∧ RosC H' rp a1 a2 a3 M (dropNodeS s node ix).1 xs' R := by
 refine zY ?_
 refine WF.fn g27 rfl ?_
 by_cases hth : thereK s.ns node
 ·obtain ⟨n, hn8, rfl, hf⟩ := id hth
  have e : dropNodeS s (.ofNat n) ix = ({ s with ns := dropE s.ns (keyN n), ss := cutE (fun v => decide (v.node = .ofNat n)) s.ss, cs := cutE (fun v => decide (v.node = .ofNat n)) s.cs, l1 := maxI s.l1 ix, l2 := lastX (fun v : KS => decide (v.node = .ofNat n)) s.ss s.l2 ix, l3 := lastX (fun v : KC => decide (v.node = .ofNat n)) s.cs s.l3 ix }, 0) := by
   unfold dropNodeS
   rw [if_pos hth]; rfl
  generalize hS : dropNodeS s (.ofNat n) ix = S at e
  subst e
  refine zE (zD ?_)
  repeat' (first
   | apply zC | (apply yC; rfl; rfl; (· repeat' (first | rfl | assumption | apply ac1)); intro _) | (apply zB; rfl; (intro _; rfl)))
  rename_i p3 p4 p5
  have hB := ((h.cons (x := (p3, .row [.ptr ⟨false, rp, 0⟩]))).cons (x := (p4, .row [.int .i64 (.ofNat n)]))).cons (x := (p5, .row [.int .u64 ix]))
  simp only [AV.cells] at *
  repeat' (first
   | apply zC | apply zE | apply zD | apply zJ | (apply zO; rfl) | apply zT | apply zW | (apply zF; rfl; rfl; (first | exact ld0 rfl | exact ld1 rfl | exact ld2 rfl); rfl) | (apply WOps.clR; rfl; rfl; exact none39_ok hB.r1; rintro _ rfl) | (apply WOps.clR; rfl; rfl; exact there65_c ok hB; rintro _ ⟨b, rfl, hb⟩; obtain rfl : b = true := hb.2 hth) | (apply zI; rfl; · repeat' (first | refine at1 ?_ rfl | apply at2 | exact same0 | refine same1 ?_ rfl | apply same2 | exact rd_ld rfl (hB.ld (Ld.own (Tk.tail zG) rfl)) rfl)) | (apply WD.clR; rfl; rfl; exact digit52_ok hn8; rintro _ rfl) | (apply zI; rfl; · repeat' (first | refine at1 ?_ rfl | apply at2 | exact same0 | refine same1 ?_ rfl | apply same2 | exact rd_ld rfl (hB.r1) rfl)) | (apply yI; rfl; rfl; exact dropN_at ok hB; rintro _ H1 (⟨h5, rfl, h6⟩ | ⟨h5, rfl, h6⟩)) | (apply zB; rfl; (intro _; rfl)) | (apply zI; rfl; · repeat' (first | refine at1 ?_ rfl | apply at2 | exact same0 | refine same1 ?_ rfl | apply same2 | (first | exact rd0 rfl rfl rfl | exact rd1 rfl rfl rfl | exact rd2 rfl rfl rfl))) | (apply zQ; rfl; (intro _; rfl)))
  ·exact absurd h5 hf
  rw [show ([48 + n] : List Nat) = keyN n from rfl] at h6
  have ok1 : RsOk M { s with ns := dropE s.ns (keyN n), l1 := maxI s.l1 ix } := ok.subN _ dropE_sub
  generalize hs1 : ({ s with ns := dropE s.ns (keyN n), l1 := maxI s.l1 ix } : RS) = s1 at h6 ok1
  obtain ⟨R1, e2, t, back⟩ := h6.s
  have ess : s1.ss = s.ss := by rw [← hs1]
  have ecs : s1.cs = s.cs := by rw [← hs1]
  have el2 : s1.l2 = s.l2 := by rw [← hs1]
  have el3 : s1.l3 = s.l3 := by rw [← hs1]
  have hl := ok1.le2 e2
  obtain ⟨v, h0, h1, h2, h3, h4⟩ := t.rd (B := B)
  have so : Rise xs := (rise_mp (f := coS)).1 (by rw [e2]; exact ok1.r2)
  have L : ∀ i, i < xs.length → i < s1.ss.length := fun i hi => by rw [← e2, List.length_map]; exact hi
  have ek : ∀ i (hi : i < xs.length), (s1.ss[i]'(L i hi)) = TE.mp coS xs[i] := fun i hi => by simp only [← e2, List.getElem_map]
  repeat' (first
   | apply zC | apply zK | (apply zF; rfl; rfl; exact h6.ld (Ld.own (Tk.tail (Tk.tail zG)) rfl); rfl) | (apply zF; rfl; rfl; exact h6.r2; rfl) | (apply WOps.clA; rfl; rfl; exact each67_ok h0 ok.m1 h1 h3 hl; rintro _ _ ⟨d, c, v', h', rfl, o', rfl⟩) | (apply zB; rfl; (intro _; rfl)))
  refine range95S (c := c) (v := v') (es := xs) (R0 := (d, .row [.fn (.func 107) [] [.ptr ⟨false, c, 0⟩]]) :: (c, .row [v']) :: (h' ++ H1)) rfl hl
   (fun i R' => ∃ Hr, RosC Hr rp a1 a2 a3 M { s1 with ss := midE (fun v => decide (v.node = .ofNat n)) s1.ss i, l2 := lastX (fun v => decide (v.node = .ofNat n)) (s1.ss.take i) s1.l2 ix } (midE (fun v => decide ((coS v).node = .ofNat n)) xs i) ((p5, .row [.int .u64 ix]) :: (p4, .row [.int .i64 (.ofNat n)]) :: (p3, .row [.ptr ⟨false, rp, 0⟩]) :: R) ∧ R' = (d, .row [.fn (.func 107) [] [.ptr ⟨false, c, 0⟩]]) :: (c, .row [v']) :: (h' ++ Hr)) (List.Perm.refl _) ⟨H1, by rw [mid_zero, mid_zero]; exact h6, rfl⟩ ?_ ?_ ?_ ?_
  ·rintro i _ ⟨Hr, hr, rfl⟩
   exact Ld.own zG rfl
  ·rintro i _ ⟨Hr, hr, rfl⟩
   exact ⟨Ld.own (Tk.tail zG) rfl, (SlIs.left (rows_slS o')).cons.cons⟩
  ·rintro l i _ hi ⟨Hr, hr, rfl⟩
   refine ⟨_, rfl, ?_⟩
   intro o
   have htg := xs[i].v.tg.c
   repeat' (first
    | apply zC | apply zE | apply zD | (apply zP; rfl; rfl; (first | exact tk0 | exact tk1 | exact tk2); rfl; (· repeat' (first | rfl | assumption | apply ac1)); rfl) | (apply yE; rfl; intro _) | (apply zB; rfl; (intro _; rfl)))
   rename_i p7
   refine ⟨rfl, _, Tk.tail zG, ?_⟩
   intro o2
   have hr2 := (hr.add h').cons (x := (c, .row [v'])) |>.cons (x := (d, .row [.fn (.func 107) [] [.ptr ⟨false, c, 0⟩]])) |>.cons (x := (p7, .row (valS xs[i].v))) |>.cons (x := (l, o2))
   have q3 : Ld B _ ⟨false, p3, 0⟩ 1 [.ptr ⟨false, rp, 0⟩] := hr2.ld (Ld.right (H := h') (Ld.own (Tk.tail (Tk.tail zG)) rfl)).cons.cons.cons.cons
   have q4 : Ld B _ ⟨false, p4, 0⟩ 1 [.int .i64 (.ofNat n)] := hr2.ld (Ld.right (H := h') (Ld.own (Tk.tail zG) rfl)).cons.cons.cons.cons
   have q5 : Ld B _ ⟨false, p5, 0⟩ 1 [.int .u64 ix] := hr2.ld (Ld.right (H := h') (Ld.own zG rfl)).cons.cons.cons.cons
   have ok2 : RsOk M { s1 with ss := midE (fun v => decide (v.node = .ofNat n)) s1.ss i, l2 := lastX (fun v => decide (v.node = .ofNat n)) (s1.ss.take i) s1.l2 ix } := ok1.subS _ mid_sub
   repeat' (first
    | apply zC | apply zE | apply zD | apply zJ | apply zK | apply zT | apply zW | (apply zF; rfl; rfl; (first | exact ld0 rfl | exact ld1 rfl | exact ld2 rfl); rfl) | (apply zF; rfl; rfl; exact q4; rfl) | (apply zI; rfl; · repeat' (first | refine at1 ?_ rfl | apply at2 | exact same0 | refine same1 ?_ rfl | apply same2 | exact rd_ld rfl (q3) rfl)) | (apply zI; rfl; · repeat' (first | refine at1 ?_ rfl | apply at2 | exact same0 | refine same1 ?_ rfl | apply same2 | exact rd_ld rfl (q5) rfl)) | (apply zI; rfl; · repeat' (first | refine at1 ?_ rfl | apply at2 | exact same0 | refine same1 ?_ rfl | apply same2 | exact rd_ld rfl (hr2.r2) rfl)) | (apply yI; rfl; rfl; exact dropS_at ok2 hr2; rintro _ H2 (⟨h7, rfl, h8⟩ | ⟨h7, rfl, h8⟩)) | (apply zM; rfl; rfl; rfl; rfl; intro _ _) | (apply zB; rfl; (intro _; rfl)) | (apply zQ; rfl; (intro _; rfl)) | (apply zN; rfl; all_goals (intro hb; try subst hb)))
   ·have hp := ‹true = true ↔ cmpP BinOp.eql xs[i].v.node (Int.ofNat n)›.1 rfl
    have m2 := (mid_hit (p := fun v : KS => decide (v.node = .ofNat n)) ok1.r2 (L i hi) (by rw [ek i hi]; exact decide_eq_true (show (coS xs[i].v).node = _ from hp))).2
    rw [ek i hi] at m2
    exact absurd h7 m2
   ·have hp := ‹true = true ↔ cmpP BinOp.eql xs[i].v.node (Int.ofNat n)›.1 rfl
    obtain ⟨m1, m2⟩ := mid_hit (p := fun v : KS => decide (v.node = .ofNat n)) ok1.r2 (L i hi) (by rw [ek i hi]; exact decide_eq_true (show (coS xs[i].v).node = _ from hp))
    have m3 := lastX_hit (p := fun v : KS => decide (v.node = .ofNat n)) (l := s1.l2) (ix := ix) (L i hi) (by rw [ek i hi]; exact decide_eq_true (show (coS xs[i].v).node = _ from hp))
    obtain ⟨m4, m5⟩ := mid_hit (p := fun v : SV => decide ((coS v).node = .ofNat n)) so hi (decide_eq_true (show (coS xs[i].v).node = _ from hp))
    rw [ek i hi] at m1 m2
    obtain ⟨Z, pz, bk⟩ := h8.z
    have b6 := bk ((p5, .row [.int .u64 ix]) :: (p4, .row [.int .i64 (.ofNat n)]) :: (p3, .row [.ptr ⟨false, rp, 0⟩]) :: R) (Z ++ ((p5, .row [.int .u64 ix]) :: (p4, .row [.int .i64 (.ofNat n)]) :: (p3, .row [.ptr ⟨false, rp, 0⟩]) :: R)) (List.Perm.refl _)
    refine ⟨rfl, Z ++ ((p7, .row (valS xs[i].v)) :: (d, .row [.fn (.func 107) [] [.ptr ⟨false, c, 0⟩]]) :: (c, .row [v']) :: (h' ++ ((p5, .row [.int .u64 ix]) :: (p4, .row [.int .i64 (.ofNat n)]) :: (p3, .row [.ptr ⟨false, rp, 0⟩]) :: R))), _, pz.trans (permF (by intro f; simp only [AV.cells, pm] <;> omega)), ⟨Z ++ ((p5, .row [.int .u64 ix]) :: (p4, .row [.int .i64 (.ofNat n)]) :: (p3, .row [.ptr ⟨false, rp, 0⟩]) :: R), ?_, rfl⟩, subF (by intro f; simp only [AV.cells, pm] <;> omega)⟩
    rw [← m1, ← m4]
    simp only at m3 b6 ⊢
    rw [m3]
    exact b6
   ·have hp := eq_of_ff ‹false = true ↔ cmpP BinOp.eql xs[i].v.node (Int.ofNat n)›
    refine ⟨rfl, _, _, zG, ⟨Hr, ?_, rfl⟩, subF (by intro f; simp only [AV.cells, pm] <;> omega)⟩
    rw [mid_keep (L i hi) (by rw [ek i hi]; exact decide_eq_false (show ¬ (coS xs[i].v).node = _ from hp)), lastX_keep (L i hi) (by rw [ek i hi]; exact decide_eq_false (show ¬ (coS xs[i].v).node = _ from hp)), mid_keep hi (decide_eq_false (show ¬ (coS xs[i].v).node = _ from hp))]; exact hr
  ·rintro _ ⟨Hr, hr, rfl⟩
   have e : xs.length = s1.ss.length := by rw [← e2, List.length_map]
   rw [mid_end, e, mid_end, List.take_length] at hr
   have ok3 : RsOk M { s1 with ss := cutE (fun v => decide (v.node = .ofNat n)) s1.ss, l2 := lastX (fun v => decide (v.node = .ofNat n)) s1.ss s1.l2 ix } := ok1.subS _ List.filter_sublist
   have hr2 := (hr.add h').cons (x := (c, .row [v'])) |>.cons (x := (d, .row [.fn (.func 107) [] [.ptr ⟨false, c, 0⟩]]))
   have q3 : Ld B _ ⟨false, p3, 0⟩ 1 [.ptr ⟨false, rp, 0⟩] := hr2.ld (Ld.right (H := h') (Ld.own (Tk.tail (Tk.tail zG)) rfl)).cons.cons
   have q5 : Ld B _ ⟨false, p5, 0⟩ 1 [.int .u64 ix] := hr2.ld (Ld.right (H := h') (Ld.own zG rfl)).cons.cons
   have D := drops69_ok (B := B) (ix := ix) (g := 70) (cap := [.ptr ⟨false, p4, 0⟩]) (p := fun v : KC => decide (v.node = .ofNat n)) ok3 hr2 fun v H' k => isNode70_ok v (k _ _ _ (Ld.right (H := h') (Ld.own (Tk.tail zG) rfl)).cons.cons)
   repeat' (first
    | apply zC | apply zE | apply zD | apply zL | (apply zF; rfl; rfl; exact q3; rfl) | (apply zF; rfl; rfl; exact q5; rfl) | (apply WOps.clA; rfl; rfl; exact D; intro r9 H9 h9) | (apply zB; rfl; (intro _; rfl)))
   obtain ⟨H3, b3, s3⟩ := h9.less (R1 := R) (subF (by intro f; simp only [AV.cells, pm] <;> omega))
   refine ⟨trivial, [_], ⟨_, [], rfl, rfl, rfl⟩, H3, ⟨rfl, cutE (fun v => decide ((coS v).node = .ofNat n)) xs, List.filter_sublist, ?_⟩, s3⟩
   rw [← hs1] at b3
   exact b3
 ·have e : dropNodeS s node ix = (s, 4) := by unfold dropNodeS; rw [if_neg hth]
  rw [e]
  refine zE (zD ?_)
  repeat' (first
   | apply zC | (apply yC; rfl; rfl; (· repeat' (first | rfl | assumption | apply ac1)); intro _) | (apply zB; rfl; (intro _; rfl)))
  rename_i p3 p4 p5
  have hB := ((h.cons (x := (p3, .row [.ptr ⟨false, rp, 0⟩]))).cons (x := (p4, .row [.int .i64 node]))).cons (x := (p5, .row [.int .u64 ix]))
  repeat' (first
   | apply zC | apply zE | apply zD | apply zJ | apply zL | (apply zS; rfl) | (apply zO; rfl) | (apply zF; rfl; rfl; (first | exact ld0 rfl | exact ld1 rfl | exact ld2 rfl); rfl) | (apply WOps.clR; rfl; rfl; exact none39_ok hB.r1; rintro _ rfl) | (apply WOps.clR; rfl; rfl; exact there65_c ok hB; rintro _ ⟨b, rfl, hb⟩; obtain rfl : b = false := by rw [Bool.eq_false_iff]; exact fun q => hth (hb.1 q)) | (apply zB; rfl; (intro _; rfl)))
  exact ⟨trivial, [_], ⟨_, [], rfl, rfl, rfl⟩, H, ⟨rfl, xs, List.Sublist.refl _, h⟩, subF (by intro f; simp only [AV.cells, pm] <;> omega)⟩
theorem dropCheck19_ok (ok : RsOk M s) (hid : id.length ≤ 140737488351232) (h : RosC H rp a1 a2 a3 M s xs R) :
  WF B tab (.func 19) [.ptr ⟨false, rp, 0⟩, .int .i64 node, .str id, .int .u64 ix] H fun r H' => r = .int .i64 (.ofNat (dropCheckS s node id ix).2) ∧ RosC H' rp a1 a2 a3 M (dropCheckS s node id ix).1 xs R := by
 refine zY ?_
 refine WF.fn g19 rfl ?_
 repeat' (first
  | apply zC | apply zE | apply zD | apply zJ | apply zL | (apply zS; rfl) | (apply zO; rfl) | apply zT | apply zW | (apply WOps.clR; rfl; rfl; exact none39_ok h.r1; rintro _ rfl) | (apply WD.clR; rfl; rfl; exact right49_ok node; rintro _ (⟨rfl, n, hn8, rfl⟩ | ⟨rfl, hno⟩)) | (apply WD.clR; rfl; rfl; exact key48_ok hn8 hid; rintro _ rfl) | (apply zI; rfl; · repeat' (first | refine at1 ?_ rfl | apply at2 | exact same0 | refine same1 ?_ rfl | apply same2 | exact rd_ld rfl (h.r3) rfl)) | (apply yI; rfl; rfl; exact dropC_at ok h; rintro _ H1 (⟨h5, rfl, h6⟩ | ⟨h5, rfl, h6⟩)) | (apply zB; rfl; (intro _; rfl)) | (apply zQ; rfl; (intro _; rfl)) | (apply WD.skp; rfl) | (apply WD.skpL; rfl) | (apply WD.skpX; rfl))
 ·have e : dropCheckS s (.ofNat n) id ix = (s, 4) := by
   unfold dropCheckS
   rw [if_neg]
   rintro ⟨_, h⟩
   exact h h5
  exact ⟨trivial, [_], ⟨_, [], rfl, rfl, rfl⟩, H1, ⟨by rw [e]; rfl, by rw [e]; exact h6⟩, SubP.refl⟩
 ·have e : dropCheckS s (.ofNat n) id ix = ({ s with cs := dropE s.cs (keyS n id), l3 := maxI s.l3 ix }, 0) := by
   unfold dropCheckS
   rw [if_pos ⟨by simp only [Int.ofNat_eq_natCast]; omega, h5⟩]; rfl
  exact ⟨trivial, [_], ⟨_, [], rfl, rfl, rfl⟩, H1, ⟨by rw [e]; rfl, by rw [e]; exact h6⟩, SubP.refl⟩
 ·have e : dropCheckS s node id ix = (s, 4) := by
   unfold dropCheckS
   rw [if_neg]
   rintro ⟨h, _⟩
   exact hno h
  exact ⟨trivial, [_], ⟨_, [], rfl, rfl, rfl⟩, H, ⟨by rw [e]; rfl, by rw [e]; exact h⟩, SubP.refl⟩
set_option maxHeartbeats 2000000 in
theorem dropService31_ok (ok : RsOk M s) (hid : id.length ≤ 140737488351232) (h : RosC H rp a1 a2 a3 M s xs R) :
  WF B tab (.func 31) [.ptr ⟨false, rp, 0⟩, .int .i64 node, .str id, .int .u64 ix] H fun r H' => r = .int .i64 (.ofNat (dropServiceS s node id ix).2) ∧ ∃ xs', xs'.Sublist xs ∧ RosC H' rp a1 a2 a3 M (dropServiceS s node id ix).1 xs' R := by
 refine zY ?_
 refine WF.fn g31 rfl ?_
 refine zE (zD ?_)
 repeat' (first
  | apply zC | (apply yC; rfl; rfl; (· repeat' (first | rfl | assumption | apply ac1)); intro _) | (apply zB; rfl; (intro _; rfl)))
 rename_i p5 p6
 have hB := (h.cons (x := (p5, .row [.int .i64 node]))).cons (x := (p6, .row [.str id]))
 have q5 : Ld B _ ⟨false, p5, 0⟩ 1 [.int .i64 node] := hB.ld (Ld.own (Tk.tail zG) rfl)
 have q6 : Ld B _ ⟨false, p6, 0⟩ 1 [.str id] := hB.ld (Ld.own zG rfl)
 repeat' (first
  | apply zC | apply zE | apply zD | apply zJ | apply zL | (apply zS; rfl) | (apply zO; rfl) | apply zT | apply zW | (apply zF; rfl; rfl; (first | exact ld0 rfl | exact ld1 rfl | exact ld2 rfl); rfl) | (apply zI; rfl; · repeat' (first | refine at1 ?_ rfl | apply at2 | exact same0 | refine same1 ?_ rfl | apply same2 | exact rd_ld rfl (q5) rfl)) | (apply zI; rfl; · repeat' (first | refine at1 ?_ rfl | apply at2 | exact same0 | refine same1 ?_ rfl | apply same2 | exact rd_ld rfl (q6) rfl)) | (apply WOps.clR; rfl; rfl; exact none39_ok hB.r1; rintro _ rfl) | (apply WD.clR; rfl; rfl; exact right49_ok node; rintro _ (⟨rfl, n, hn8, rfl⟩ | ⟨rfl, hno⟩)) | (apply WD.cvR; rfl; rfl; rfl; exact key48_ok hn8 hid; rintro _ rfl) | (apply zI; rfl; · repeat' (first | refine at1 ?_ rfl | apply at2 | exact same0 | refine same1 ?_ rfl | apply same2 | exact rd_ld rfl (hB.r2) rfl)) | (apply yI; rfl; rfl; exact dropS_at ok hB; rintro _ H1 (⟨h5, rfl, h6⟩ | ⟨h5, rfl, h6⟩)) | (apply WOps.clA; rfl; rfl; exact drops69_ok (B := B) (ix := ix) (g := 77) (cap := [.ptr ⟨false, p5, 0⟩, .ptr ⟨false, p6, 0⟩]) (p := fun v : KC => decide (v.node = .ofNat n ∧ v.svc = id)) (ok.subS _ dropE_sub) h6 (fun v H' k => isSvc77_ok v (k _ _ _ (Ld.own (Tk.tail zG) rfl)) (k _ _ _ (Ld.own zG rfl))); intro r9 H9 h9) | (apply zB; rfl; (intro _; rfl)) | (apply zQ; rfl; (intro _; rfl)) | (apply WD.skp; rfl) | (apply WD.skpL; rfl) | (apply WD.skpX; rfl))
 ·have e : dropServiceS s (.ofNat n) id ix = (s, 4) := by
   unfold dropServiceS
   rw [if_neg]
   rintro ⟨_, h⟩
   exact h h5
  obtain ⟨H3, b3, s3⟩ := h6.less (R1 := R) (subF (by intro f; simp only [AV.cells, pm] <;> omega))
  exact ⟨trivial, [_], ⟨_, [], rfl, rfl, rfl⟩, H3, ⟨by rw [e]; rfl, xs, List.Sublist.refl _, by rw [e]; exact b3⟩, s3⟩
 ·have e : dropServiceS s (.ofNat n) id ix = ({ s with ss := dropE s.ss (keyS n id), l2 := maxI s.l2 ix, cs := cutE (fun v => decide (v.node = .ofNat n ∧ v.svc = id)) s.cs, l3 := lastX (fun v : KC => decide (v.node = .ofNat n ∧ v.svc = id)) s.cs s.l3 ix }, 0) := by
   unfold dropServiceS
   rw [if_pos ⟨by simp only [Int.ofNat_eq_natCast]; omega, h5⟩]; rfl
  obtain ⟨H3, b3, s3⟩ := h9.less (R1 := R) (subF (by intro f; simp only [AV.cells, pm] <;> omega))
  exact ⟨trivial, [_], ⟨_, [], rfl, rfl, rfl⟩, H3, ⟨by rw [e]; rfl, _, dropE_sub, by rw [e]; exact b3⟩, s3⟩
 ·have e : dropServiceS s node id ix = (s, 4) := by
   unfold dropServiceS
   rw [if_neg]
   rintro ⟨h, _⟩
   exact hno h
  exact ⟨trivial, [_], ⟨_, [], rfl, rfl, rfl⟩, H, ⟨by rw [e]; rfl, xs, List.Sublist.refl _, by rw [e]; exact h⟩, subF (by intro f; simp only [AV.cells, pm] <;> omega)⟩
end drops
end Go.Proofs.YtgpnpcahcegadaaGreat.RO
