/- What the functions do, shown by the logic. -/
import Derived.Test.YtlfhlkndccjejaaKvP3
set_option linter.unusedSimpArgs false
set_option linter.unusedVariables false
set_option maxRecDepth 20000
namespace Go.Proofs.Ytlfhlkndccjejaa.KV
open Go.Proofs.Ytlfhlkndccjejaa.Abs
variable {B : Nat → List AV}
theorem WD.bx {T : Tr FnI} {t : EL} {H : HL} {HH : List (Nat × HL)} {Q : EL → HL → Prop} {os : List DOper} {k : Nat} {g : Option (Nat × Bool)} {i bs : Nat} {x : AO} {v : AV} {cs : List AV} (hg : wantedL g t = some true) (hx : gl t x = some v) (he : v.cells = cs) (hc : allCell cs = true) (w : ∀ id, WD B T os ((k, .ptr ⟨false, id, 0⟩) :: t) ((id, .row cs) :: H) HH Q) :
    WD B T (⟨⟨some k, .box x, g⟩, .quiet, i, bs⟩ :: os) t H HH Q := WD.quiet hg (fun _ _ h => by cases h) (fun _ _ h => by cases h) (by subst he; exact WOp.box hx hc w)
theorem copy125_ok {H : HL} {a most : Nat} {v : AV} {last : Int} {es : List E} (h0 : Ld B H ⟨false, a, 0⟩ 1 [.int .i64 (.ofNat most)]) (hm : 1 ≤ most) (h1 : Ld B H ⟨false, a, 1⟩ 1 [v]) (h2 : Ld B H ⟨false, a, 2⟩ 1 [.int .u64 last]) (o : SrcIs B H v 9 es.length (es.map rowC).flatten) (hn : es.length ≤ 1000) :
    WF B tab (.func 125) [.ptr ⟨false, a, 0⟩] H fun r H' => ∃ a2 v' h', r = .ptr ⟨false, a2, 0⟩ ∧ OwnSl v' (es.map rowC).flatten es.length 9 h' ∧ H' = (a2, .row (tblC most v' last)) :: (h' ++ H) := by
  refine WF.fn g125 rfl ?_
  repeat' (first
    | apply WOps.nil | apply WC.seq | apply WC.reg | apply WC.skip | apply WC.ret | (apply WC.condT; rfl) | (apply WC.condF; rfl) | apply WC.dreg | apply WD.nil | (apply WOps.ldG; rfl; rfl; (first | exact ld0 rfl | exact ld1 rfl | exact ld2 rfl); rfl) | (apply WOps.bx; rfl; rfl; (first | rfl | ((repeat' (first | exact ac0 | apply ac1)) <;> (first | rfl | assumption))); intro _) | (apply WOps.clR; rfl; rfl; exact none115_ok h0 hm; rintro _ rfl) | (apply WD.clA; rfl; rfl; exact list146_ok h0 hm h1 o hn; rintro v' _ ⟨h', o', rfl⟩; rcases id o' with ⟨rfl, _⟩ | ⟨id2, rfl, _⟩) | (apply WD.bx; rfl; rfl; rfl; rfl; intro _) | (apply WD.load; rfl; (apply at2; exact rd_ld0 rfl (Ld.right h0); (apply same2; exact rd_ld0 rfl h0; exact same0))) | (apply WD.load; rfl; (apply at2; exact rd_ld0 rfl (Ld.right h2); (apply same2; exact rd_ld0 rfl h2; exact same0))) | (apply WOps.purG; rfl; (intro _; rfl)) | (apply WD.load; rfl; (first | (apply at1; (first | exact rd0 rfl rfl rfl | exact rd1 rfl rfl rfl | exact rd2 rfl rfl rfl); rfl) | (apply at2; (first | exact rd0 rfl rfl rfl | exact rd1 rfl rfl rfl | exact rd2 rfl rfl rfl); repeat' (first | exact same0 | (apply same1; (first | exact rd0 rfl rfl rfl | exact rd1 rfl rfl rfl | exact rd2 rfl rfl rfl); rfl) | (apply same2; (first | exact rd0 rfl rfl rfl | exact rd1 rfl rfl rfl | exact rd2 rfl rfl rfl)))))) | (apply WD.pur; rfl; (intro _; rfl)) | (apply WC.condA; rfl; all_goals (intro hb; try subst hb)))
  all_goals exact ⟨trivial, [_], ⟨_, [], rfl, rfl, rfl⟩, _, _, h', rfl, o', rfl⟩
theorem copy81_at {H R : HL} {kp a most : Nat} {s : S} (hm : 1 ≤ most) (hn : s.es.length ≤ 1000) (t : KvAt H kp a most s R) :
    WF B tab (.func 81) [.ptr ⟨false, kp, 0⟩] H fun r H' => ∃ k2 a2, r = .ptr ⟨false, k2, 0⟩ ∧ KvAt H' k2 a2 most s H := by
  obtain ⟨v, h0, h1, h2, h3, h4⟩ := TbAt.rd (B := B) t
  have hkA : ∀ {X : HL}, Ld B ((kp, .row [.ptr ⟨false, a, 0⟩]) :: X) ⟨false, kp, 0⟩ 1 [.ptr ⟨false, a, 0⟩] := Ld.own Tk.head rfl
  have hk := TbAt.ld t hkA
  refine WF.fn g81 rfl ?_
  repeat' (first
    | apply WOps.nil | apply WC.seq | apply WC.reg | apply WC.skip | apply WC.ret | (apply WC.condT; rfl) | (apply WC.condF; rfl) | (apply WOps.ldG; rfl; rfl; (first | exact ld0 rfl | exact ld1 rfl | exact ld2 rfl); rfl) | (apply WOps.bx; rfl; rfl; (first | rfl | ((repeat' (first | exact ac0 | apply ac1)) <;> (first | rfl | assumption))); intro _) | (apply WOps.clR; rfl; rfl; exact none66_ok hk; rintro _ rfl) | (apply WOps.ldG; rfl; rfl; exact hk; rfl) | (apply WOps.clA; rfl; rfl; exact copy125_ok h0 hm h1 h2 h3 hn; rintro _ _ ⟨a2, v', h', rfl, o', rfl⟩) | (apply WOps.purG; rfl; (intro _; rfl)) | (apply WC.condA; rfl; all_goals (intro hb; try subst hb)))
  exact ⟨trivial, [_], ⟨_, [], rfl, rfl, rfl⟩, _, a2, rfl, v', h', o', permF (by intro f; simp only [AV.cells, List.append_eq, List.map_cons, List.map_nil, List.sum_nil, List.map_append, List.sum_cons, List.sum_append, List.cons_append, List.nil_append, List.append_assoc, List.append_nil]; omega)⟩
/-- The document's entries stand in the heap, beside R. -/
def RfAt (H : HL) (a most : Nat) (es : List E) (last : Int) (R : HL) : Prop := ∃ v hs, OwnSl v (es.map entC).flatten es.length 6 hs ∧ H.Perm ((a, .row (tblC most v last)) :: (hs ++ R))
theorem RfAt.cons {H R : HL} {a most : Nat} {es : List E} {last : Int} {x : Nat × AObj} (h : RfAt H a most es last R) : RfAt (x :: H) a most es last (x :: R) := by
  obtain ⟨v, hs, o, p⟩ := h
  refine ⟨v, hs, o, ?_⟩
  exact (List.Perm.cons _ p).trans ((List.Perm.swap _ _ _).trans (List.Perm.cons _ List.perm_middle.symm))
theorem RfAt.permR {H R R' : HL} {a most : Nat} {es : List E} {last : Int} (h : RfAt H a most es last R) (p : R.Perm R') : RfAt H a most es last R' := by
  obtain ⟨v, hs, o, q⟩ := h
  exact ⟨v, hs, o, q.trans (List.Perm.cons _ (List.Perm.append_left _ p))⟩
theorem RfAt.perm {H H' R : HL} {a most : Nat} {es : List E} {last : Int} (h : RfAt H a most es last R) (p : H'.Perm H) : RfAt H' a most es last R := by
  obtain ⟨v, hs, o, q⟩ := h
  exact ⟨v, hs, o, p.trans q⟩
theorem RfAt.tk {H R R' : HL} {a most : Nat} {es : List E} {last : Int} {id : Nat} {o : AObj} (h : RfAt H a most es last R) (k : Tk R id o R') : ∃ R2, Tk H id o R2 ∧ ∀ o', RfAt ((id, o') :: R2) a most es last ((id, o') :: R') := by
  obtain ⟨v, hs, ow, q⟩ := h
  refine ⟨(a, .row (tblC most v last)) :: (hs ++ R'), ?_, fun o' => ?_⟩
  · refine q.trans ?_
    refine (List.Perm.cons _ (List.Perm.append_left _ k)).trans ?_
    exact (List.Perm.cons _ List.perm_middle).trans (List.Perm.swap _ _ _)
  · refine ⟨v, hs, ow, ?_⟩
    exact (List.Perm.swap _ _ _).trans (List.Perm.cons _ List.perm_middle.symm)
theorem RfAt.ld {H R : HL} {a most : Nat} {es : List E} {last : Int} {b : AA} {n : Nat} {l : List AV} (h : RfAt H a most es last R) (k : Ld B R b n l) : Ld B H b n l := by
  obtain ⟨v, hs, ow, q⟩ := h
  exact Ld.perm q k.right.cons
theorem RfAt.sl {H R : HL} {a most : Nat} {es : List E} {last : Int} {w : AV} {n : Nat} {xs : List (List AV)} (h : RfAt H a most es last R) (k : SlIs B R w n xs) : SlIs B H w n xs := by
  obtain ⟨v, hs, ow, q⟩ := h
  exact SlIs.perm q k.right.cons
theorem RfAt.rd {H R : HL} {a most : Nat} {es : List E} {last : Int} (h : RfAt H a most es last R) :
    ∃ v, Ld B H ⟨false, a, 0⟩ 1 [.int .i64 (.ofNat most)] ∧ Ld B H ⟨false, a, 1⟩ 1 [v] ∧ Ld B H ⟨false, a, 2⟩ 1 [.int .u64 last] ∧ SrcIs B H v 6 es.length (es.map entC).flatten ∧ SlIs B H v 6 (es.map entC) := by
  obtain ⟨v, hs, ow, q⟩ := h
  exact ⟨v, Ld.perm q (Ld.own Tk.head rfl), Ld.perm q (Ld.own Tk.head rfl), Ld.perm q (Ld.own Tk.head rfl), SrcIs.perm q (SrcIs.left ow.src).cons, SlIs.perm q (SlIs.cons (SlIs.left (ents_sl ow)))⟩
/-- What else is there is forgotten. -/
theorem RfAt.less {H R R1 : HL} {a most : Nat} {es : List E} {last : Int} (h : RfAt H a most es last R) (p : SubP R1 R) : ∃ H3, RfAt H3 a most es last R1 ∧ SubP H3 H := by
  obtain ⟨v, hs, ow, q⟩ := h
  obtain ⟨G, pg⟩ := p
  refine ⟨(a, .row (tblC most v last)) :: (hs ++ R1), ⟨v, hs, ow, List.Perm.refl _⟩, G, ?_⟩
  refine q.trans ?_
  simp only [List.cons_append, List.append_assoc]
  exact List.Perm.cons _ (List.Perm.append_left _ pg)
theorem RfAt.part {H R hw X X' : HL} {a most : Nat} {es : List E} {last : Int} (h : RfAt H a most es last R) (p : R.Perm (hw ++ (X' ++ X))) : ∃ Rest, H.Perm (hw ++ Rest) ∧ ∀ hw', RfAt (hw' ++ Rest) a most es last (hw' ++ (X' ++ X)) := by
  obtain ⟨v, hs, o, q⟩ := h
  have q2 := q.trans (List.Perm.cons _ (List.Perm.append_left _ p))
  refine ⟨(a, .row (tblC most v last)) :: (hs ++ (X' ++ X)), q2.trans (permF (by intro f; simp only [AV.cells, List.append_eq, List.map_cons, List.map_nil, List.sum_nil, List.map_append, List.sum_cons, List.sum_append, List.cons_append, List.nil_append, List.append_assoc, List.append_nil]; omega)), fun hw' => ⟨v, hs, o, permF (by intro f; simp only [AV.cells, List.append_eq, List.map_cons, List.map_nil, List.sum_nil, List.map_append, List.sum_cons, List.sum_append, List.cons_append, List.nil_append, List.append_assoc, List.append_nil]; omega)⟩⟩
theorem RfAt.app {H R : HL} {a most : Nat} {es : List E} {last : Int} (h : RfAt H a most es last R) : ∀ (h' : HL), RfAt (h' ++ H) a most es last (h' ++ R) := by
  intro h'
  induction h' with
  | nil => exact h
  | cons x h' ih => exact ih.cons
theorem find_mem {es : List E} {k : Nat} (so : Rise es) (hk : k < es.length) : findE es es[k].key = some es[k] := by
  have e : findE es es[k].key = findE (es.take k ++ es.drop k) es[k].key := by rw [List.take_append_drop]
  rw [e, find_below (below_take so hk), List.drop_eq_getElem_cons hk, find_hit rfl]
theorem get29_at {H R : HL} {w most : Nat} {last : Int} {es : List E} {key : List Nat} (hn : es.length ≤ 1000) (so : Rise es) (t : RfAt H w most es last R) :
    WF B tab (.func 29) [.ptr ⟨false, w, 0⟩, .str key] H fun r H' => H' = H ∧ r = .tup [.agg (entC (lookE es key)), .bool (isE es key)] := by
  obtain ⟨v, h0, h1, h2, h3, h4⟩ := t.rd (B := B)
  refine WF.mono (get29_ok h1 h4 (by omega)) ?_
  rintro r _ ⟨rfl, h⟩
  refine ⟨rfl, look_at es key r ?_⟩
  rcases h with ⟨k, hk, rfl, h⟩ | ⟨hno, h⟩
  · exact .inl ⟨_, find_mem so hk, h⟩
  · refine .inr ⟨?_, h⟩
    cases hf : findE es key with
    | none => rfl
    | some x =>
      obtain ⟨hx, hk⟩ := find_key hf
      obtain ⟨j, hj, rfl⟩ := List.getElem_of_mem hx
      exact absurd hk (hno j hj)

theorem laid_step {es : List E} {e : E} {j : Nat} (so : Rise es) (hj : j < es.length) (hb : AllBelow (es.take j) e.key) :
    (es[j].key = e.key → findE es e.key = some es[j] ∧ (es.take j ++ [{ e with mke := es[j].mke }]) ++ es.drop (j + 1) = putE es e ∧ Above (es.drop (j + 1)) e.key) ∧
    (strLess e.key es[j].key = true → findE es e.key = none ∧ ((es.take j ++ [e]) ++ [es[j]]) ++ es.drop (j + 1) = putE es e ∧ Above (es.drop (j + 1)) e.key) ∧
    (¬ es[j].key = e.key → ¬ strLess e.key es[j].key = true → AllBelow (es.take (j + 1)) e.key) := by
  have hd : es.drop j = es[j] :: es.drop (j + 1) := List.drop_eq_getElem_cons hj
  have hab : Above (es.drop (j + 1)) es[j].key := by
    intro x hx
    obtain ⟨i, hi, rfl⟩ := List.getElem_of_mem hx
    rw [List.length_drop] at hi
    rw [List.getElem_drop]
    exact sorted_of so j (j + 1 + i) hj (by omega) (by omega)
  have ep : putE es e = es.take j ++ putE (es.drop j) e := by rw [← put_below hb, List.take_append_drop]
  have ef : findE es e.key = findE (es.drop j) e.key := by
    have : findE es e.key = findE (es.take j ++ es.drop j) e.key := by rw [List.take_append_drop]
    rw [this, find_below hb]
  refine ⟨fun hk => ⟨?_, ?_, ?_⟩, fun hl => ?_, fun hne hnl => ?_⟩
  · rw [ef, hd, find_hit hk]
  · rw [ep, hd, put_hit hk]; simp
  · rw [← hk]; exact hab
  · have ha2 : Above (es.drop (j + 1)) e.key := fun x hx => less_trans hl (hab x hx)
    have ha3 : Above (es.drop j) e.key := by
      rw [hd]
      intro x hx
      rcases List.mem_cons.1 hx with rfl | hx
      · exact hl
      · exact ha2 x hx
    refine ⟨by rw [ef, find_above ha3], ?_, ha2⟩
    rw [ep, put_above ha3, hd]
    simp
  · intro x hx
    rw [List.take_succ_eq_append_getElem hj] at hx
    rcases List.mem_append.1 hx with hx | hx
    · exact hb x hx
    · rw [List.mem_singleton] at hx
      subst hx
      cases hb : strLess es[j].key e.key with
      | true => rfl
      | false => exact absurd (less_total hb (Bool.eq_false_iff.2 hnl)) hne
def LaidOk (es : List E) (e : E) (ix : Int) (e' : E) : Prop := e'.key = e.key ∧ (∀ x, findE es e.key = some x → e' = { atIx e ix with mke := x.mke }) ∧ (findE es e.key = none → e' = atIx e ix)
theorem WOps.lessP {T : Tr FnI} {t : EL} {H H1 : HL} {Q : EL → HL → Prop} {os : List AOper} (p : SubP H1 H) (w : WOps B T os t H1 Q) : WOps B T os t H Q := by
  obtain ⟨G, p⟩ := p
  exact fun env h F le s => w env h F le ((s.perm (p.append_right F)).sub ((List.sublist_append_left H1 G).append (List.Sublist.refl _)))
/-- An entry is appended to the new list. -/
theorem app_step {t : EL} {Q : EL → HL → Prop} {os : List AOper} {k w most q : Nat} {x y : AO} {w9 : AV} {H1 hw R : HL} {es us : List E} {last : Int} {u : E} {x4 : Nat × AObj} {c : List AV} (hx : gl t x = some w9) (hy : gl t y = some (.sl ⟨false, q, 0⟩ 1 6))
    (t1 : RfAt H1 w most es last (x4 :: (hw ++ R))) (o9 : OwnSl w9 (us.map entC).flatten us.length 6 hw) (hc : c = entC u) (hu : us.length ≤ 1100)
    (h : ∀ v2 h2 H2, OwnSl v2 ((us ++ [u]).map entC).flatten (us ++ [u]).length 6 h2 → RfAt H2 w most es last (x4 :: (h2 ++ R)) → WOps B tab os ((k, v2) :: t) H2 Q) :
    WOps B tab (⟨some k, .append 6 64 x y, none⟩ :: os) t ((q, .row c) :: H1) Q := by
  subst hc
  obtain ⟨Rest, pr, ht⟩ := (t1.cons (x := (q, .row (entC u)))).part (hw := hw) (X := R) (X' := [(q, .row (entC u)), x4]) (permF (by intro f; simp only [AV.cells, List.append_eq, List.map_cons, List.map_nil, List.sum_nil, List.map_append, List.sum_cons, List.sum_append, List.cons_append, List.nil_append, List.append_assoc, List.append_nil]; omega))
  refine WOps.app (n := us.length) rfl hx hy o9 pr (src_one Tk.head rfl) (ents_cell _) rfl rfl (by omega) ?_
  intro v2 h2 o2
  obtain ⟨H3, t4, s4⟩ := (ht h2).less (R1 := x4 :: (h2 ++ R)) (subF (by intro f; simp only [AV.cells, List.append_eq, List.map_cons, List.map_nil, List.sum_nil, List.map_append, List.sum_cons, List.sum_append, List.cons_append, List.nil_append, List.append_assoc, List.append_nil]; omega))
  refine WOps.lessP s4 (h v2 h2 H3 ?_ t4)
  rw [ents_app, List.length_append]
  exact o2
theorem raise131_tk {H : HL} {a most : Nat} {v : AV} {last ix : Int} : WF B tab (.func 131) [.ptr ⟨false, a, 0⟩, .int .u64 ix] ((a, .row (tblC most v last)) :: H) fun r H' => H' = (a, .row (tblC most v (maxI last ix))) :: H := raise131_ok
theorem eq_of_ff {p : Prop} (h : false = true ↔ p) : ¬ p := fun k => by have := h.2 k; cases this
set_option maxHeartbeats 4000000 in
theorem put89_ok {H R : HL} {w most : Nat} {last ix : Int} {es : List E} {e : E} (hn : es.length ≤ 999) (so : Rise es) (t : RfAt H w most es last R) :
    WF B tab (.func 89) [.ptr ⟨false, w, 0⟩, .agg (entC e), .int .u64 ix] H fun r H' =>
      (fullP most es e.key ∧ r = .int .i64 (.ofNat 5) ∧ RfAt H' w most es last R) ∨
      (¬ fullP most es e.key ∧ r = .int .i64 (.ofNat 0) ∧ RfAt H' w most (putE es (atIx e ix)) (maxI last ix) R) := by
  refine WF.lessP ?_
  refine WF.fn g89 rfl ?_
  obtain ⟨v0, l0, l1, l2, s1, s2⟩ := t.rd (B := B)
  repeat' (first
    | apply WOps.nil | apply WC.seq | apply WC.reg | apply WC.skip | apply WC.ret | apply WC.exit | (apply WC.condT; rfl) | (apply WC.condF; rfl) | apply WC.block | apply WC.dreg | apply WD.nil | (apply WOps.ldG; rfl; rfl; (first | exact ld0 rfl | exact ld1 rfl | exact ld2 rfl); rfl) | (apply WOps.st; rfl; rfl; (first | exact tk0 | exact tk1 | exact tk2); rfl; (first | rfl | ((repeat' (first | exact ac0 | apply ac1)) <;> (first | rfl | assumption))); rfl) | (apply WOps.alc; rfl; intro _) | (apply WOps.bx; rfl; rfl; (first | rfl | ((repeat' (first | exact ac0 | apply ac1)) <;> (first | rfl | assumption))); intro _) | (apply WOps.bsl; rfl; (first | rfl | ((repeat' (first | exact ac0 | apply ac1)) <;> (first | rfl | assumption))); intro _) | (apply WD.st; rfl; rfl; rfl; (first | exact tk0 | exact tk1 | exact tk2); rfl; (first | rfl | ((repeat' (first | exact ac0 | apply ac1)) <;> (first | rfl | assumption))); rfl) | (apply WD.alc; rfl; rfl; intro _) | (apply WD.bsl; rfl; rfl; (first | rfl | ((repeat' (first | exact ac0 | apply ac1)) <;> (first | rfl | assumption))); intro _) | (apply WOps.clR; rfl; rfl; exact get29_at (by omega) so t.cons; rintro _ rfl; generalize hle : lookE es e.key = le; generalize hie : isE es e.key = ie; cases ie) | (apply WD.load; rfl; (apply at2; exact rd_ld0 rfl l1.cons.cons; exact same0)) | (apply WD.load; rfl; (apply at2; exact rd_ld0 rfl l0.cons.cons; exact same0)) | (apply WD.lenS; rfl; rfl; exact s2.cons.cons) | (apply WOps.neqF; rfl; rfl; rfl; decide) | (apply WOps.neqT; rfl; rfl; rfl; decide) | (apply WOps.eqlF; rfl; rfl; rfl; decide) | (apply WOps.eqlT; rfl; rfl; rfl; decide) | (apply WD.neqF; rfl; rfl; rfl; decide) | (apply WD.neqT; rfl; rfl; rfl; decide) | (apply WD.eqlF; rfl; rfl; rfl; decide) | (apply WD.eqlT; rfl; rfl; rfl; decide) | (apply WOps.cmp; rfl; rfl; rfl; rfl; intro _ _) | (apply WOps.cmpT; rfl; rfl; rfl; rfl; intro _ _) | (apply WOps.purG; rfl; (intro _; rfl)) | (apply WOps.skp; rfl) | (apply WD.load; rfl; (first | (apply at1; (first | exact rd0 rfl rfl rfl | exact rd1 rfl rfl rfl | exact rd2 rfl rfl rfl); rfl) | (apply at2; (first | exact rd0 rfl rfl rfl | exact rd1 rfl rfl rfl | exact rd2 rfl rfl rfl); repeat' (first | exact same0 | (apply same1; (first | exact rd0 rfl rfl rfl | exact rd1 rfl rfl rfl | exact rd2 rfl rfl rfl); rfl) | (apply same2; (first | exact rd0 rfl rfl rfl | exact rd1 rfl rfl rfl | exact rd2 rfl rfl rfl)))))) | (apply WD.cmp; rfl; rfl; rfl; rfl; intro _ _) | (apply WD.cmpT; rfl; rfl; rfl; rfl; intro _ _) | (apply WD.pur; rfl; (intro _; rfl)) | (apply WD.skp; rfl) | (apply WD.skpL; rfl) | (apply WD.skpX; rfl) | (apply WOps.ask; rfl; all_goals (intro hb; first | subst hb | fail_if_success (cases hb))) | (apply WC.condA; rfl; all_goals (intro hb; try subst hb)) | (apply WD.ask; rfl; all_goals (intro hb; first | subst hb | fail_if_success (cases hb))))
  · have hnone : findE es e.key = none := by
      cases hf : findE es e.key with
      | none => rfl
      | some x => simp [isE, hf] at hie
    have hge := ‹true = true ↔ cmpP BinOp.geq (Int.ofNat (List.map entC es).length) (Int.ofNat most)›
    rw [List.length_map] at hge
    simp only [cmpP, true_iff, Int.ofNat_eq_natCast] at hge
    obtain ⟨H3, t3, s3⟩ := t.cons.cons.less (R1 := R) (subF (by intro f; simp only [AV.cells, List.append_eq, List.map_cons, List.map_nil, List.sum_nil, List.map_append, List.sum_cons, List.sum_append, List.cons_append, List.nil_append, List.append_assoc, List.append_nil]; omega))
    exact ⟨trivial, [_], ⟨_, [], rfl, rfl, rfl⟩, H3, .inl ⟨⟨hnone, by omega⟩, rfl, t3⟩, s3⟩
  all_goals first
    | (rename_i p4 p7 hge
       have hnone : findE es e.key = none := by
         cases hf : findE es e.key with
         | none => rfl
         | some x => simp [isE, hf] at hie
       rw [List.length_map] at hge
       have hge2 := eq_of_ff hge
       simp only [cmpP, Int.ofNat_eq_natCast] at hge2
       obtain ⟨e', he⟩ : ∃ e' : E, e' = atIx e ix := ⟨_, rfl⟩
       refine WC.heq (H' := (p4, .row (entC e')) :: (p7, .row (entC le)) :: H) (by rw [he]; rfl) ?_
       have hnf : ¬ fullP most es e.key := fun h => hge2 (by have := h.2; omega)
       have hla : LaidOk es e ix e' := ⟨(by rw [he]; rfl), (fun x hx => by rw [hnone] at hx; cases hx), fun _ => he⟩
       clear he hge hge2 hnone hie hle)
    | (rename_i p4 p7
       obtain ⟨x, hsome⟩ : ∃ x, findE es e.key = some x := by
         cases hf : findE es e.key with
         | none => simp [isE, hf] at hie
         | some x => exact ⟨x, rfl⟩
       have hx : le = x := by rw [← hle]; simp [lookE, hsome]
       obtain ⟨e', he⟩ : ∃ e' : E, e' = { atIx e ix with mke := le.mke } := ⟨_, rfl⟩
       refine WC.heq (H' := (p4, .row (entC e')) :: (p7, .row (entC le)) :: H) (by rw [he]; rfl) ?_
       have hnf : ¬ fullP most es e.key := fun h => by have := h.1; rw [hsome] at this; cases this
       have hla : LaidOk es e ix e' := ⟨(by rw [he]; rfl), (fun y hy => by rw [hsome] at hy; cases hy; rw [he, hx]), fun h => by rw [hsome] at h; cases h⟩
       clear he hsome hie hle hx)
  all_goals refine WC.loop ?_
  all_goals
    (obtain ⟨i, hi⟩ : ∃ i : Nat, i = 0 := ⟨0, rfl⟩
     obtain ⟨w9, hw9⟩ : ∃ v, v = AV.nilsl := ⟨_, rfl⟩
     obtain ⟨us, hus⟩ : ∃ u : List E, u = [] := ⟨_, rfl⟩
     obtain ⟨hw, hhw⟩ : ∃ h : HL, h = [] := ⟨_, rfl⟩
     obtain ⟨H1, hH1⟩ : ∃ h : HL, h = (p4, .row (entC e')) :: H := ⟨_, rfl⟩
     obtain ⟨laid, hlaid⟩ : ∃ b : Bool, b = false := ⟨_, rfl⟩
     refine WL.le (t' := [(0, .ptr ⟨false, w, 0⟩), (2, .int .u64 ix), (4, .ptr ⟨false, p4, 0⟩), (9, w9), (10, .bool laid), (11, .int .i64 (.ofNat i))]) (by subst hi; subst hw9; subst hlaid; exact Sub1.cons rfl (Sub1.cons rfl (Sub1.cons rfl (Sub1.cons rfl (Sub1.cons rfl (Sub1.cons rfl Sub1.nil)))))) ?_
     refine WL.sub (H1 := H1) (by rw [hH1]; exact List.Sublist.cons_cons _ (List.sublist_cons_self _ _)) ?_
     have o9 : OwnSl w9 (us.map entC).flatten us.length 6 hw := by subst hus; exact .inl ⟨hw9, rfl, rfl, hhw⟩
     have t1 : RfAt H1 w most es last ((p4, .row (entC e')) :: (hw ++ R)) := by
       subst hhw hH1
       exact t.cons
     have hst : (laid = false ∧ us = es.take i ∧ AllBelow (es.take i) e.key) ∨ (laid = true ∧ us ++ es.drop i = putE es (atIx e ix) ∧ Above (es.drop i) e.key) := by
       subst hi hus
       exact .inl ⟨hlaid, rfl, fun x hx => by simp at hx⟩
     have hul : us.length ≤ i + 1 := by subst hus; simp
     have hle : i ≤ es.length := by omega
     clear hi hw9 hus hhw hH1 hlaid
     induction hk : es.length - i using Nat.strongRecOn generalizing i w9 us hw H1 laid with | _ k ih => ?_
     obtain ⟨v1, k0, k1, k2, q1, q2⟩ := t1.rd (B := B)
     have h4 : Ld B H1 ⟨false, p4, 0⟩ 6 (entC e') := t1.ld (Ld.own Tk.head rfl)
     apply WL.step)
  all_goals
    (obtain ⟨hek, hla1, hla2⟩ := hla
     rcases hst with ⟨rfl, rfl, hbel⟩ | ⟨rfl, hput, hab⟩)
  all_goals
    repeat' (first
      | apply WOps.nil | apply WC.seq | apply WC.reg | apply WC.skip | apply WC.ret | apply WC.exit | (apply WC.condT; rfl) | (apply WC.condF; rfl) | apply WC.block | apply WC.dreg | apply WD.nil | (apply WOps.ldG; rfl; rfl; (first | exact ld0 rfl | exact ld1 rfl | exact ld2 rfl); rfl) | (apply WOps.st; rfl; rfl; (first | exact tk0 | exact tk1 | exact tk2); rfl; (first | rfl | ((repeat' (first | exact ac0 | apply ac1)) <;> (first | rfl | assumption))); rfl) | (apply WOps.alc; rfl; intro _) | (apply WOps.bx; rfl; rfl; (first | rfl | ((repeat' (first | exact ac0 | apply ac1)) <;> (first | rfl | assumption))); intro _) | (apply WOps.bsl; rfl; (first | rfl | ((repeat' (first | exact ac0 | apply ac1)) <;> (first | rfl | assumption))); intro _) | (apply WD.st; rfl; rfl; rfl; (first | exact tk0 | exact tk1 | exact tk2); rfl; (first | rfl | ((repeat' (first | exact ac0 | apply ac1)) <;> (first | rfl | assumption))); rfl) | (apply WD.alc; rfl; rfl; intro _) | (apply WD.bsl; rfl; rfl; (first | rfl | ((repeat' (first | exact ac0 | apply ac1)) <;> (first | rfl | assumption))); intro _) | (apply WOps.ldG; rfl; rfl; exact k1; rfl) | (apply WOps.lenS; rfl; rfl; exact q2) | (apply WOps.cmp; rfl; rfl; rfl; rfl; intro _ _) | (apply WOps.cmpT; rfl; rfl; rfl; rfl; intro _ _) | (apply WOps.purG; rfl; (intro _; rfl)) | (apply WOps.skp; rfl) | (apply WD.load; rfl; (first | (apply at1; (first | exact rd0 rfl rfl rfl | exact rd1 rfl rfl rfl | exact rd2 rfl rfl rfl); rfl) | (apply at2; (first | exact rd0 rfl rfl rfl | exact rd1 rfl rfl rfl | exact rd2 rfl rfl rfl); repeat' (first | exact same0 | (apply same1; (first | exact rd0 rfl rfl rfl | exact rd1 rfl rfl rfl | exact rd2 rfl rfl rfl); rfl) | (apply same2; (first | exact rd0 rfl rfl rfl | exact rd1 rfl rfl rfl | exact rd2 rfl rfl rfl)))))) | (apply WD.cmp; rfl; rfl; rfl; rfl; intro _ _) | (apply WD.cmpT; rfl; rfl; rfl; rfl; intro _ _) | (apply WD.pur; rfl; (intro _; rfl)) | (apply WD.skp; rfl) | (apply WD.skpL; rfl) | (apply WD.skpX; rfl) | (apply WOps.ask; rfl; all_goals (intro hb; first | subst hb | fail_if_success (cases hb))) | (apply WC.condA; rfl; all_goals (intro hb; try subst hb)) | (apply WD.ask; rfl; all_goals (intro hb; first | subst hb | fail_if_success (cases hb))))
  -- BULLETS
  · have hlt : i < es.length := by
      have h0 := ‹true = true ↔ cmpP BinOp.lss (Int.ofNat i) (Int.ofNat (List.map entC es).length)›
      rw [List.length_map] at h0
      simp [cmpP] at h0; omega
    have hcm : (es.map entC)[i]? = some (entC es[i]) := by rw [List.getElem?_map, List.getElem?_eq_getElem hlt]; rfl
    obtain ⟨st1, st2, st3⟩ := laid_step (e := atIx e ix) so hlt hbel
    repeat' (first
      | apply WOps.nil | apply WC.seq | apply WC.reg | apply WC.skip | apply WC.ret | apply WC.exit | (apply WC.condT; rfl) | (apply WC.condF; rfl) | apply WC.block | apply WC.dreg | apply WD.nil | (apply WOps.ldG; rfl; rfl; (first | exact ld0 rfl | exact ld1 rfl | exact ld2 rfl); rfl) | (apply WOps.st; rfl; rfl; (first | exact tk0 | exact tk1 | exact tk2); rfl; (first | rfl | ((repeat' (first | exact ac0 | apply ac1)) <;> (first | rfl | assumption))); rfl) | (apply WOps.alc; rfl; intro _) | (apply WOps.bx; rfl; rfl; (first | rfl | ((repeat' (first | exact ac0 | apply ac1)) <;> (first | rfl | assumption))); intro _) | (apply WOps.bsl; rfl; (first | rfl | ((repeat' (first | exact ac0 | apply ac1)) <;> (first | rfl | assumption))); intro _) | (apply WD.st; rfl; rfl; rfl; (first | exact tk0 | exact tk1 | exact tk2); rfl; (first | rfl | ((repeat' (first | exact ac0 | apply ac1)) <;> (first | rfl | assumption))); rfl) | (apply WD.alc; rfl; rfl; intro _) | (apply WD.bsl; rfl; rfl; (first | rfl | ((repeat' (first | exact ac0 | apply ac1)) <;> (first | rfl | assumption))); intro _) | (apply WOps.ldG; rfl; rfl; exact k1; rfl) | (apply WOps.lenS; rfl; rfl; exact q2) | (apply WD.load; rfl; (apply at2; exact rd_ld0 rfl k1; exact same0)) | (apply WD.ixSl; rfl; rfl; rfl; exact q2; exact hcm; intro ax hax) | (apply WD.load; rfl; (apply at2; exact rd_ld0 rfl (Ld.part (hax _ q2) 0 1 (by decide)); exact same0)) | (apply WD.load; rfl; (apply at2; exact rd_ld0 rfl (Ld.part h4 0 1 (by decide)); exact same0)) | (apply WD.load; rfl; (apply at2; exact rd_ld0 rfl (Ld.part (hay _ q2) 0 1 (by decide)); exact same0)) | (apply WOps.ldG; rfl; rfl; exact h4; rfl) | (apply app_step (u := e'); rfl; rfl; exact t1; exact o9; rfl; omega; intro v2 h2 H2 o2 t2; obtain ⟨vv, m0, m1, m2, r1, r2⟩ := t2.rd (B := B)) | (apply WOps.ldG; rfl; rfl; exact m1; rfl) | (apply WOps.ixSl; rfl; rfl; rfl; exact r2; exact hcm; intro az haz) | (apply WOps.ldG; rfl; rfl; exact haz; rfl) | (apply app_step (u := es[i]); rfl; rfl; exact t2; exact o2; rfl; (rw [List.length_append, List.length_singleton]; omega); intro v3 h3 H3 o3 t3) | (apply WOps.ixSl; rfl; rfl; rfl; exact q2; exact hcm; intro ay hay) | (apply WOps.ldG; rfl; rfl; exact hay; rfl) | (apply app_step (u := es[i]); rfl; rfl; exact t1; exact o9; rfl; omega; intro v2 h2 H2 o2 t2) | (apply WOps.addN; rfl; rfl; rfl; omega) | (apply WOps.cmp; rfl; rfl; rfl; rfl; intro _ _) | (apply WOps.cmpT; rfl; rfl; rfl; rfl; intro _ _) | (apply WOps.purG; rfl; (intro _; rfl)) | (apply WOps.skp; rfl) | (apply WD.load; rfl; (first | (apply at1; (first | exact rd0 rfl rfl rfl | exact rd1 rfl rfl rfl | exact rd2 rfl rfl rfl); rfl) | (apply at2; (first | exact rd0 rfl rfl rfl | exact rd1 rfl rfl rfl | exact rd2 rfl rfl rfl); repeat' (first | exact same0 | (apply same1; (first | exact rd0 rfl rfl rfl | exact rd1 rfl rfl rfl | exact rd2 rfl rfl rfl); rfl) | (apply same2; (first | exact rd0 rfl rfl rfl | exact rd1 rfl rfl rfl | exact rd2 rfl rfl rfl)))))) | (apply WD.cmp; rfl; rfl; rfl; rfl; intro _ _) | (apply WD.cmpT; rfl; rfl; rfl; rfl; intro _ _) | (apply WD.pur; rfl; (intro _; rfl)) | (apply WD.skp; rfl) | (apply WD.skpL; rfl) | (apply WD.skpX; rfl) | (apply WOps.ask; rfl; all_goals (intro hb; first | subst hb | fail_if_success (cases hb))) | (apply WC.condA; rfl; all_goals (intro hb; try subst hb)) | (apply WD.ask; rfl; all_goals (intro hb; first | subst hb | fail_if_success (cases hb))))
    · have hq := ‹true = true ↔ cmpS BinOp.eql es[i].key e'.key›
      simp only [cmpS, true_iff, hek] at hq
      obtain ⟨f1, f2, f3⟩ := st1 hq
      refine WL.le (t' := [(0, .ptr ⟨false, w, 0⟩), (2, .int .u64 ix), (4, .ptr ⟨false, p4, 0⟩), (9, v2), (10, .bool true), (11, .int .i64 (.ofNat (i + 1)))]) (Sub1.cons rfl (Sub1.cons rfl (Sub1.cons rfl (Sub1.cons rfl (Sub1.cons rfl (Sub1.cons rfl Sub1.nil)))))) (ih _ (by omega) (i + 1) v2 (es.take i ++ [e']) h2 H2 true o2 t2 (.inr ⟨rfl, ?_, f3⟩) (by rw [List.length_append, List.length_singleton]; omega) (by omega) rfl)
      rw [hla1 _ f1]; exact f2
    · have hq := ‹true = true ↔ cmpS BinOp.gtr es[i].key e'.key›
      have hl : strLess e.key es[i].key = true := by rw [← hek]; exact gtr_iff.1 (hq.1 rfl)
      obtain ⟨f1, f2, f3⟩ := st2 hl
      refine WL.le (t' := [(0, .ptr ⟨false, w, 0⟩), (2, .int .u64 ix), (4, .ptr ⟨false, p4, 0⟩), (9, v3), (10, .bool true), (11, .int .i64 (.ofNat (i + 1)))]) (Sub1.cons rfl (Sub1.cons rfl (Sub1.cons rfl (Sub1.cons rfl (Sub1.cons rfl (Sub1.cons rfl Sub1.nil)))))) (ih _ (by omega) (i + 1) v3 ((es.take i ++ [e']) ++ [es[i]]) h3 H3 true o3 t3 (.inr ⟨rfl, ?_, f3⟩) ?_ (by omega) rfl)
      · rw [hla2 f1]; exact f2
      · rw [List.length_append, List.length_append, List.length_take, List.length_singleton, List.length_singleton]; omega
    · have hq := eq_of_ff ‹false = true ↔ cmpS BinOp.gtr es[i].key e'.key›
      have hq2 := eq_of_ff ‹false = true ↔ cmpS BinOp.eql es[i].key e'.key›
      simp only [cmpS, hek] at hq2
      have hnl : ¬ strLess e.key es[i].key = true := fun h => hq (gtr_iff.2 (by rw [hek]; exact h))
      refine WL.le (t' := [(0, .ptr ⟨false, w, 0⟩), (2, .int .u64 ix), (4, .ptr ⟨false, p4, 0⟩), (9, v2), (10, .bool false), (11, .int .i64 (.ofNat (i + 1)))]) (Sub1.cons rfl (Sub1.cons rfl (Sub1.cons rfl (Sub1.cons rfl (Sub1.cons rfl (Sub1.cons rfl Sub1.nil)))))) (ih _ (by omega) (i + 1) v2 (es.take i ++ [es[i]]) h2 H2 false o2 t2 (.inl ⟨rfl, (List.take_succ_eq_append_getElem hlt).symm, st3 hq2 hnl⟩) (by rw [List.length_append, List.length_singleton]; omega) (by omega) rfl)
  · have hge : i = es.length := by
      have h0 := eq_of_ff ‹false = true ↔ cmpP BinOp.lss (Int.ofNat i) (Int.ofNat (List.map entC es).length)›
      rw [List.length_map] at h0
      simp [cmpP] at h0; omega
    subst hge
    rw [List.take_length] at hbel o9 hul
    have hf : findE es e.key = none := by
      have := find_below (Bs := []) hbel
      simpa [findE] using this
    have hp : es ++ [e'] = putE es (atIx e ix) := by
      have := put_below (Bs := []) (e := atIx e ix) hbel
      rw [hla2 hf]
      simpa [putE] using this.symm
    repeat' (first
      | apply WOps.nil | apply WC.seq | apply WC.reg | apply WC.skip | apply WC.ret | apply WC.exit | (apply WC.condT; rfl) | (apply WC.condF; rfl) | apply WC.block | apply WC.dreg | apply WD.nil | (apply WOps.ldG; rfl; rfl; (first | exact ld0 rfl | exact ld1 rfl | exact ld2 rfl); rfl) | (apply WOps.st; rfl; rfl; (first | exact tk0 | exact tk1 | exact tk2); rfl; (first | rfl | ((repeat' (first | exact ac0 | apply ac1)) <;> (first | rfl | assumption))); rfl) | (apply WOps.alc; rfl; intro _) | (apply WOps.bx; rfl; rfl; (first | rfl | ((repeat' (first | exact ac0 | apply ac1)) <;> (first | rfl | assumption))); intro _) | (apply WOps.bsl; rfl; (first | rfl | ((repeat' (first | exact ac0 | apply ac1)) <;> (first | rfl | assumption))); intro _) | (apply WD.st; rfl; rfl; rfl; (first | exact tk0 | exact tk1 | exact tk2); rfl; (first | rfl | ((repeat' (first | exact ac0 | apply ac1)) <;> (first | rfl | assumption))); rfl) | (apply WD.alc; rfl; rfl; intro _) | (apply WD.bsl; rfl; rfl; (first | rfl | ((repeat' (first | exact ac0 | apply ac1)) <;> (first | rfl | assumption))); intro _) | (apply WOps.ldG; rfl; rfl; exact h4; rfl) | (apply app_step (u := e'); rfl; rfl; exact t1; exact o9; rfl; omega; intro v2 h2 H2 o2 t2) | (apply WOps.cmp; rfl; rfl; rfl; rfl; intro _ _) | (apply WOps.cmpT; rfl; rfl; rfl; rfl; intro _ _) | (apply WOps.purG; rfl; (intro _; rfl)) | (apply WOps.skp; rfl) | (apply WD.load; rfl; (first | (apply at1; (first | exact rd0 rfl rfl rfl | exact rd1 rfl rfl rfl | exact rd2 rfl rfl rfl); rfl) | (apply at2; (first | exact rd0 rfl rfl rfl | exact rd1 rfl rfl rfl | exact rd2 rfl rfl rfl); repeat' (first | exact same0 | (apply same1; (first | exact rd0 rfl rfl rfl | exact rd1 rfl rfl rfl | exact rd2 rfl rfl rfl); rfl) | (apply same2; (first | exact rd0 rfl rfl rfl | exact rd1 rfl rfl rfl | exact rd2 rfl rfl rfl)))))) | (apply WD.cmp; rfl; rfl; rfl; rfl; intro _ _) | (apply WD.cmpT; rfl; rfl; rfl; rfl; intro _ _) | (apply WD.pur; rfl; (intro _; rfl)) | (apply WD.skp; rfl) | (apply WD.skpL; rfl) | (apply WD.skpX; rfl) | (apply WOps.ask; rfl; all_goals (intro hb; first | subst hb | fail_if_success (cases hb))) | (apply WC.condA; rfl; all_goals (intro hb; try subst hb)) | (apply WD.ask; rfl; all_goals (intro hb; first | subst hb | fail_if_success (cases hb))))
    rw [hp] at o2
    obtain ⟨vv, hv, ov, qq⟩ := t2
    apply WOps.st (cs := tblC most vv last) (cs' := tblC most v2 last)
    · rfl
    · rfl
    · exact qq
    · rw [o2.cells]; rfl
    · rw [o2.cells]; exact allCell_cons o2.cell allCell_nil
    · rw [o2.cells]; rfl
    repeat' (first
      | apply WOps.nil | apply WC.seq | apply WC.reg | apply WC.skip | apply WC.ret | apply WC.exit | (apply WC.condT; rfl) | (apply WC.condF; rfl) | apply WC.block | apply WC.dreg | apply WD.nil | (apply WOps.ldG; rfl; rfl; (first | exact ld0 rfl | exact ld1 rfl | exact ld2 rfl); rfl) | (apply WOps.st; rfl; rfl; (first | exact tk0 | exact tk1 | exact tk2); rfl; (first | rfl | ((repeat' (first | exact ac0 | apply ac1)) <;> (first | rfl | assumption))); rfl) | (apply WOps.alc; rfl; intro _) | (apply WOps.bx; rfl; rfl; (first | rfl | ((repeat' (first | exact ac0 | apply ac1)) <;> (first | rfl | assumption))); intro _) | (apply WOps.bsl; rfl; (first | rfl | ((repeat' (first | exact ac0 | apply ac1)) <;> (first | rfl | assumption))); intro _) | (apply WD.st; rfl; rfl; rfl; (first | exact tk0 | exact tk1 | exact tk2); rfl; (first | rfl | ((repeat' (first | exact ac0 | apply ac1)) <;> (first | rfl | assumption))); rfl) | (apply WD.alc; rfl; rfl; intro _) | (apply WD.bsl; rfl; rfl; (first | rfl | ((repeat' (first | exact ac0 | apply ac1)) <;> (first | rfl | assumption))); intro _) | (apply WOps.clA; rfl; rfl; exact raise131_tk; rintro _ _ rfl) | (apply WOps.cmp; rfl; rfl; rfl; rfl; intro _ _) | (apply WOps.cmpT; rfl; rfl; rfl; rfl; intro _ _) | (apply WOps.purG; rfl; (intro _; rfl)) | (apply WOps.skp; rfl) | (apply WD.load; rfl; (first | (apply at1; (first | exact rd0 rfl rfl rfl | exact rd1 rfl rfl rfl | exact rd2 rfl rfl rfl); rfl) | (apply at2; (first | exact rd0 rfl rfl rfl | exact rd1 rfl rfl rfl | exact rd2 rfl rfl rfl); repeat' (first | exact same0 | (apply same1; (first | exact rd0 rfl rfl rfl | exact rd1 rfl rfl rfl | exact rd2 rfl rfl rfl); rfl) | (apply same2; (first | exact rd0 rfl rfl rfl | exact rd1 rfl rfl rfl | exact rd2 rfl rfl rfl)))))) | (apply WD.cmp; rfl; rfl; rfl; rfl; intro _ _) | (apply WD.cmpT; rfl; rfl; rfl; rfl; intro _ _) | (apply WD.pur; rfl; (intro _; rfl)) | (apply WD.skp; rfl) | (apply WD.skpL; rfl) | (apply WD.skpX; rfl) | (apply WOps.ask; rfl; all_goals (intro hb; first | subst hb | fail_if_success (cases hb))) | (apply WC.condA; rfl; all_goals (intro hb; try subst hb)) | (apply WD.ask; rfl; all_goals (intro hb; first | subst hb | fail_if_success (cases hb))))
    exact ⟨trivial, [_], ⟨_, [], rfl, rfl, rfl⟩, _, .inr ⟨hnf, rfl, v2, h2, o2, List.Perm.refl _⟩, subF (by intro f; simp only [AV.cells, List.append_eq, List.map_cons, List.map_nil, List.sum_nil, List.map_append, List.sum_cons, List.sum_append, List.cons_append, List.nil_append, List.append_assoc, List.append_nil]; omega)⟩
  · have hlt : i < es.length := by
      have h0 := ‹true = true ↔ cmpP BinOp.lss (Int.ofNat i) (Int.ofNat (List.map entC es).length)›
      rw [List.length_map] at h0
      simp [cmpP] at h0; omega
    have hcm : (es.map entC)[i]? = some (entC es[i]) := by rw [List.getElem?_map, List.getElem?_eq_getElem hlt]; rfl
    repeat' (first
      | apply WOps.nil | apply WC.seq | apply WC.reg | apply WC.skip | apply WC.ret | apply WC.exit | (apply WC.condT; rfl) | (apply WC.condF; rfl) | apply WC.block | apply WC.dreg | apply WD.nil | (apply WOps.ldG; rfl; rfl; (first | exact ld0 rfl | exact ld1 rfl | exact ld2 rfl); rfl) | (apply WOps.st; rfl; rfl; (first | exact tk0 | exact tk1 | exact tk2); rfl; (first | rfl | ((repeat' (first | exact ac0 | apply ac1)) <;> (first | rfl | assumption))); rfl) | (apply WOps.alc; rfl; intro _) | (apply WOps.bx; rfl; rfl; (first | rfl | ((repeat' (first | exact ac0 | apply ac1)) <;> (first | rfl | assumption))); intro _) | (apply WOps.bsl; rfl; (first | rfl | ((repeat' (first | exact ac0 | apply ac1)) <;> (first | rfl | assumption))); intro _) | (apply WD.st; rfl; rfl; rfl; (first | exact tk0 | exact tk1 | exact tk2); rfl; (first | rfl | ((repeat' (first | exact ac0 | apply ac1)) <;> (first | rfl | assumption))); rfl) | (apply WD.alc; rfl; rfl; intro _) | (apply WD.bsl; rfl; rfl; (first | rfl | ((repeat' (first | exact ac0 | apply ac1)) <;> (first | rfl | assumption))); intro _) | (apply WOps.ldG; rfl; rfl; exact k1; rfl) | (apply WOps.lenS; rfl; rfl; exact q2) | (apply WD.load; rfl; (apply at2; exact rd_ld0 rfl k1; exact same0)) | (apply WD.ixSl; rfl; rfl; rfl; exact q2; exact hcm; intro ax hax) | (apply WD.load; rfl; (apply at2; exact rd_ld0 rfl (Ld.part (hax _ q2) 0 1 (by decide)); exact same0)) | (apply WD.load; rfl; (apply at2; exact rd_ld0 rfl (Ld.part h4 0 1 (by decide)); exact same0)) | (apply WD.load; rfl; (apply at2; exact rd_ld0 rfl (Ld.part (hay _ q2) 0 1 (by decide)); exact same0)) | (apply WOps.ldG; rfl; rfl; exact h4; rfl) | (apply app_step (u := e'); rfl; rfl; exact t1; exact o9; rfl; omega; intro v2 h2 H2 o2 t2; obtain ⟨vv, m0, m1, m2, r1, r2⟩ := t2.rd (B := B)) | (apply WOps.ldG; rfl; rfl; exact m1; rfl) | (apply WOps.ixSl; rfl; rfl; rfl; exact r2; exact hcm; intro az haz) | (apply WOps.ldG; rfl; rfl; exact haz; rfl) | (apply app_step (u := es[i]); rfl; rfl; exact t2; exact o2; rfl; (rw [List.length_append, List.length_singleton]; omega); intro v3 h3 H3 o3 t3) | (apply WOps.ixSl; rfl; rfl; rfl; exact q2; exact hcm; intro ay hay) | (apply WOps.ldG; rfl; rfl; exact hay; rfl) | (apply app_step (u := es[i]); rfl; rfl; exact t1; exact o9; rfl; omega; intro v2 h2 H2 o2 t2) | (apply WOps.addN; rfl; rfl; rfl; omega) | (apply WOps.cmp; rfl; rfl; rfl; rfl; intro _ _) | (apply WOps.cmpT; rfl; rfl; rfl; rfl; intro _ _) | (apply WOps.purG; rfl; (intro _; rfl)) | (apply WOps.skp; rfl) | (apply WD.load; rfl; (first | (apply at1; (first | exact rd0 rfl rfl rfl | exact rd1 rfl rfl rfl | exact rd2 rfl rfl rfl); rfl) | (apply at2; (first | exact rd0 rfl rfl rfl | exact rd1 rfl rfl rfl | exact rd2 rfl rfl rfl); repeat' (first | exact same0 | (apply same1; (first | exact rd0 rfl rfl rfl | exact rd1 rfl rfl rfl | exact rd2 rfl rfl rfl); rfl) | (apply same2; (first | exact rd0 rfl rfl rfl | exact rd1 rfl rfl rfl | exact rd2 rfl rfl rfl)))))) | (apply WD.cmp; rfl; rfl; rfl; rfl; intro _ _) | (apply WD.cmpT; rfl; rfl; rfl; rfl; intro _ _) | (apply WD.pur; rfl; (intro _; rfl)) | (apply WD.skp; rfl) | (apply WD.skpL; rfl) | (apply WD.skpX; rfl) | (apply WOps.ask; rfl; all_goals (intro hb; first | subst hb | fail_if_success (cases hb))) | (apply WC.condA; rfl; all_goals (intro hb; try subst hb)) | (apply WD.ask; rfl; all_goals (intro hb; first | subst hb | fail_if_success (cases hb))))
    · have hq := ‹true = true ↔ cmpS BinOp.eql es[i].key e'.key›
      simp only [cmpS, true_iff, hek] at hq
      have := hab es[i] (by rw [List.drop_eq_getElem_cons hlt]; exact List.mem_cons_self)
      rw [hq, less_irr] at this; cases this
    · have hd := List.drop_eq_getElem_cons hlt
      refine WL.le (t' := [(0, .ptr ⟨false, w, 0⟩), (2, .int .u64 ix), (4, .ptr ⟨false, p4, 0⟩), (9, v2), (10, .bool true), (11, .int .i64 (.ofNat (i + 1)))]) (Sub1.cons rfl (Sub1.cons rfl (Sub1.cons rfl (Sub1.cons rfl (Sub1.cons rfl (Sub1.cons rfl Sub1.nil)))))) (ih _ (by omega) (i + 1) v2 (us ++ [es[i]]) h2 H2 true o2 t2 (.inr ⟨rfl, ?_, ?_⟩) (by rw [List.length_append, List.length_singleton]; omega) (by omega) rfl)
      · rw [← hput, hd]; simp
      · intro x hx
        exact hab x (by rw [hd]; exact List.mem_cons_of_mem _ hx)
  · have hge : i = es.length := by
      have h0 := eq_of_ff ‹false = true ↔ cmpP BinOp.lss (Int.ofNat i) (Int.ofNat (List.map entC es).length)›
      rw [List.length_map] at h0
      simp [cmpP] at h0; omega
    subst hge
    rw [List.drop_length, List.append_nil] at hput
    rw [hput] at o9
    obtain ⟨vv, hv, ov, qq⟩ := t1
    apply WOps.st (cs := tblC most vv last) (cs' := tblC most w9 last)
    · rfl
    · rfl
    · exact qq
    · rw [o9.cells]; rfl
    · rw [o9.cells]; exact allCell_cons o9.cell allCell_nil
    · rw [o9.cells]; rfl
    repeat' (first
      | apply WOps.nil | apply WC.seq | apply WC.reg | apply WC.skip | apply WC.ret | apply WC.exit | (apply WC.condT; rfl) | (apply WC.condF; rfl) | apply WC.block | apply WC.dreg | apply WD.nil | (apply WOps.ldG; rfl; rfl; (first | exact ld0 rfl | exact ld1 rfl | exact ld2 rfl); rfl) | (apply WOps.st; rfl; rfl; (first | exact tk0 | exact tk1 | exact tk2); rfl; (first | rfl | ((repeat' (first | exact ac0 | apply ac1)) <;> (first | rfl | assumption))); rfl) | (apply WOps.alc; rfl; intro _) | (apply WOps.bx; rfl; rfl; (first | rfl | ((repeat' (first | exact ac0 | apply ac1)) <;> (first | rfl | assumption))); intro _) | (apply WOps.bsl; rfl; (first | rfl | ((repeat' (first | exact ac0 | apply ac1)) <;> (first | rfl | assumption))); intro _) | (apply WD.st; rfl; rfl; rfl; (first | exact tk0 | exact tk1 | exact tk2); rfl; (first | rfl | ((repeat' (first | exact ac0 | apply ac1)) <;> (first | rfl | assumption))); rfl) | (apply WD.alc; rfl; rfl; intro _) | (apply WD.bsl; rfl; rfl; (first | rfl | ((repeat' (first | exact ac0 | apply ac1)) <;> (first | rfl | assumption))); intro _) | (apply WOps.clA; rfl; rfl; exact raise131_tk; rintro _ _ rfl) | (apply WOps.cmp; rfl; rfl; rfl; rfl; intro _ _) | (apply WOps.cmpT; rfl; rfl; rfl; rfl; intro _ _) | (apply WOps.purG; rfl; (intro _; rfl)) | (apply WOps.skp; rfl) | (apply WD.load; rfl; (first | (apply at1; (first | exact rd0 rfl rfl rfl | exact rd1 rfl rfl rfl | exact rd2 rfl rfl rfl); rfl) | (apply at2; (first | exact rd0 rfl rfl rfl | exact rd1 rfl rfl rfl | exact rd2 rfl rfl rfl); repeat' (first | exact same0 | (apply same1; (first | exact rd0 rfl rfl rfl | exact rd1 rfl rfl rfl | exact rd2 rfl rfl rfl); rfl) | (apply same2; (first | exact rd0 rfl rfl rfl | exact rd1 rfl rfl rfl | exact rd2 rfl rfl rfl)))))) | (apply WD.cmp; rfl; rfl; rfl; rfl; intro _ _) | (apply WD.cmpT; rfl; rfl; rfl; rfl; intro _ _) | (apply WD.pur; rfl; (intro _; rfl)) | (apply WD.skp; rfl) | (apply WD.skpL; rfl) | (apply WD.skpX; rfl) | (apply WOps.ask; rfl; all_goals (intro hb; first | subst hb | fail_if_success (cases hb))) | (apply WC.condA; rfl; all_goals (intro hb; try subst hb)) | (apply WD.ask; rfl; all_goals (intro hb; first | subst hb | fail_if_success (cases hb))))
    exact ⟨trivial, [_], ⟨_, [], rfl, rfl, rfl⟩, _, .inr ⟨hnf, rfl, w9, hw, o9, List.Perm.refl _⟩, subF (by intro f; simp only [AV.cells, List.append_eq, List.map_cons, List.map_nil, List.sum_nil, List.map_append, List.sum_cons, List.sum_append, List.cons_append, List.nil_append, List.append_assoc, List.append_nil]; omega)⟩
  · have hlt : i < es.length := by
      have h0 := ‹true = true ↔ cmpP BinOp.lss (Int.ofNat i) (Int.ofNat (List.map entC es).length)›
      rw [List.length_map] at h0
      simp [cmpP] at h0; omega
    have hcm : (es.map entC)[i]? = some (entC es[i]) := by rw [List.getElem?_map, List.getElem?_eq_getElem hlt]; rfl
    obtain ⟨st1, st2, st3⟩ := laid_step (e := atIx e ix) so hlt hbel
    repeat' (first
      | apply WOps.nil | apply WC.seq | apply WC.reg | apply WC.skip | apply WC.ret | apply WC.exit | (apply WC.condT; rfl) | (apply WC.condF; rfl) | apply WC.block | apply WC.dreg | apply WD.nil | (apply WOps.ldG; rfl; rfl; (first | exact ld0 rfl | exact ld1 rfl | exact ld2 rfl); rfl) | (apply WOps.st; rfl; rfl; (first | exact tk0 | exact tk1 | exact tk2); rfl; (first | rfl | ((repeat' (first | exact ac0 | apply ac1)) <;> (first | rfl | assumption))); rfl) | (apply WOps.alc; rfl; intro _) | (apply WOps.bx; rfl; rfl; (first | rfl | ((repeat' (first | exact ac0 | apply ac1)) <;> (first | rfl | assumption))); intro _) | (apply WOps.bsl; rfl; (first | rfl | ((repeat' (first | exact ac0 | apply ac1)) <;> (first | rfl | assumption))); intro _) | (apply WD.st; rfl; rfl; rfl; (first | exact tk0 | exact tk1 | exact tk2); rfl; (first | rfl | ((repeat' (first | exact ac0 | apply ac1)) <;> (first | rfl | assumption))); rfl) | (apply WD.alc; rfl; rfl; intro _) | (apply WD.bsl; rfl; rfl; (first | rfl | ((repeat' (first | exact ac0 | apply ac1)) <;> (first | rfl | assumption))); intro _) | (apply WOps.ldG; rfl; rfl; exact k1; rfl) | (apply WOps.lenS; rfl; rfl; exact q2) | (apply WD.load; rfl; (apply at2; exact rd_ld0 rfl k1; exact same0)) | (apply WD.ixSl; rfl; rfl; rfl; exact q2; exact hcm; intro ax hax) | (apply WD.load; rfl; (apply at2; exact rd_ld0 rfl (Ld.part (hax _ q2) 0 1 (by decide)); exact same0)) | (apply WD.load; rfl; (apply at2; exact rd_ld0 rfl (Ld.part h4 0 1 (by decide)); exact same0)) | (apply WD.load; rfl; (apply at2; exact rd_ld0 rfl (Ld.part (hay _ q2) 0 1 (by decide)); exact same0)) | (apply WOps.ldG; rfl; rfl; exact h4; rfl) | (apply app_step (u := e'); rfl; rfl; exact t1; exact o9; rfl; omega; intro v2 h2 H2 o2 t2; obtain ⟨vv, m0, m1, m2, r1, r2⟩ := t2.rd (B := B)) | (apply WOps.ldG; rfl; rfl; exact m1; rfl) | (apply WOps.ixSl; rfl; rfl; rfl; exact r2; exact hcm; intro az haz) | (apply WOps.ldG; rfl; rfl; exact haz; rfl) | (apply app_step (u := es[i]); rfl; rfl; exact t2; exact o2; rfl; (rw [List.length_append, List.length_singleton]; omega); intro v3 h3 H3 o3 t3) | (apply WOps.ixSl; rfl; rfl; rfl; exact q2; exact hcm; intro ay hay) | (apply WOps.ldG; rfl; rfl; exact hay; rfl) | (apply app_step (u := es[i]); rfl; rfl; exact t1; exact o9; rfl; omega; intro v2 h2 H2 o2 t2) | (apply WOps.addN; rfl; rfl; rfl; omega) | (apply WOps.cmp; rfl; rfl; rfl; rfl; intro _ _) | (apply WOps.cmpT; rfl; rfl; rfl; rfl; intro _ _) | (apply WOps.purG; rfl; (intro _; rfl)) | (apply WOps.skp; rfl) | (apply WD.load; rfl; (first | (apply at1; (first | exact rd0 rfl rfl rfl | exact rd1 rfl rfl rfl | exact rd2 rfl rfl rfl); rfl) | (apply at2; (first | exact rd0 rfl rfl rfl | exact rd1 rfl rfl rfl | exact rd2 rfl rfl rfl); repeat' (first | exact same0 | (apply same1; (first | exact rd0 rfl rfl rfl | exact rd1 rfl rfl rfl | exact rd2 rfl rfl rfl); rfl) | (apply same2; (first | exact rd0 rfl rfl rfl | exact rd1 rfl rfl rfl | exact rd2 rfl rfl rfl)))))) | (apply WD.cmp; rfl; rfl; rfl; rfl; intro _ _) | (apply WD.cmpT; rfl; rfl; rfl; rfl; intro _ _) | (apply WD.pur; rfl; (intro _; rfl)) | (apply WD.skp; rfl) | (apply WD.skpL; rfl) | (apply WD.skpX; rfl) | (apply WOps.ask; rfl; all_goals (intro hb; first | subst hb | fail_if_success (cases hb))) | (apply WC.condA; rfl; all_goals (intro hb; try subst hb)) | (apply WD.ask; rfl; all_goals (intro hb; first | subst hb | fail_if_success (cases hb))))
    · have hq := ‹true = true ↔ cmpS BinOp.eql es[i].key e'.key›
      simp only [cmpS, true_iff, hek] at hq
      obtain ⟨f1, f2, f3⟩ := st1 hq
      refine WL.le (t' := [(0, .ptr ⟨false, w, 0⟩), (2, .int .u64 ix), (4, .ptr ⟨false, p4, 0⟩), (9, v2), (10, .bool true), (11, .int .i64 (.ofNat (i + 1)))]) (Sub1.cons rfl (Sub1.cons rfl (Sub1.cons rfl (Sub1.cons rfl (Sub1.cons rfl (Sub1.cons rfl Sub1.nil)))))) (ih _ (by omega) (i + 1) v2 (es.take i ++ [e']) h2 H2 true o2 t2 (.inr ⟨rfl, ?_, f3⟩) (by rw [List.length_append, List.length_singleton]; omega) (by omega) rfl)
      rw [hla1 _ f1]; exact f2
    · have hq := ‹true = true ↔ cmpS BinOp.gtr es[i].key e'.key›
      have hl : strLess e.key es[i].key = true := by rw [← hek]; exact gtr_iff.1 (hq.1 rfl)
      obtain ⟨f1, f2, f3⟩ := st2 hl
      refine WL.le (t' := [(0, .ptr ⟨false, w, 0⟩), (2, .int .u64 ix), (4, .ptr ⟨false, p4, 0⟩), (9, v3), (10, .bool true), (11, .int .i64 (.ofNat (i + 1)))]) (Sub1.cons rfl (Sub1.cons rfl (Sub1.cons rfl (Sub1.cons rfl (Sub1.cons rfl (Sub1.cons rfl Sub1.nil)))))) (ih _ (by omega) (i + 1) v3 ((es.take i ++ [e']) ++ [es[i]]) h3 H3 true o3 t3 (.inr ⟨rfl, ?_, f3⟩) ?_ (by omega) rfl)
      · rw [hla2 f1]; exact f2
      · rw [List.length_append, List.length_append, List.length_take, List.length_singleton, List.length_singleton]; omega
    · have hq := eq_of_ff ‹false = true ↔ cmpS BinOp.gtr es[i].key e'.key›
      have hq2 := eq_of_ff ‹false = true ↔ cmpS BinOp.eql es[i].key e'.key›
      simp only [cmpS, hek] at hq2
      have hnl : ¬ strLess e.key es[i].key = true := fun h => hq (gtr_iff.2 (by rw [hek]; exact h))
      refine WL.le (t' := [(0, .ptr ⟨false, w, 0⟩), (2, .int .u64 ix), (4, .ptr ⟨false, p4, 0⟩), (9, v2), (10, .bool false), (11, .int .i64 (.ofNat (i + 1)))]) (Sub1.cons rfl (Sub1.cons rfl (Sub1.cons rfl (Sub1.cons rfl (Sub1.cons rfl (Sub1.cons rfl Sub1.nil)))))) (ih _ (by omega) (i + 1) v2 (es.take i ++ [es[i]]) h2 H2 false o2 t2 (.inl ⟨rfl, (List.take_succ_eq_append_getElem hlt).symm, st3 hq2 hnl⟩) (by rw [List.length_append, List.length_singleton]; omega) (by omega) rfl)
  · have hge : i = es.length := by
      have h0 := eq_of_ff ‹false = true ↔ cmpP BinOp.lss (Int.ofNat i) (Int.ofNat (List.map entC es).length)›
      rw [List.length_map] at h0
      simp [cmpP] at h0; omega
    subst hge
    rw [List.take_length] at hbel o9 hul
    have hf : findE es e.key = none := by
      have := find_below (Bs := []) hbel
      simpa [findE] using this
    have hp : es ++ [e'] = putE es (atIx e ix) := by
      have := put_below (Bs := []) (e := atIx e ix) hbel
      rw [hla2 hf]
      simpa [putE] using this.symm
    repeat' (first
      | apply WOps.nil | apply WC.seq | apply WC.reg | apply WC.skip | apply WC.ret | apply WC.exit | (apply WC.condT; rfl) | (apply WC.condF; rfl) | apply WC.block | apply WC.dreg | apply WD.nil | (apply WOps.ldG; rfl; rfl; (first | exact ld0 rfl | exact ld1 rfl | exact ld2 rfl); rfl) | (apply WOps.st; rfl; rfl; (first | exact tk0 | exact tk1 | exact tk2); rfl; (first | rfl | ((repeat' (first | exact ac0 | apply ac1)) <;> (first | rfl | assumption))); rfl) | (apply WOps.alc; rfl; intro _) | (apply WOps.bx; rfl; rfl; (first | rfl | ((repeat' (first | exact ac0 | apply ac1)) <;> (first | rfl | assumption))); intro _) | (apply WOps.bsl; rfl; (first | rfl | ((repeat' (first | exact ac0 | apply ac1)) <;> (first | rfl | assumption))); intro _) | (apply WD.st; rfl; rfl; rfl; (first | exact tk0 | exact tk1 | exact tk2); rfl; (first | rfl | ((repeat' (first | exact ac0 | apply ac1)) <;> (first | rfl | assumption))); rfl) | (apply WD.alc; rfl; rfl; intro _) | (apply WD.bsl; rfl; rfl; (first | rfl | ((repeat' (first | exact ac0 | apply ac1)) <;> (first | rfl | assumption))); intro _) | (apply WOps.ldG; rfl; rfl; exact h4; rfl) | (apply app_step (u := e'); rfl; rfl; exact t1; exact o9; rfl; omega; intro v2 h2 H2 o2 t2) | (apply WOps.cmp; rfl; rfl; rfl; rfl; intro _ _) | (apply WOps.cmpT; rfl; rfl; rfl; rfl; intro _ _) | (apply WOps.purG; rfl; (intro _; rfl)) | (apply WOps.skp; rfl) | (apply WD.load; rfl; (first | (apply at1; (first | exact rd0 rfl rfl rfl | exact rd1 rfl rfl rfl | exact rd2 rfl rfl rfl); rfl) | (apply at2; (first | exact rd0 rfl rfl rfl | exact rd1 rfl rfl rfl | exact rd2 rfl rfl rfl); repeat' (first | exact same0 | (apply same1; (first | exact rd0 rfl rfl rfl | exact rd1 rfl rfl rfl | exact rd2 rfl rfl rfl); rfl) | (apply same2; (first | exact rd0 rfl rfl rfl | exact rd1 rfl rfl rfl | exact rd2 rfl rfl rfl)))))) | (apply WD.cmp; rfl; rfl; rfl; rfl; intro _ _) | (apply WD.cmpT; rfl; rfl; rfl; rfl; intro _ _) | (apply WD.pur; rfl; (intro _; rfl)) | (apply WD.skp; rfl) | (apply WD.skpL; rfl) | (apply WD.skpX; rfl) | (apply WOps.ask; rfl; all_goals (intro hb; first | subst hb | fail_if_success (cases hb))) | (apply WC.condA; rfl; all_goals (intro hb; try subst hb)) | (apply WD.ask; rfl; all_goals (intro hb; first | subst hb | fail_if_success (cases hb))))
    rw [hp] at o2
    obtain ⟨vv, hv, ov, qq⟩ := t2
    apply WOps.st (cs := tblC most vv last) (cs' := tblC most v2 last)
    · rfl
    · rfl
    · exact qq
    · rw [o2.cells]; rfl
    · rw [o2.cells]; exact allCell_cons o2.cell allCell_nil
    · rw [o2.cells]; rfl
    repeat' (first
      | apply WOps.nil | apply WC.seq | apply WC.reg | apply WC.skip | apply WC.ret | apply WC.exit | (apply WC.condT; rfl) | (apply WC.condF; rfl) | apply WC.block | apply WC.dreg | apply WD.nil | (apply WOps.ldG; rfl; rfl; (first | exact ld0 rfl | exact ld1 rfl | exact ld2 rfl); rfl) | (apply WOps.st; rfl; rfl; (first | exact tk0 | exact tk1 | exact tk2); rfl; (first | rfl | ((repeat' (first | exact ac0 | apply ac1)) <;> (first | rfl | assumption))); rfl) | (apply WOps.alc; rfl; intro _) | (apply WOps.bx; rfl; rfl; (first | rfl | ((repeat' (first | exact ac0 | apply ac1)) <;> (first | rfl | assumption))); intro _) | (apply WOps.bsl; rfl; (first | rfl | ((repeat' (first | exact ac0 | apply ac1)) <;> (first | rfl | assumption))); intro _) | (apply WD.st; rfl; rfl; rfl; (first | exact tk0 | exact tk1 | exact tk2); rfl; (first | rfl | ((repeat' (first | exact ac0 | apply ac1)) <;> (first | rfl | assumption))); rfl) | (apply WD.alc; rfl; rfl; intro _) | (apply WD.bsl; rfl; rfl; (first | rfl | ((repeat' (first | exact ac0 | apply ac1)) <;> (first | rfl | assumption))); intro _) | (apply WOps.clA; rfl; rfl; exact raise131_tk; rintro _ _ rfl) | (apply WOps.cmp; rfl; rfl; rfl; rfl; intro _ _) | (apply WOps.cmpT; rfl; rfl; rfl; rfl; intro _ _) | (apply WOps.purG; rfl; (intro _; rfl)) | (apply WOps.skp; rfl) | (apply WD.load; rfl; (first | (apply at1; (first | exact rd0 rfl rfl rfl | exact rd1 rfl rfl rfl | exact rd2 rfl rfl rfl); rfl) | (apply at2; (first | exact rd0 rfl rfl rfl | exact rd1 rfl rfl rfl | exact rd2 rfl rfl rfl); repeat' (first | exact same0 | (apply same1; (first | exact rd0 rfl rfl rfl | exact rd1 rfl rfl rfl | exact rd2 rfl rfl rfl); rfl) | (apply same2; (first | exact rd0 rfl rfl rfl | exact rd1 rfl rfl rfl | exact rd2 rfl rfl rfl)))))) | (apply WD.cmp; rfl; rfl; rfl; rfl; intro _ _) | (apply WD.cmpT; rfl; rfl; rfl; rfl; intro _ _) | (apply WD.pur; rfl; (intro _; rfl)) | (apply WD.skp; rfl) | (apply WD.skpL; rfl) | (apply WD.skpX; rfl) | (apply WOps.ask; rfl; all_goals (intro hb; first | subst hb | fail_if_success (cases hb))) | (apply WC.condA; rfl; all_goals (intro hb; try subst hb)) | (apply WD.ask; rfl; all_goals (intro hb; first | subst hb | fail_if_success (cases hb))))
    exact ⟨trivial, [_], ⟨_, [], rfl, rfl, rfl⟩, _, .inr ⟨hnf, rfl, v2, h2, o2, List.Perm.refl _⟩, subF (by intro f; simp only [AV.cells, List.append_eq, List.map_cons, List.map_nil, List.sum_nil, List.map_append, List.sum_cons, List.sum_append, List.cons_append, List.nil_append, List.append_assoc, List.append_nil]; omega)⟩
  · have hlt : i < es.length := by
      have h0 := ‹true = true ↔ cmpP BinOp.lss (Int.ofNat i) (Int.ofNat (List.map entC es).length)›
      rw [List.length_map] at h0
      simp [cmpP] at h0; omega
    have hcm : (es.map entC)[i]? = some (entC es[i]) := by rw [List.getElem?_map, List.getElem?_eq_getElem hlt]; rfl
    repeat' (first
      | apply WOps.nil | apply WC.seq | apply WC.reg | apply WC.skip | apply WC.ret | apply WC.exit | (apply WC.condT; rfl) | (apply WC.condF; rfl) | apply WC.block | apply WC.dreg | apply WD.nil | (apply WOps.ldG; rfl; rfl; (first | exact ld0 rfl | exact ld1 rfl | exact ld2 rfl); rfl) | (apply WOps.st; rfl; rfl; (first | exact tk0 | exact tk1 | exact tk2); rfl; (first | rfl | ((repeat' (first | exact ac0 | apply ac1)) <;> (first | rfl | assumption))); rfl) | (apply WOps.alc; rfl; intro _) | (apply WOps.bx; rfl; rfl; (first | rfl | ((repeat' (first | exact ac0 | apply ac1)) <;> (first | rfl | assumption))); intro _) | (apply WOps.bsl; rfl; (first | rfl | ((repeat' (first | exact ac0 | apply ac1)) <;> (first | rfl | assumption))); intro _) | (apply WD.st; rfl; rfl; rfl; (first | exact tk0 | exact tk1 | exact tk2); rfl; (first | rfl | ((repeat' (first | exact ac0 | apply ac1)) <;> (first | rfl | assumption))); rfl) | (apply WD.alc; rfl; rfl; intro _) | (apply WD.bsl; rfl; rfl; (first | rfl | ((repeat' (first | exact ac0 | apply ac1)) <;> (first | rfl | assumption))); intro _) | (apply WOps.ldG; rfl; rfl; exact k1; rfl) | (apply WOps.lenS; rfl; rfl; exact q2) | (apply WD.load; rfl; (apply at2; exact rd_ld0 rfl k1; exact same0)) | (apply WD.ixSl; rfl; rfl; rfl; exact q2; exact hcm; intro ax hax) | (apply WD.load; rfl; (apply at2; exact rd_ld0 rfl (Ld.part (hax _ q2) 0 1 (by decide)); exact same0)) | (apply WD.load; rfl; (apply at2; exact rd_ld0 rfl (Ld.part h4 0 1 (by decide)); exact same0)) | (apply WD.load; rfl; (apply at2; exact rd_ld0 rfl (Ld.part (hay _ q2) 0 1 (by decide)); exact same0)) | (apply WOps.ldG; rfl; rfl; exact h4; rfl) | (apply app_step (u := e'); rfl; rfl; exact t1; exact o9; rfl; omega; intro v2 h2 H2 o2 t2; obtain ⟨vv, m0, m1, m2, r1, r2⟩ := t2.rd (B := B)) | (apply WOps.ldG; rfl; rfl; exact m1; rfl) | (apply WOps.ixSl; rfl; rfl; rfl; exact r2; exact hcm; intro az haz) | (apply WOps.ldG; rfl; rfl; exact haz; rfl) | (apply app_step (u := es[i]); rfl; rfl; exact t2; exact o2; rfl; (rw [List.length_append, List.length_singleton]; omega); intro v3 h3 H3 o3 t3) | (apply WOps.ixSl; rfl; rfl; rfl; exact q2; exact hcm; intro ay hay) | (apply WOps.ldG; rfl; rfl; exact hay; rfl) | (apply app_step (u := es[i]); rfl; rfl; exact t1; exact o9; rfl; omega; intro v2 h2 H2 o2 t2) | (apply WOps.addN; rfl; rfl; rfl; omega) | (apply WOps.cmp; rfl; rfl; rfl; rfl; intro _ _) | (apply WOps.cmpT; rfl; rfl; rfl; rfl; intro _ _) | (apply WOps.purG; rfl; (intro _; rfl)) | (apply WOps.skp; rfl) | (apply WD.load; rfl; (first | (apply at1; (first | exact rd0 rfl rfl rfl | exact rd1 rfl rfl rfl | exact rd2 rfl rfl rfl); rfl) | (apply at2; (first | exact rd0 rfl rfl rfl | exact rd1 rfl rfl rfl | exact rd2 rfl rfl rfl); repeat' (first | exact same0 | (apply same1; (first | exact rd0 rfl rfl rfl | exact rd1 rfl rfl rfl | exact rd2 rfl rfl rfl); rfl) | (apply same2; (first | exact rd0 rfl rfl rfl | exact rd1 rfl rfl rfl | exact rd2 rfl rfl rfl)))))) | (apply WD.cmp; rfl; rfl; rfl; rfl; intro _ _) | (apply WD.cmpT; rfl; rfl; rfl; rfl; intro _ _) | (apply WD.pur; rfl; (intro _; rfl)) | (apply WD.skp; rfl) | (apply WD.skpL; rfl) | (apply WD.skpX; rfl) | (apply WOps.ask; rfl; all_goals (intro hb; first | subst hb | fail_if_success (cases hb))) | (apply WC.condA; rfl; all_goals (intro hb; try subst hb)) | (apply WD.ask; rfl; all_goals (intro hb; first | subst hb | fail_if_success (cases hb))))
    · have hq := ‹true = true ↔ cmpS BinOp.eql es[i].key e'.key›
      simp only [cmpS, true_iff, hek] at hq
      have := hab es[i] (by rw [List.drop_eq_getElem_cons hlt]; exact List.mem_cons_self)
      rw [hq, less_irr] at this; cases this
    · have hd := List.drop_eq_getElem_cons hlt
      refine WL.le (t' := [(0, .ptr ⟨false, w, 0⟩), (2, .int .u64 ix), (4, .ptr ⟨false, p4, 0⟩), (9, v2), (10, .bool true), (11, .int .i64 (.ofNat (i + 1)))]) (Sub1.cons rfl (Sub1.cons rfl (Sub1.cons rfl (Sub1.cons rfl (Sub1.cons rfl (Sub1.cons rfl Sub1.nil)))))) (ih _ (by omega) (i + 1) v2 (us ++ [es[i]]) h2 H2 true o2 t2 (.inr ⟨rfl, ?_, ?_⟩) (by rw [List.length_append, List.length_singleton]; omega) (by omega) rfl)
      · rw [← hput, hd]; simp
      · intro x hx
        exact hab x (by rw [hd]; exact List.mem_cons_of_mem _ hx)
  · have hge : i = es.length := by
      have h0 := eq_of_ff ‹false = true ↔ cmpP BinOp.lss (Int.ofNat i) (Int.ofNat (List.map entC es).length)›
      rw [List.length_map] at h0
      simp [cmpP] at h0; omega
    subst hge
    rw [List.drop_length, List.append_nil] at hput
    rw [hput] at o9
    obtain ⟨vv, hv, ov, qq⟩ := t1
    apply WOps.st (cs := tblC most vv last) (cs' := tblC most w9 last)
    · rfl
    · rfl
    · exact qq
    · rw [o9.cells]; rfl
    · rw [o9.cells]; exact allCell_cons o9.cell allCell_nil
    · rw [o9.cells]; rfl
    repeat' (first
      | apply WOps.nil | apply WC.seq | apply WC.reg | apply WC.skip | apply WC.ret | apply WC.exit | (apply WC.condT; rfl) | (apply WC.condF; rfl) | apply WC.block | apply WC.dreg | apply WD.nil | (apply WOps.ldG; rfl; rfl; (first | exact ld0 rfl | exact ld1 rfl | exact ld2 rfl); rfl) | (apply WOps.st; rfl; rfl; (first | exact tk0 | exact tk1 | exact tk2); rfl; (first | rfl | ((repeat' (first | exact ac0 | apply ac1)) <;> (first | rfl | assumption))); rfl) | (apply WOps.alc; rfl; intro _) | (apply WOps.bx; rfl; rfl; (first | rfl | ((repeat' (first | exact ac0 | apply ac1)) <;> (first | rfl | assumption))); intro _) | (apply WOps.bsl; rfl; (first | rfl | ((repeat' (first | exact ac0 | apply ac1)) <;> (first | rfl | assumption))); intro _) | (apply WD.st; rfl; rfl; rfl; (first | exact tk0 | exact tk1 | exact tk2); rfl; (first | rfl | ((repeat' (first | exact ac0 | apply ac1)) <;> (first | rfl | assumption))); rfl) | (apply WD.alc; rfl; rfl; intro _) | (apply WD.bsl; rfl; rfl; (first | rfl | ((repeat' (first | exact ac0 | apply ac1)) <;> (first | rfl | assumption))); intro _) | (apply WOps.clA; rfl; rfl; exact raise131_tk; rintro _ _ rfl) | (apply WOps.cmp; rfl; rfl; rfl; rfl; intro _ _) | (apply WOps.cmpT; rfl; rfl; rfl; rfl; intro _ _) | (apply WOps.purG; rfl; (intro _; rfl)) | (apply WOps.skp; rfl) | (apply WD.load; rfl; (first | (apply at1; (first | exact rd0 rfl rfl rfl | exact rd1 rfl rfl rfl | exact rd2 rfl rfl rfl); rfl) | (apply at2; (first | exact rd0 rfl rfl rfl | exact rd1 rfl rfl rfl | exact rd2 rfl rfl rfl); repeat' (first | exact same0 | (apply same1; (first | exact rd0 rfl rfl rfl | exact rd1 rfl rfl rfl | exact rd2 rfl rfl rfl); rfl) | (apply same2; (first | exact rd0 rfl rfl rfl | exact rd1 rfl rfl rfl | exact rd2 rfl rfl rfl)))))) | (apply WD.cmp; rfl; rfl; rfl; rfl; intro _ _) | (apply WD.cmpT; rfl; rfl; rfl; rfl; intro _ _) | (apply WD.pur; rfl; (intro _; rfl)) | (apply WD.skp; rfl) | (apply WD.skpL; rfl) | (apply WD.skpX; rfl) | (apply WOps.ask; rfl; all_goals (intro hb; first | subst hb | fail_if_success (cases hb))) | (apply WC.condA; rfl; all_goals (intro hb; try subst hb)) | (apply WD.ask; rfl; all_goals (intro hb; first | subst hb | fail_if_success (cases hb))))
    exact ⟨trivial, [_], ⟨_, [], rfl, rfl, rfl⟩, _, .inr ⟨hnf, rfl, w9, hw, o9, List.Perm.refl _⟩, subF (by intro f; simp only [AV.cells, List.append_eq, List.map_cons, List.map_nil, List.sum_nil, List.map_append, List.sum_cons, List.sum_append, List.cons_append, List.nil_append, List.append_assoc, List.append_nil]; omega)⟩
theorem app_step0 {t : EL} {Q : EL → HL → Prop} {os : List AOper} {k w most q : Nat} {x y : AO} {w9 : AV} {H1 hw R : HL} {es us : List E} {last : Int} {u : E} {c : List AV} (hx : gl t x = some w9) (hy : gl t y = some (.sl ⟨false, q, 0⟩ 1 6))
    (t1 : RfAt H1 w most es last (hw ++ R)) (o9 : OwnSl w9 (us.map entC).flatten us.length 6 hw) (hc : c = entC u) (hu : us.length ≤ 1100)
    (h : ∀ v2 h2 H2, OwnSl v2 ((us ++ [u]).map entC).flatten (us ++ [u]).length 6 h2 → RfAt H2 w most es last (h2 ++ R) → WOps B tab os ((k, v2) :: t) H2 Q) :
    WOps B tab (⟨some k, .append 6 64 x y, none⟩ :: os) t ((q, .row c) :: H1) Q := by
  subst hc
  obtain ⟨Rest, pr, ht⟩ := (t1.cons (x := (q, .row (entC u)))).part (hw := hw) (X := R) (X' := [(q, .row (entC u))]) (permF (by intro f; simp only [AV.cells, List.append_eq, List.map_cons, List.map_nil, List.sum_nil, List.map_append, List.sum_cons, List.sum_append, List.cons_append, List.nil_append, List.append_assoc, List.append_nil]; omega))
  refine WOps.app (n := us.length) rfl hx hy o9 pr (src_one Tk.head rfl) (ents_cell _) rfl rfl (by omega) ?_
  intro v2 h2 o2
  obtain ⟨H3, t4, s4⟩ := (ht h2).less (R1 := h2 ++ R) (subF (by intro f; simp only [AV.cells, List.append_eq, List.map_cons, List.map_nil, List.sum_nil, List.map_append, List.sum_cons, List.sum_append, List.cons_append, List.nil_append, List.append_assoc, List.append_nil]; omega))
  refine WOps.lessP s4 (h v2 h2 H3 ?_ t4)
  rw [ents_app, List.length_append]
  exact o2
theorem drop_app {A : List E} {x : E} {key : List Nat} : (x.key = key → dropE (A ++ [x]) key = dropE A key) ∧ (¬ x.key = key → dropE (A ++ [x]) key = dropE A key ++ [x]) := by
  induction A with
  | nil => exact ⟨fun h => by simp [dropE, h], fun h => by simp [dropE, h]⟩
  | cons y A ih =>
    simp only [List.cons_append, dropE]
    split
    · exact ih
    · exact ⟨fun h => by rw [ih.1 h], fun h => by rw [ih.2 h]; rfl⟩
set_option maxHeartbeats 2000000 in
theorem drop120_ok {H R : HL} {w most : Nat} {last ix : Int} {es : List E} {key : List Nat} (hn : es.length ≤ 999) (t : RfAt H w most es last R) :
    WF B tab (.func 120) [.ptr ⟨false, w, 0⟩, .str key, .int .u64 ix] H fun r H' => RfAt H' w most (dropE es key) (maxI last ix) R := by
  refine WF.lessP ?_
  refine WF.fn g120 rfl ?_
  repeat' (first
    | apply WOps.nil | apply WC.seq | apply WC.reg | apply WC.skip | apply WC.ret | apply WC.exit | (apply WC.condT; rfl) | (apply WC.condF; rfl) | apply WC.block | (apply WOps.ldG; rfl; rfl; (first | exact ld0 rfl | exact ld1 rfl | exact ld2 rfl); rfl) | (apply WOps.st; rfl; rfl; (first | exact tk0 | exact tk1 | exact tk2); rfl; (first | rfl | ((repeat' (first | exact ac0 | apply ac1)) <;> (first | rfl | assumption))); rfl) | (apply WOps.bsl; rfl; (first | rfl | ((repeat' (first | exact ac0 | apply ac1)) <;> (first | rfl | assumption))); intro _) | (apply WOps.cmp; rfl; rfl; rfl; rfl; intro _ _) | (apply WOps.cmpT; rfl; rfl; rfl; rfl; intro _ _) | (apply WOps.purG; rfl; (intro _; rfl)) | (apply WC.condA; rfl; all_goals (intro hb; try subst hb)))
  refine WC.loop ?_
  obtain ⟨i, hi⟩ : ∃ i : Nat, i = 0 := ⟨0, rfl⟩
  obtain ⟨w6, hw6⟩ : ∃ v, v = AV.nilsl := ⟨_, rfl⟩
  obtain ⟨hw, hhw⟩ : ∃ h : HL, h = [] := ⟨_, rfl⟩
  obtain ⟨H1, hH1⟩ : ∃ h : HL, h = H := ⟨_, rfl⟩
  refine WL.le (t' := [(0, .ptr ⟨false, w, 0⟩), (1, .str key), (2, .int .u64 ix), (6, w6), (7, .int .i64 (.ofNat i))]) (by subst hi; subst hw6; exact Sub1.cons rfl (Sub1.cons rfl (Sub1.cons rfl (Sub1.cons rfl (Sub1.cons rfl Sub1.nil))))) ?_
  refine WL.heq (H' := H1) hH1.symm ?_
  have o6 : OwnSl w6 ((dropE (es.take i) key).map entC).flatten (dropE (es.take i) key).length 6 hw := by subst hi; exact .inl ⟨hw6, rfl, rfl, hhw⟩
  have t1 : RfAt H1 w most es last (hw ++ R) := by subst hhw hH1; exact t
  have hle : i ≤ es.length := by omega
  clear hi hw6 hhw hH1
  induction hk : es.length - i using Nat.strongRecOn generalizing i w6 hw H1 with | _ k ih => ?_
  obtain ⟨v1, k0, k1, k2, q1, q2⟩ := t1.rd (B := B)
  apply WL.step
  repeat' (first
    | apply WOps.nil | apply WC.seq | apply WC.reg | apply WC.skip | apply WC.ret | apply WC.exit | (apply WC.condT; rfl) | (apply WC.condF; rfl) | apply WC.block | (apply WOps.ldG; rfl; rfl; (first | exact ld0 rfl | exact ld1 rfl | exact ld2 rfl); rfl) | (apply WOps.st; rfl; rfl; (first | exact tk0 | exact tk1 | exact tk2); rfl; (first | rfl | ((repeat' (first | exact ac0 | apply ac1)) <;> (first | rfl | assumption))); rfl) | (apply WOps.bsl; rfl; (first | rfl | ((repeat' (first | exact ac0 | apply ac1)) <;> (first | rfl | assumption))); intro _) | (apply WOps.ldG; rfl; rfl; exact k1; rfl) | (apply WOps.lenS; rfl; rfl; exact q2) | (apply WOps.cmp; rfl; rfl; rfl; rfl; intro _ _) | (apply WOps.cmpT; rfl; rfl; rfl; rfl; intro _ _) | (apply WOps.purG; rfl; (intro _; rfl)) | (apply WC.condA; rfl; all_goals (intro hb; try subst hb)))
  · have hlt : i < es.length := by
      have h0 := ‹true = true ↔ cmpP BinOp.lss (Int.ofNat i) (Int.ofNat (List.map entC es).length)›
      rw [List.length_map] at h0
      simp [cmpP] at h0; omega
    have hcm : (es.map entC)[i]? = some (entC es[i]) := by rw [List.getElem?_map, List.getElem?_eq_getElem hlt]; rfl
    have hdl : (dropE (es.take i) key).length ≤ 999 := by
      have := drop_len (es := es.take i) (key := key)
      rw [List.length_take] at this
      omega
    have htk : es.take (i + 1) = es.take i ++ [es[i]] := List.take_succ_eq_append_getElem hlt
    have hda := drop_app (A := es.take i) (x := es[i]) (key := key)
    rw [← htk] at hda
    repeat' (first
      | apply WOps.nil | apply WC.seq | apply WC.reg | apply WC.skip | apply WC.ret | apply WC.exit | (apply WC.condT; rfl) | (apply WC.condF; rfl) | apply WC.block | (apply WOps.ldG; rfl; rfl; (first | exact ld0 rfl | exact ld1 rfl | exact ld2 rfl); rfl) | (apply WOps.st; rfl; rfl; (first | exact tk0 | exact tk1 | exact tk2); rfl; (first | rfl | ((repeat' (first | exact ac0 | apply ac1)) <;> (first | rfl | assumption))); rfl) | (apply WOps.bsl; rfl; (first | rfl | ((repeat' (first | exact ac0 | apply ac1)) <;> (first | rfl | assumption))); intro _) | (apply WOps.ldG; rfl; rfl; exact k1; rfl) | (apply WOps.ixSl; rfl; rfl; rfl; exact q2; exact hcm; intro ax hax) | (apply WOps.ldG; rfl; rfl; exact Ld.part hax 0 1 (by decide); rfl) | (apply WOps.ldG; rfl; rfl; exact hax; rfl) | (apply app_step0 (u := es[i]); rfl; rfl; exact t1; exact o6; rfl; omega; intro v2 h2 H2 o2 t2) | (apply WOps.addN; rfl; rfl; rfl; omega) | (apply WOps.cmp; rfl; rfl; rfl; rfl; intro _ _) | (apply WOps.cmpT; rfl; rfl; rfl; rfl; intro _ _) | (apply WOps.purG; rfl; (intro _; rfl)) | (apply WC.condA; rfl; all_goals (intro hb; try subst hb)))
    · have hq := ‹true = true ↔ cmpS BinOp.neq es[i].key key›
      simp only [cmpS, true_iff] at hq
      refine WL.le (t' := [(0, .ptr ⟨false, w, 0⟩), (1, .str key), (2, .int .u64 ix), (6, v2), (7, .int .i64 (.ofNat (i + 1)))]) (Sub1.cons rfl (Sub1.cons rfl (Sub1.cons rfl (Sub1.cons rfl (Sub1.cons rfl Sub1.nil))))) (ih _ (by omega) (i + 1) v2 h2 H2 ?_ t2 (by omega) rfl)
      rw [hda.2 hq]; exact o2
    · have hq := eq_of_ff ‹false = true ↔ cmpS BinOp.neq es[i].key key›
      simp only [cmpS, Decidable.not_not] at hq
      refine WL.le (t' := [(0, .ptr ⟨false, w, 0⟩), (1, .str key), (2, .int .u64 ix), (6, w6), (7, .int .i64 (.ofNat (i + 1)))]) (Sub1.cons rfl (Sub1.cons rfl (Sub1.cons rfl (Sub1.cons rfl (Sub1.cons rfl Sub1.nil))))) (ih _ (by omega) (i + 1) w6 hw H1 ?_ t1 (by omega) rfl)
      rw [hda.1 hq]; exact o6
  · have hge : i = es.length := by
      have h0 := eq_of_ff ‹false = true ↔ cmpP BinOp.lss (Int.ofNat i) (Int.ofNat (List.map entC es).length)›
      rw [List.length_map] at h0
      simp [cmpP] at h0; omega
    subst hge
    rw [List.take_length] at o6
    obtain ⟨vv, hv, ov, qq⟩ := t1
    apply WOps.st (cs := tblC most vv last) (cs' := tblC most w6 last)
    · rfl
    · rfl
    · exact qq
    · rw [o6.cells]; rfl
    · rw [o6.cells]; exact allCell_cons o6.cell allCell_nil
    · rw [o6.cells]; rfl
    repeat' (first
      | apply WOps.nil | apply WC.seq | apply WC.reg | apply WC.skip | apply WC.ret | apply WC.exit | (apply WC.condT; rfl) | (apply WC.condF; rfl) | apply WC.block | (apply WOps.ldG; rfl; rfl; (first | exact ld0 rfl | exact ld1 rfl | exact ld2 rfl); rfl) | (apply WOps.st; rfl; rfl; (first | exact tk0 | exact tk1 | exact tk2); rfl; (first | rfl | ((repeat' (first | exact ac0 | apply ac1)) <;> (first | rfl | assumption))); rfl) | (apply WOps.bsl; rfl; (first | rfl | ((repeat' (first | exact ac0 | apply ac1)) <;> (first | rfl | assumption))); intro _) | (apply WOps.clA; rfl; rfl; exact raise131_tk; rintro _ _ rfl) | (apply WOps.cmp; rfl; rfl; rfl; rfl; intro _ _) | (apply WOps.cmpT; rfl; rfl; rfl; rfl; intro _ _) | (apply WOps.purG; rfl; (intro _; rfl)) | (apply WC.condA; rfl; all_goals (intro hb; try subst hb)))
    exact ⟨trivial, [], rfl, _, ⟨w6, hw, o6, List.Perm.refl _⟩, subF (by intro f; simp only [AV.cells, List.append_eq, List.map_cons, List.map_nil, List.sum_nil, List.map_append, List.sum_cons, List.sum_append, List.cons_append, List.nil_append, List.append_assoc, List.append_nil]; omega)⟩
theorem list80_ok {H R : HL} {w most : Nat} {last : Int} {es : List E} {pre : List Nat} (hn : es.length ≤ 999) (hp : pre.length ≤ 9223372036854775807) (t : RfAt H w most es last R) :
    WF B tab (.func 80) [.ptr ⟨false, w, 0⟩, .str pre] H fun r H' => ∃ hw, OwnSl r ((under pre es).map entC).flatten (under pre es).length 6 hw ∧ RfAt H' w most es last (hw ++ R) := by
  refine WF.lessP ?_
  refine WF.fn g80 rfl ?_
  repeat' (first
    | apply WOps.nil | apply WC.seq | apply WC.reg | apply WC.skip | apply WC.ret | apply WC.exit | (apply WC.condT; rfl) | (apply WC.condF; rfl) | apply WC.block | (apply WOps.ldG; rfl; rfl; (first | exact ld0 rfl | exact ld1 rfl | exact ld2 rfl); rfl) | (apply WOps.bsl; rfl; (first | rfl | ((repeat' (first | exact ac0 | apply ac1)) <;> (first | rfl | assumption))); intro _) | (apply WOps.cmp; rfl; rfl; rfl; rfl; intro _ _) | (apply WOps.cmpT; rfl; rfl; rfl; rfl; intro _ _) | (apply WOps.purG; rfl; (intro _; rfl)) | (apply WC.condA; rfl; all_goals (intro hb; try subst hb)))
  refine WC.loop ?_
  obtain ⟨i, hi⟩ : ∃ i : Nat, i = 0 := ⟨0, rfl⟩
  obtain ⟨w6, hw6⟩ : ∃ v, v = AV.nilsl := ⟨_, rfl⟩
  obtain ⟨hw, hhw⟩ : ∃ h : HL, h = [] := ⟨_, rfl⟩
  obtain ⟨H1, hH1⟩ : ∃ h : HL, h = H := ⟨_, rfl⟩
  refine WL.le (t' := [(0, .ptr ⟨false, w, 0⟩), (1, .str pre), (5, w6), (6, .int .i64 (.ofNat i))]) (by subst hi; subst hw6; exact Sub1.cons rfl (Sub1.cons rfl (Sub1.cons rfl (Sub1.cons rfl Sub1.nil)))) ?_
  refine WL.heq (H' := H1) hH1.symm ?_
  have o6 : OwnSl w6 ((under pre (es.take i)).map entC).flatten (under pre (es.take i)).length 6 hw := by subst hi; exact .inl ⟨hw6, rfl, rfl, hhw⟩
  have t1 : RfAt H1 w most es last (hw ++ R) := by subst hhw hH1; exact t
  have hle : i ≤ es.length := by omega
  clear hi hw6 hhw hH1
  induction hk : es.length - i using Nat.strongRecOn generalizing i w6 hw H1 with | _ k ih => ?_
  obtain ⟨v1, k0, k1, k2, q1, q2⟩ := t1.rd (B := B)
  apply WL.step
  repeat' (first
    | apply WOps.nil | apply WC.seq | apply WC.reg | apply WC.skip | apply WC.ret | apply WC.exit | (apply WC.condT; rfl) | (apply WC.condF; rfl) | apply WC.block | (apply WOps.ldG; rfl; rfl; (first | exact ld0 rfl | exact ld1 rfl | exact ld2 rfl); rfl) | (apply WOps.bsl; rfl; (first | rfl | ((repeat' (first | exact ac0 | apply ac1)) <;> (first | rfl | assumption))); intro _) | (apply WOps.ldG; rfl; rfl; exact k1; rfl) | (apply WOps.lenS; rfl; rfl; exact q2) | (apply WOps.cmp; rfl; rfl; rfl; rfl; intro _ _) | (apply WOps.cmpT; rfl; rfl; rfl; rfl; intro _ _) | (apply WOps.purG; rfl; (intro _; rfl)) | (apply WC.condA; rfl; all_goals (intro hb; try subst hb)))
  · have hlt : i < es.length := by
      have h0 := ‹true = true ↔ cmpP BinOp.lss (Int.ofNat i) (Int.ofNat (List.map entC es).length)›
      rw [List.length_map] at h0
      simp [cmpP] at h0; omega
    have hcm : (es.map entC)[i]? = some (entC es[i]) := by rw [List.getElem?_map, List.getElem?_eq_getElem hlt]; rfl
    have hdl : (under pre (es.take i)).length ≤ 999 := by
      have := under_len (pre := pre) (es := es.take i)
      rw [List.length_take] at this
      omega
    have hda := under_take (pre := pre) hlt
    repeat' (first
      | apply WOps.nil | apply WC.seq | apply WC.reg | apply WC.skip | apply WC.ret | apply WC.exit | (apply WC.condT; rfl) | (apply WC.condF; rfl) | apply WC.block | (apply WOps.ldG; rfl; rfl; (first | exact ld0 rfl | exact ld1 rfl | exact ld2 rfl); rfl) | (apply WOps.bsl; rfl; (first | rfl | ((repeat' (first | exact ac0 | apply ac1)) <;> (first | rfl | assumption))); intro _) | (apply WOps.ldG; rfl; rfl; exact k1; rfl) | (apply WOps.ixSl; rfl; rfl; rfl; exact q2; exact hcm; intro ax hax) | (apply WOps.ldG; rfl; rfl; exact Ld.part hax 0 1 (by decide); rfl) | (apply WOps.ldG; rfl; rfl; exact hax; rfl) | (apply WOps.clR; rfl; rfl; exact under124_ok _ _ hp; rintro _ ⟨b, rfl, hb⟩; cases b) | (apply app_step0 (u := es[i]); rfl; rfl; exact t1; exact o6; rfl; omega; intro v2 h2 H2 o2 t2) | (apply WOps.addN; rfl; rfl; rfl; omega) | (apply WOps.cmp; rfl; rfl; rfl; rfl; intro _ _) | (apply WOps.cmpT; rfl; rfl; rfl; rfl; intro _ _) | (apply WOps.purG; rfl; (intro _; rfl)) | (apply WC.condA; rfl; all_goals (intro hb; try subst hb)))
    · refine WL.le (t' := [(0, .ptr ⟨false, w, 0⟩), (1, .str pre), (5, w6), (6, .int .i64 (.ofNat (i + 1)))]) (Sub1.cons rfl (Sub1.cons rfl (Sub1.cons rfl (Sub1.cons rfl Sub1.nil)))) (ih _ (by omega) (i + 1) w6 hw H1 ?_ t1 (by omega) rfl)
      rw [hda.2 (eq_of_ff hb)]; exact o6
    · refine WL.le (t' := [(0, .ptr ⟨false, w, 0⟩), (1, .str pre), (5, v2), (6, .int .i64 (.ofNat (i + 1)))]) (Sub1.cons rfl (Sub1.cons rfl (Sub1.cons rfl (Sub1.cons rfl Sub1.nil)))) (ih _ (by omega) (i + 1) v2 h2 H2 ?_ t2 (by omega) rfl)
      rw [hda.1 (hb.1 rfl)]; exact o2
  · have hge : i = es.length := by
      have h0 := eq_of_ff ‹false = true ↔ cmpP BinOp.lss (Int.ofNat i) (Int.ofNat (List.map entC es).length)›
      rw [List.length_map] at h0
      simp [cmpP] at h0; omega
    subst hge
    rw [List.take_length] at o6
    exact ⟨trivial, [_], ⟨_, [], rfl, rfl, rfl⟩, _, ⟨hw, o6, t1⟩, SubP.refl⟩
def RvAt (H : HL) (w most : Nat) (s : S) (R : HL) : Prop := RfAt H w most s.es s.last R
theorem put89_s {H R : HL} {w most : Nat} {s : S} {ix : Int} {e : E} (hn : s.es.length ≤ 999) (so : Rise s.es) (t : RvAt H w most s R) :
    WF B tab (.func 89) [.ptr ⟨false, w, 0⟩, .agg (entC e), .int .u64 ix] H fun r H' => r = .int .i64 (.ofNat (putS most s e ix).2) ∧ RvAt H' w most (putS most s e ix).1 R := by
  refine WF.mono (put89_ok hn so t) ?_
  rintro r H' (⟨h, rfl, t1⟩ | ⟨h, rfl, t1⟩)
  · have : putS most s e ix = (s, 5) := by simp only [putS, if_pos (fullB_iff.2 h)]
    rw [this]; exact ⟨rfl, t1⟩
  · have : putS most s e ix = (⟨putE s.es (atIx e ix), maxI s.last ix⟩, 0) := by simp only [putS, if_neg (fun k => h (fullB_iff.1 k))]
    rw [this]; exact ⟨rfl, t1⟩
theorem RvAt.cons {H R : HL} {w most : Nat} {s : S} {x : Nat × AObj} (t : RvAt H w most s R) : RvAt (x :: H) w most s (x :: R) := RfAt.cons t
theorem RvAt.less {H R R1 : HL} {w most : Nat} {s : S} (t : RvAt H w most s R) (p : SubP R1 R) : ∃ H3, RvAt H3 w most s R1 ∧ SubP H3 H := RfAt.less t p
theorem get29_s {H R : HL} {w most : Nat} {s : S} {key : List Nat} (hn : s.es.length ≤ 999) (so : Rise s.es) (t : RvAt H w most s R) :
    WF B tab (.func 29) [.ptr ⟨false, w, 0⟩, .str key] H fun r H' => H' = H ∧ r = .tup [.agg (entC (lookE s.es key)), .bool (isE s.es key)] := get29_at (by omega) so t
section ops
variable {H R : HL} {w most : Nat} {s : S} {key v : List Nat} {ix : Int}
theorem app_no {asks : List (E → Bool → Nat)} {d : Option (E → E)} (h : ¬ keyP key) : applyS most s key asks d ix = (s, 10) := by simp only [applyS, if_neg h]
theorem app_bad {asks : List (E → Bool → Nat)} {d : Option (E → E)} {n : Nat} (h : keyP key) (hb : firstBad asks (lookE s.es key) (isE s.es key) = n) (hn : n ≠ 0) : applyS most s key asks d ix = (s, n) := by simp only [applyS, if_pos h, hb, if_neg hn]
theorem app_put {asks : List (E → Bool → Nat)} {f : E → E} (h : keyP key) (hb : firstBad asks (lookE s.es key) (isE s.es key) = 0) : applyS most s key asks (some f) ix = putS most s (f { lookE s.es key with key := key }) ix := by simp only [applyS, if_pos h, hb, if_true]
theorem app_drop {asks : List (E → Bool → Nat)} (h : keyP key) (hb : firstBad asks (lookE s.es key) (isE s.es key) = 0) : applyS most s key asks none ix = (dropS s key ix, 0) := by simp only [applyS, if_pos h, hb, if_true]
theorem fb1 {f : E → Bool → Nat} {e : E} {b : Bool} : firstBad [f] e b = f e b := by
  simp only [firstBad]
  split
  · rename_i h; exact h.symm
  · rfl
theorem fb_zero {f : E → Bool → Nat} {l : List (E → Bool → Nat)} {e : E} {b : Bool} (h : f e b = 0) : firstBad (f :: l) e b = firstBad l e b := by simp only [firstBad, h, if_true]
theorem short_bad {l : List (E → Bool → Nat)} {e : E} {b : Bool} (h : ¬ v.length ≤ 64) : firstBad (shortF v :: l) e b = 3 := by simp only [firstBad, shortF, if_neg h]; rfl
theorem short_good {l : List (E → Bool → Nat)} {e : E} {b : Bool} (h : v.length ≤ 64) : firstBad (shortF v :: l) e b = firstBad l e b := by simp only [firstBad, shortF, if_pos h, if_true]
theorem set71_ok (hn : s.es.length ≤ 999) (so : Rise s.es) (t : RvAt H w most s R) :
    WF B tab (.func 71) [.ptr ⟨false, w, 0⟩, .str key, .str v, .int .u64 ix] H fun r H' => r = .int .i64 (.ofNat (setS most s key v ix).2) ∧ RvAt H' w most (setS most s key v ix).1 R := by
  refine WF.lessP ?_
  refine WF.fn g71 rfl ?_
  unfold setS
  repeat' (first
    | apply WOps.nil | apply WC.seq | apply WC.reg | apply WC.skip | apply WC.ret | (apply WC.condT; rfl) | (apply WC.condF; rfl) | (apply WOps.ldG; rfl; rfl; (first | exact ld0 rfl | exact ld1 rfl | exact ld2 rfl); rfl) | (apply WOps.st; rfl; rfl; (first | exact tk0 | exact tk1 | exact tk2); rfl; (first | rfl | ((repeat' (first | exact ac0 | apply ac1)) <;> (first | rfl | assumption))); rfl) | (apply WOps.alc; rfl; intro _) | (apply WOps.clR; rfl; rfl; exact wrong64_ok _ _; rintro _ (⟨hk, rfl⟩ | ⟨hk, hv, rfl⟩ | ⟨hk, hv, rfl⟩)) | (apply WOps.clR; rfl; rfl; exact get29_s hn so t; rintro _ rfl) | (apply WOps.neqF; rfl; rfl; rfl; decide) | (apply WOps.neqT; rfl; rfl; rfl; decide) | (apply WOps.eqlF; rfl; rfl; rfl; decide) | (apply WOps.eqlT; rfl; rfl; rfl; decide) | (apply WOps.cmp; rfl; rfl; rfl; rfl; intro _ _) | (apply WOps.cmpT; rfl; rfl; rfl; rfl; intro _ _) | (apply WOps.purG; rfl; (intro _; rfl)) | (apply WC.condA; rfl; all_goals (intro hb; try subst hb)))
  · rw [app_no hk]
    exact ⟨trivial, [_], ⟨_, [], rfl, rfl, rfl⟩, H, ⟨rfl, t⟩, SubP.refl⟩
  · rw [app_bad hk (short_bad hv) (by decide)]
    exact ⟨trivial, [_], ⟨_, [], rfl, rfl, rfl⟩, H, ⟨rfl, t⟩, SubP.refl⟩
  · rw [app_put hk (by rw [short_good hv]; rfl)]
    repeat' (first
      | apply WOps.nil | apply WC.seq | apply WC.reg | apply WC.skip | apply WC.ret | (apply WC.condT; rfl) | (apply WC.condF; rfl) | (apply WOps.ldG; rfl; rfl; (first | exact ld0 rfl | exact ld1 rfl | exact ld2 rfl); rfl) | (apply WOps.st; rfl; rfl; (first | exact tk0 | exact tk1 | exact tk2); rfl; (first | rfl | ((repeat' (first | exact ac0 | apply ac1)) <;> (first | rfl | assumption))); rfl) | (apply WOps.alc; rfl; intro _) | (apply WOps.clA; rfl; rfl; exact put89_s (e := valD v { lookE s.es key with key := key }) hn so t.cons; rintro _ H1 ⟨rfl, t1⟩) | (apply WOps.neqF; rfl; rfl; rfl; decide) | (apply WOps.neqT; rfl; rfl; rfl; decide) | (apply WOps.eqlF; rfl; rfl; rfl; decide) | (apply WOps.eqlT; rfl; rfl; rfl; decide) | (apply WOps.cmp; rfl; rfl; rfl; rfl; intro _ _) | (apply WOps.cmpT; rfl; rfl; rfl; rfl; intro _ _) | (apply WOps.purG; rfl; (intro _; rfl)) | (apply WC.condA; rfl; all_goals (intro hb; try subst hb)))
    obtain ⟨H3, t3, s3⟩ := t1.less (R1 := R) (subF (by intro f; simp only [AV.cells, List.append_eq, List.map_cons, List.map_nil, List.sum_nil, List.map_append, List.sum_cons, List.sum_append, List.cons_append, List.nil_append, List.append_assoc, List.append_nil]; omega))
    exact ⟨trivial, [_], ⟨_, [], rfl, rfl, rfl⟩, H3, ⟨rfl, t3⟩, s3⟩
theorem cas_bad {old : Int} (hk : keyP key) (hv : v.length ≤ 64) (h : (isE s.es key = true ∧ old = 0) ∨ (¬ old = 0 ∧ (isE s.es key = false ∨ ¬ (lookE s.es key).ix = old))) : applyS most s key [shortF v, turnF old] (some (valD v)) ix = (s, 21) := by
  refine app_bad hk ?_ (by decide)
  rw [short_good hv, fb1]
  unfold turnF
  rw [if_neg]
  · rintro ⟨h1, h2⟩
    rcases h with ⟨h3, h4⟩ | ⟨h3, h4 | h4⟩
    · exact h1.1 h3 h4
    · have := h1.2 h3
      rw [h4] at this; cases this
    · exact h4 h2
theorem cas_good {old : Int} (hk : keyP key) (hv : v.length ≤ 64) (hi : isE s.es key = false → lookE s.es key = e0) (h : (isE s.es key = false ∧ old = 0) ∨ (¬ old = 0 ∧ isE s.es key = true ∧ (lookE s.es key).ix = old)) : applyS most s key [shortF v, turnF old] (some (valD v)) ix = setS most s key v ix := by
  unfold setS
  rw [app_put (asks := [shortF v]) hk (by rw [short_good hv]; rfl), app_put hk]
  rw [short_good hv, fb1]
  unfold turnF
  rw [if_pos]
  · rcases h with ⟨h3, h4⟩ | ⟨h3, h4, h5⟩
    · rw [hi h3, h3]
      exact ⟨⟨(fun h => by cases h), fun h => absurd h4 h⟩, h4.symm⟩
    · exact ⟨⟨fun _ => h3, fun _ => h4⟩, h5⟩
set_option maxHeartbeats 2000000 in
theorem cas72_ok {old : Int} (hn : s.es.length ≤ 999) (so : Rise s.es) (t : RvAt H w most s R) :
    WF B tab (.func 72) [.ptr ⟨false, w, 0⟩, .str key, .str v, .int .u64 old, .int .u64 ix] H fun r H' => r = .int .i64 (.ofNat (casS most s key v old ix).2) ∧ RvAt H' w most (casS most s key v old ix).1 R := by
  refine WF.lessP ?_
  refine WF.fn g72 rfl ?_
  unfold casS
  have hi : isE s.es key = false → lookE s.es key = e0 := by
    intro h
    unfold isE at h
    unfold lookE
    cases hf : findE s.es key with
    | none => rfl
    | some x => simp [hf] at h
  repeat' (first
    | apply WOps.nil | apply WC.seq | apply WC.reg | apply WC.skip | apply WC.ret | (apply WC.condT; rfl) | (apply WC.condF; rfl) | (apply WOps.ldG; rfl; rfl; (first | exact ld0 rfl | exact ld1 rfl | exact ld2 rfl); rfl) | (apply WOps.st; rfl; rfl; (first | exact tk0 | exact tk1 | exact tk2); rfl; (first | rfl | ((repeat' (first | exact ac0 | apply ac1)) <;> (first | rfl | assumption))); rfl) | (apply WOps.alc; rfl; intro _) | (apply WOps.clR; rfl; rfl; exact wrong64_ok _ _; rintro _ (⟨hk, rfl⟩ | ⟨hk, hv, rfl⟩ | ⟨hk, hv, rfl⟩)) | (apply WOps.clR; rfl; rfl; exact get29_s hn so t; rintro _ rfl; generalize hie : isE s.es key = ie; cases ie) | (apply WOps.clA; rfl; rfl; exact set71_ok hn so t.cons; rintro _ H1 ⟨rfl, t1⟩) | (apply WOps.neqF; rfl; rfl; rfl; decide) | (apply WOps.neqT; rfl; rfl; rfl; decide) | (apply WOps.eqlF; rfl; rfl; rfl; decide) | (apply WOps.eqlT; rfl; rfl; rfl; decide) | (apply WOps.cmp; rfl; rfl; rfl; rfl; intro _ _) | (apply WOps.cmpT; rfl; rfl; rfl; rfl; intro _ _) | (apply WOps.purG; rfl; (intro _; rfl)) | (apply WOps.skp; rfl) | (apply WOps.ask; rfl; all_goals (intro hb; first | subst hb | fail_if_success (cases hb))) | (apply WC.condA; rfl; all_goals (intro hb; try subst hb)))
  · rw [app_no hk]
    exact ⟨trivial, [_], ⟨_, [], rfl, rfl, rfl⟩, H, ⟨rfl, t⟩, SubP.refl⟩
  · rw [app_bad hk (short_bad hv) (by decide)]
    exact ⟨trivial, [_], ⟨_, [], rfl, rfl, rfl⟩, H, ⟨rfl, t⟩, SubP.refl⟩
  all_goals first
    | (exfalso; simp only [cmpP, Bool.false_eq_true, false_iff, true_iff, Decidable.not_not, (show Int.ofNat 0 = (0 : Int) from rfl)] at *; omega)
    | (rw [cas_bad hk hv (by rw [hie]; simp only [cmpP, Bool.false_eq_true, false_iff, true_iff, Decidable.not_not, (show Int.ofNat 0 = (0 : Int) from rfl)] at *; simp; omega)]
       obtain ⟨H3, t3, s3⟩ := t.cons.less (R1 := R) (subF (by intro f; simp only [AV.cells, List.append_eq, List.map_cons, List.map_nil, List.sum_nil, List.map_append, List.sum_cons, List.sum_append, List.cons_append, List.nil_append, List.append_assoc, List.append_nil]; omega))
       exact ⟨trivial, [_], ⟨_, [], rfl, rfl, rfl⟩, H3, ⟨rfl, t3⟩, s3⟩)
    | (rw [cas_good hk hv hi (by rw [hie]; simp only [cmpP, Bool.false_eq_true, false_iff, true_iff, Decidable.not_not, (show Int.ofNat 0 = (0 : Int) from rfl)] at *; simp; omega)]
       obtain ⟨H3, t3, s3⟩ := t1.less (R1 := R) (subF (by intro f; simp only [AV.cells, List.append_eq, List.map_cons, List.map_nil, List.sum_nil, List.map_append, List.sum_cons, List.sum_append, List.cons_append, List.nil_append, List.append_assoc, List.append_nil]; omega))
       exact ⟨trivial, [_], ⟨_, [], rfl, rfl, rfl⟩, H3, ⟨rfl, t3⟩, s3⟩)
theorem drop_is (h : isE s.es key = true) : dropS s key ix = ⟨dropE s.es key, maxI s.last ix⟩ := by
  unfold isE at h
  unfold dropS
  cases hf : findE s.es key with
  | none => simp [hf] at h
  | some x => rfl
set_option maxHeartbeats 2000000 in
theorem del74_ok {cas : Bool} {old : Int} (hn : s.es.length ≤ 999) (so : Rise s.es) (t : RvAt H w most s R) :
    WF B tab (.func 74) [.ptr ⟨false, w, 0⟩, .str key, .bool cas, .int .u64 old, .int .u64 ix] H fun r H' => r = .int .i64 (.ofNat (if cas = true then delCasS most s key old ix else delS most s key ix).2) ∧ RvAt H' w most (if cas = true then delCasS most s key old ix else delS most s key ix).1 R := by
  refine WF.lessP ?_
  refine WF.fn g74 rfl ?_
  unfold delCasS delS
  cases cas
  all_goals simp only [Bool.false_eq_true, if_false, if_true]
  all_goals
    repeat' (first
      | apply WOps.nil | apply WC.seq | apply WC.reg | apply WC.skip | apply WC.ret | (apply WC.condT; rfl) | (apply WC.condF; rfl) | (apply WOps.ldG; rfl; rfl; (first | exact ld0 rfl | exact ld1 rfl | exact ld2 rfl); rfl) | (apply WOps.st; rfl; rfl; (first | exact tk0 | exact tk1 | exact tk2); rfl; (first | rfl | ((repeat' (first | exact ac0 | apply ac1)) <;> (first | rfl | assumption))); rfl) | (apply WOps.alc; rfl; intro _) | (apply WOps.clR; rfl; rfl; exact wrong64_ok _ _; rintro _ (⟨hk, rfl⟩ | ⟨hk, hv, rfl⟩ | ⟨hk, hv, rfl⟩)) | (apply WOps.clR; rfl; rfl; exact get29_s hn so t; rintro _ rfl; generalize hie : isE s.es key = ie; cases ie) | (apply WOps.clA; rfl; rfl; exact drop120_ok hn t.cons; rintro _ H1 t1) | (apply WOps.neqF; rfl; rfl; rfl; decide) | (apply WOps.neqT; rfl; rfl; rfl; decide) | (apply WOps.eqlF; rfl; rfl; rfl; decide) | (apply WOps.eqlT; rfl; rfl; rfl; decide) | (apply WOps.cmp; rfl; rfl; rfl; rfl; intro _ _) | (apply WOps.cmpT; rfl; rfl; rfl; rfl; intro _ _) | (apply WOps.purG; rfl; (intro _; rfl)) | (apply WOps.skp; rfl) | (apply WOps.ask; rfl; all_goals (intro hb; first | subst hb | fail_if_success (cases hb))) | (apply WC.condA; rfl; all_goals (intro hb; try subst hb)))
  · rw [app_no hk]
    exact ⟨trivial, [_], ⟨_, [], rfl, rfl, rfl⟩, H, ⟨rfl, t⟩, SubP.refl⟩
  · exact absurd (by simp) hv
  · rw [app_bad (n := 4) hk (by simp [firstBad, thereF, hie]) (by decide)]
    (obtain ⟨H3, t3, s3⟩ := t.cons.less (R1 := R) (subF (by intro f; simp only [AV.cells, List.append_eq, List.map_cons, List.map_nil, List.sum_nil, List.map_append, List.sum_cons, List.sum_append, List.cons_append, List.nil_append, List.append_assoc, List.append_nil]; omega)); exact ⟨trivial, [_], ⟨_, [], rfl, rfl, rfl⟩, H3, ⟨rfl, t3⟩, s3⟩)
  · rw [app_drop hk (by simp [firstBad, thereF, hie]), drop_is hie]
    (obtain ⟨H3, t3, s3⟩ := RfAt.less t1 (R1 := R) (subF (by intro f; simp only [AV.cells, List.append_eq, List.map_cons, List.map_nil, List.sum_nil, List.map_append, List.sum_cons, List.sum_append, List.cons_append, List.nil_append, List.append_assoc, List.append_nil]; omega)); exact ⟨trivial, [_], ⟨_, [], rfl, rfl, rfl⟩, H3, ⟨rfl, t3⟩, s3⟩)
  · rw [app_no hk]
    exact ⟨trivial, [_], ⟨_, [], rfl, rfl, rfl⟩, H, ⟨rfl, t⟩, SubP.refl⟩
  · exact absurd (by simp) hv
  · rw [app_bad (n := 4) hk (by simp [firstBad, thereF, hie]) (by decide)]
    (obtain ⟨H3, t3, s3⟩ := t.cons.less (R1 := R) (subF (by intro f; simp only [AV.cells, List.append_eq, List.map_cons, List.map_nil, List.sum_nil, List.map_append, List.sum_cons, List.sum_append, List.cons_append, List.nil_append, List.append_assoc, List.append_nil]; omega)); exact ⟨trivial, [_], ⟨_, [], rfl, rfl, rfl⟩, H3, ⟨rfl, t3⟩, s3⟩)
  · have hq := ‹true = true ↔ cmpP BinOp.neq (lookE s.es key).ix old›
    simp only [cmpP, true_iff] at hq
    rw [app_bad (n := 21) hk (by simp [firstBad, thereF, sameF, hie, hq]) (by decide)]
    (obtain ⟨H3, t3, s3⟩ := t.cons.less (R1 := R) (subF (by intro f; simp only [AV.cells, List.append_eq, List.map_cons, List.map_nil, List.sum_nil, List.map_append, List.sum_cons, List.sum_append, List.cons_append, List.nil_append, List.append_assoc, List.append_nil]; omega)); exact ⟨trivial, [_], ⟨_, [], rfl, rfl, rfl⟩, H3, ⟨rfl, t3⟩, s3⟩)
  · have hq := eq_of_ff ‹false = true ↔ cmpP BinOp.neq (lookE s.es key).ix old›
    simp only [cmpP, Decidable.not_not] at hq
    rw [app_drop hk (by simp [firstBad, thereF, sameF, hie, hq]), drop_is hie]
    (obtain ⟨H3, t3, s3⟩ := RfAt.less t1 (R1 := R) (subF (by intro f; simp only [AV.cells, List.append_eq, List.map_cons, List.map_nil, List.sum_nil, List.map_append, List.sum_cons, List.sum_append, List.cons_append, List.nil_append, List.append_assoc, List.append_nil]; omega)); exact ⟨trivial, [_], ⟨_, [], rfl, rfl, rfl⟩, H3, ⟨rfl, t3⟩, s3⟩)
set_option maxHeartbeats 2000000 in
theorem lock32_ok {ses : Int} (hn : s.es.length ≤ 999) (so : Rise s.es) (t : RvAt H w most s R) :
    WF B tab (.func 32) [.ptr ⟨false, w, 0⟩, .str key, .str v, .int .u64 ses, .int .u64 ix] H fun r H' => r = .int .i64 (.ofNat (lockS most s key v ses ix).2) ∧ RvAt H' w most (lockS most s key v ses ix).1 R := by
  refine WF.lessP ?_
  refine WF.fn g32 rfl ?_
  unfold lockS
  repeat' (first
    | apply WOps.nil | apply WC.seq | apply WC.reg | apply WC.skip | apply WC.ret | (apply WC.condT; rfl) | (apply WC.condF; rfl) | (apply WOps.ldG; rfl; rfl; (first | exact ld0 rfl | exact ld1 rfl | exact ld2 rfl); rfl) | (apply WOps.st; rfl; rfl; (first | exact tk0 | exact tk1 | exact tk2); rfl; (first | rfl | ((repeat' (first | exact ac0 | apply ac1)) <;> (first | rfl | assumption))); rfl) | (apply WOps.alc; rfl; intro _) | (apply WOps.clR; rfl; rfl; exact wrong64_ok _ _; rintro _ (⟨hk, rfl⟩ | ⟨hk, hv, rfl⟩ | ⟨hk, hv, rfl⟩)) | (apply WOps.clR; rfl; rfl; exact get29_s hn so t; rintro _ rfl) | (apply WOps.neqF; rfl; rfl; rfl; decide) | (apply WOps.neqT; rfl; rfl; rfl; decide) | (apply WOps.eqlF; rfl; rfl; rfl; decide) | (apply WOps.eqlT; rfl; rfl; rfl; decide) | (apply WOps.cmp; rfl; rfl; rfl; rfl; intro _ _) | (apply WOps.cmpT; rfl; rfl; rfl; rfl; intro _ _) | (apply WOps.purG; rfl; (intro _; rfl)) | (apply WOps.skp; rfl) | (apply WOps.ask; rfl; all_goals (intro hb; first | subst hb | fail_if_success (cases hb))) | (apply WC.condA; rfl; all_goals (intro hb; try subst hb)))
  · rw [app_no hk]
    exact ⟨trivial, [_], ⟨_, [], rfl, rfl, rfl⟩, H, ⟨rfl, t⟩, SubP.refl⟩
  · rw [app_bad hk (short_bad hv) (by decide)]
    exact ⟨trivial, [_], ⟨_, [], rfl, rfl, rfl⟩, H, ⟨rfl, t⟩, SubP.refl⟩
  · have h1 := ‹true = true ↔ cmpP BinOp.eql ses (Int.ofNat 0)›
    simp only [cmpP, true_iff] at h1
    rw [app_bad (n := 2) hk (by rw [short_good hv, fb1]; unfold lockF; rw [if_pos (show ses = 0 from h1)]) (by decide)]
    exact ⟨trivial, [_], ⟨_, [], rfl, rfl, rfl⟩, H, ⟨rfl, t⟩, SubP.refl⟩
  · have h1 := eq_of_ff ‹false = true ↔ cmpP BinOp.eql ses (Int.ofNat 0)›
    have h2 := ‹true = true ↔ cmpP BinOp.neq (lookE s.es key).ses (Int.ofNat 0)›
    have h3 := ‹true = true ↔ cmpP BinOp.neq (lookE s.es key).ses ses›
    simp only [cmpP, true_iff] at h1 h2 h3
    rw [app_bad (n := 22) hk (by rw [short_good hv, fb1]; unfold lockF; rw [if_neg (show ¬ ses = 0 from h1), if_pos (show ¬ (lookE s.es key).ses = 0 ∧ ¬ (lookE s.es key).ses = ses from ⟨h2, h3⟩)]) (by decide)]
    (obtain ⟨H3, t3, s3⟩ := t.cons.less (R1 := R) (subF (by intro f; simp only [AV.cells, List.append_eq, List.map_cons, List.map_nil, List.sum_nil, List.map_append, List.sum_cons, List.sum_append, List.cons_append, List.nil_append, List.append_assoc, List.append_nil]; omega)); exact ⟨trivial, [_], ⟨_, [], rfl, rfl, rfl⟩, H3, ⟨rfl, t3⟩, s3⟩)
  · simp only [cmpP, Bool.false_eq_true, false_iff, true_iff, Decidable.not_not, (show Int.ofNat 0 = (0 : Int) from rfl)] at *
    omega
  · have h1 := eq_of_ff ‹false = true ↔ cmpP BinOp.eql ses (Int.ofNat 0)›
    have h3 := eq_of_ff ‹false = true ↔ cmpP BinOp.neq (lookE s.es key).ses ses›
    simp only [cmpP, Decidable.not_not] at h1 h3
    rw [app_put hk (by rw [short_good hv, fb1]; unfold lockF; rw [if_neg (show ¬ ses = 0 from h1), if_neg (fun h => h.2 h3)])]
    have hL : lockD ses v { lookE s.es key with key := key } = ⟨key, v, ses, (lookE s.es key).locks, (lookE s.es key).mke, (lookE s.es key).ix⟩ := by simp only [lockD, if_pos h3]
    rw [hL]
    repeat' (first
      | apply WOps.nil | apply WC.seq | apply WC.reg | apply WC.skip | apply WC.ret | (apply WC.condT; rfl) | (apply WC.condF; rfl) | (apply WOps.ldG; rfl; rfl; (first | exact ld0 rfl | exact ld1 rfl | exact ld2 rfl); rfl) | (apply WOps.st; rfl; rfl; (first | exact tk0 | exact tk1 | exact tk2); rfl; (first | rfl | ((repeat' (first | exact ac0 | apply ac1)) <;> (first | rfl | assumption))); rfl) | (apply WOps.alc; rfl; intro _) | (apply WOps.clA; rfl; rfl; exact put89_s (e := ⟨key, v, ses, (lookE s.es key).locks, (lookE s.es key).mke, (lookE s.es key).ix⟩) hn so t.cons; rintro _ H1 ⟨rfl, t1⟩) | (apply WOps.neqF; rfl; rfl; rfl; decide) | (apply WOps.neqT; rfl; rfl; rfl; decide) | (apply WOps.eqlF; rfl; rfl; rfl; decide) | (apply WOps.eqlT; rfl; rfl; rfl; decide) | (apply WOps.cmp; rfl; rfl; rfl; rfl; intro _ _) | (apply WOps.cmpT; rfl; rfl; rfl; rfl; intro _ _) | (apply WOps.purG; rfl; (intro _; rfl)) | (apply WOps.skp; rfl) | (apply WOps.ask; rfl; all_goals (intro hb; first | subst hb | fail_if_success (cases hb))) | (apply WC.condA; rfl; all_goals (intro hb; try subst hb)))
    obtain ⟨H3, t3, s3⟩ := t1.less (R1 := R) (subF (by intro f; simp only [AV.cells, List.append_eq, List.map_cons, List.map_nil, List.sum_nil, List.map_append, List.sum_cons, List.sum_append, List.cons_append, List.nil_append, List.append_assoc, List.append_nil]; omega))
    exact ⟨trivial, [_], ⟨_, [], rfl, rfl, rfl⟩, H3, ⟨rfl, t3⟩, s3⟩
  · have h1 := eq_of_ff ‹false = true ↔ cmpP BinOp.eql ses (Int.ofNat 0)›
    have h2 := eq_of_ff ‹false = true ↔ cmpP BinOp.neq (lookE s.es key).ses (Int.ofNat 0)›
    simp only [cmpP, Decidable.not_not] at h1 h2
    have h4 : ¬ (lookE s.es key).ses = ses := fun h => h1 (h.symm.trans h2)
    rw [app_put hk (by rw [short_good hv, fb1]; unfold lockF; rw [if_neg (show ¬ ses = 0 from h1), if_neg (fun h => h.1 h2)])]
    have hL : lockD ses v { lookE s.es key with key := key } = ⟨key, v, ses, IntKind.u64.wrap ((lookE s.es key).locks + Int.ofNat 1), (lookE s.es key).mke, (lookE s.es key).ix⟩ := by simp only [lockD, if_neg h4]
    rw [hL]
    repeat' (first
      | apply WOps.nil | apply WC.seq | apply WC.reg | apply WC.skip | apply WC.ret | (apply WC.condT; rfl) | (apply WC.condF; rfl) | (apply WOps.ldG; rfl; rfl; (first | exact ld0 rfl | exact ld1 rfl | exact ld2 rfl); rfl) | (apply WOps.st; rfl; rfl; (first | exact tk0 | exact tk1 | exact tk2); rfl; (first | rfl | ((repeat' (first | exact ac0 | apply ac1)) <;> (first | rfl | assumption))); rfl) | (apply WOps.alc; rfl; intro _) | (apply WOps.clA; rfl; rfl; exact put89_s (e := ⟨key, v, ses, IntKind.u64.wrap ((lookE s.es key).locks + Int.ofNat 1), (lookE s.es key).mke, (lookE s.es key).ix⟩) hn so t.cons; rintro _ H1 ⟨rfl, t1⟩) | (apply WOps.neqF; rfl; rfl; rfl; decide) | (apply WOps.neqT; rfl; rfl; rfl; decide) | (apply WOps.eqlF; rfl; rfl; rfl; decide) | (apply WOps.eqlT; rfl; rfl; rfl; decide) | (apply WOps.cmp; rfl; rfl; rfl; rfl; intro _ _) | (apply WOps.cmpT; rfl; rfl; rfl; rfl; intro _ _) | (apply WOps.purG; rfl; (intro _; rfl)) | (apply WOps.skp; rfl) | (apply WOps.ask; rfl; all_goals (intro hb; first | subst hb | fail_if_success (cases hb))) | (apply WC.condA; rfl; all_goals (intro hb; try subst hb)))
    obtain ⟨H3, t3, s3⟩ := t1.less (R1 := R) (subF (by intro f; simp only [AV.cells, List.append_eq, List.map_cons, List.map_nil, List.sum_nil, List.map_append, List.sum_cons, List.sum_append, List.cons_append, List.nil_append, List.append_assoc, List.append_nil]; omega))
    exact ⟨trivial, [_], ⟨_, [], rfl, rfl, rfl⟩, H3, ⟨rfl, t3⟩, s3⟩
  · simp only [cmpP, Bool.false_eq_true, false_iff, true_iff, Decidable.not_not, (show Int.ofNat 0 = (0 : Int) from rfl)] at *
    omega
set_option maxHeartbeats 2000000 in
theorem unlock77_ok {ses : Int} (hn : s.es.length ≤ 999) (so : Rise s.es) (t : RvAt H w most s R) :
    WF B tab (.func 77) [.ptr ⟨false, w, 0⟩, .str key, .str v, .int .u64 ses, .int .u64 ix] H fun r H' => r = .int .i64 (.ofNat (unlockS most s key v ses ix).2) ∧ RvAt H' w most (unlockS most s key v ses ix).1 R := by
  refine WF.lessP ?_
  refine WF.fn g77 rfl ?_
  unfold unlockS
  repeat' (first
    | apply WOps.nil | apply WC.seq | apply WC.reg | apply WC.skip | apply WC.ret | (apply WC.condT; rfl) | (apply WC.condF; rfl) | (apply WOps.ldG; rfl; rfl; (first | exact ld0 rfl | exact ld1 rfl | exact ld2 rfl); rfl) | (apply WOps.st; rfl; rfl; (first | exact tk0 | exact tk1 | exact tk2); rfl; (first | rfl | ((repeat' (first | exact ac0 | apply ac1)) <;> (first | rfl | assumption))); rfl) | (apply WOps.alc; rfl; intro _) | (apply WOps.clR; rfl; rfl; exact wrong64_ok _ _; rintro _ (⟨hk, rfl⟩ | ⟨hk, hv, rfl⟩ | ⟨hk, hv, rfl⟩)) | (apply WOps.clR; rfl; rfl; exact get29_s hn so t; rintro _ rfl; generalize hie : isE s.es key = ie; cases ie) | (apply WOps.neqF; rfl; rfl; rfl; decide) | (apply WOps.neqT; rfl; rfl; rfl; decide) | (apply WOps.eqlF; rfl; rfl; rfl; decide) | (apply WOps.eqlT; rfl; rfl; rfl; decide) | (apply WOps.cmp; rfl; rfl; rfl; rfl; intro _ _) | (apply WOps.cmpT; rfl; rfl; rfl; rfl; intro _ _) | (apply WOps.purG; rfl; (intro _; rfl)) | (apply WOps.skp; rfl) | (apply WOps.ask; rfl; all_goals (intro hb; first | subst hb | fail_if_success (cases hb))) | (apply WC.condA; rfl; all_goals (intro hb; try subst hb)))
  · rw [app_no hk]
    exact ⟨trivial, [_], ⟨_, [], rfl, rfl, rfl⟩, H, ⟨rfl, t⟩, SubP.refl⟩
  · rw [app_bad hk (short_bad hv) (by decide)]
    exact ⟨trivial, [_], ⟨_, [], rfl, rfl, rfl⟩, H, ⟨rfl, t⟩, SubP.refl⟩
  · rw [app_bad (n := 4) hk (by rw [short_good hv]; simp [firstBad, thereF, hie]) (by decide)]
    (obtain ⟨H3, t3, s3⟩ := t.cons.less (R1 := R) (subF (by intro f; simp only [AV.cells, List.append_eq, List.map_cons, List.map_nil, List.sum_nil, List.map_append, List.sum_cons, List.sum_append, List.cons_append, List.nil_append, List.append_assoc, List.append_nil]; omega)); exact ⟨trivial, [_], ⟨_, [], rfl, rfl, rfl⟩, H3, ⟨rfl, t3⟩, s3⟩)
  · have h1 := ‹true = true ↔ cmpP BinOp.eql ses (Int.ofNat 0)›
    simp only [cmpP, true_iff] at h1
    rw [app_bad (n := 22) hk (by rw [short_good hv, fb_zero (by simp [thereF, hie]), fb1]; unfold holdF; rw [if_pos (Or.inl (show ses = 0 from h1))]) (by decide)]
    (obtain ⟨H3, t3, s3⟩ := t.cons.less (R1 := R) (subF (by intro f; simp only [AV.cells, List.append_eq, List.map_cons, List.map_nil, List.sum_nil, List.map_append, List.sum_cons, List.sum_append, List.cons_append, List.nil_append, List.append_assoc, List.append_nil]; omega)); exact ⟨trivial, [_], ⟨_, [], rfl, rfl, rfl⟩, H3, ⟨rfl, t3⟩, s3⟩)
  · have h3 := ‹true = true ↔ cmpP BinOp.neq (lookE s.es key).ses ses›
    simp only [cmpP, true_iff] at h3
    rw [app_bad (n := 22) hk (by rw [short_good hv, fb_zero (by simp [thereF, hie]), fb1]; unfold holdF; rw [if_pos (Or.inr h3)]) (by decide)]
    (obtain ⟨H3, t3, s3⟩ := t.cons.less (R1 := R) (subF (by intro f; simp only [AV.cells, List.append_eq, List.map_cons, List.map_nil, List.sum_nil, List.map_append, List.sum_cons, List.sum_append, List.cons_append, List.nil_append, List.append_assoc, List.append_nil]; omega)); exact ⟨trivial, [_], ⟨_, [], rfl, rfl, rfl⟩, H3, ⟨rfl, t3⟩, s3⟩)
  · have h1 := eq_of_ff ‹false = true ↔ cmpP BinOp.eql ses (Int.ofNat 0)›
    have h3 := eq_of_ff ‹false = true ↔ cmpP BinOp.neq (lookE s.es key).ses ses›
    simp only [cmpP] at h1 h3
    have hkl : (lookE s.es key).key = key := by
      unfold isE at hie
      unfold lookE
      cases hf : findE s.es key with
      | none => simp [hf] at hie
      | some x => exact (find_key hf).2
    rw [app_put hk (by rw [short_good hv, fb_zero (by simp [thereF, hie]), fb1]; unfold holdF; rw [if_neg (fun h => h.elim h1 h3)])]
    have hL : freeD v { lookE s.es key with key := key } = ⟨(lookE s.es key).key, v, Int.ofNat 0, (lookE s.es key).locks, (lookE s.es key).mke, (lookE s.es key).ix⟩ := by rw [hkl]; rfl
    rw [hL]
    repeat' (first
      | apply WOps.nil | apply WC.seq | apply WC.reg | apply WC.skip | apply WC.ret | (apply WC.condT; rfl) | (apply WC.condF; rfl) | (apply WOps.ldG; rfl; rfl; (first | exact ld0 rfl | exact ld1 rfl | exact ld2 rfl); rfl) | (apply WOps.st; rfl; rfl; (first | exact tk0 | exact tk1 | exact tk2); rfl; (first | rfl | ((repeat' (first | exact ac0 | apply ac1)) <;> (first | rfl | assumption))); rfl) | (apply WOps.alc; rfl; intro _) | (apply WOps.clA; rfl; rfl; exact put89_s (e := ⟨(lookE s.es key).key, v, Int.ofNat 0, (lookE s.es key).locks, (lookE s.es key).mke, (lookE s.es key).ix⟩) hn so t.cons; rintro _ H1 ⟨rfl, t1⟩) | (apply WOps.neqF; rfl; rfl; rfl; decide) | (apply WOps.neqT; rfl; rfl; rfl; decide) | (apply WOps.eqlF; rfl; rfl; rfl; decide) | (apply WOps.eqlT; rfl; rfl; rfl; decide) | (apply WOps.cmp; rfl; rfl; rfl; rfl; intro _ _) | (apply WOps.cmpT; rfl; rfl; rfl; rfl; intro _ _) | (apply WOps.purG; rfl; (intro _; rfl)) | (apply WOps.skp; rfl) | (apply WOps.ask; rfl; all_goals (intro hb; first | subst hb | fail_if_success (cases hb))) | (apply WC.condA; rfl; all_goals (intro hb; try subst hb)))
    obtain ⟨H3, t3, s3⟩ := t1.less (R1 := R) (subF (by intro f; simp only [AV.cells, List.append_eq, List.map_cons, List.map_nil, List.sum_nil, List.map_append, List.sum_cons, List.sum_append, List.cons_append, List.nil_append, List.append_assoc, List.append_nil]; omega))
    exact ⟨trivial, [_], ⟨_, [], rfl, rfl, rfl⟩, H3, ⟨rfl, t3⟩, s3⟩
end ops
theorem rise_filter {es : List E} {p : E → Bool} (h : Rise es) : Rise (es.filter p) := by
  induction h with
  | nil => exact .nil
  | @cons y r h k ih =>
    rw [List.filter_cons]
    split
    · exact .cons (fun z hz => h z (List.mem_filter.1 hz).1) ih
    · exact ih
theorem put_map {L : List E} {x e : E} (so : Rise L) (hf : findE L e.key = some x) : putE L e = L.map (fun y => if y.key = e.key then { e with mke := y.mke } else y) := by
  induction so with
  | nil => cases hf
  | @cons y r h k ih =>
    simp only [putE]
    split
    · rename_i hk
      rw [List.map_cons, if_pos hk]
      congr 1
      have : ∀ z, z ∈ r → (if z.key = e.key then ({ e with mke := z.mke } : E) else z) = z := fun z hz => by
        rw [if_neg]
        intro hz2
        have := h z hz
        rw [hk, hz2, less_irr] at this
        cases this
      have hm : r.map (fun z => if z.key = e.key then ({ e with mke := z.mke } : E) else z) = r.map id := List.map_congr_left fun z hz => this z hz
      rw [hm, List.map_id]
    · rename_i hk
      have hr : findE r e.key = some x := by simpa only [findE, if_neg hk] using hf
      have hb : strLess y.key e.key = true := by
        obtain ⟨h1, h2⟩ := find_key hr
        rw [← h2]; exact h x h1
      rw [if_neg (less_asymm hb), ih hr, List.map_cons, if_neg hk]
theorem uniq {es : List E} (so : Rise es) {x y : E} (hx : x ∈ es) (hy : y ∈ es) (h : x.key = y.key) : x = y := by
  obtain ⟨i, hi, rfl⟩ := List.getElem_of_mem hx
  obtain ⟨j, hj, rfl⟩ := List.getElem_of_mem hy
  have h1 := find_mem so hi
  have h2 := find_mem so hj
  rw [h, h2] at h1
  exact (Option.some.inj h1).symm
def gJ (l : List (List Nat)) (ses ix : Int) (j : Nat) (e : E) : E := if e.key ∈ l.take j then fr ses ix e else e
theorem gJ_key {l : List (List Nat)} {ses ix : Int} {j : Nat} {e : E} : (gJ l ses ix j e).key = e.key := by unfold gJ; split; exact fr_key; rfl
def sJ (s : S) (ses ix : Int) (l : List (List Nat)) (j : Nat) : S := ⟨s.es.map (gJ l ses ix j), if j = 0 then s.last else maxI s.last ix⟩
theorem sJ_rise {s : S} {ses ix : Int} {l : List (List Nat)} {j : Nat} (so : Rise s.es) : Rise (sJ s ses ix l j).es := by
  refine rise_congr ?_ so
  simp only [sJ, List.map_map]
  exact List.map_congr_left fun e _ => gJ_key.symm
theorem sJ_step {s : S} {ses ix : Int} {j : Nat} (so : Rise s.es) (hj : j < (heldK ses s.es).length) :
    ∃ e, findE (sJ s ses ix (heldK ses s.es) j).es (heldK ses s.es)[j] = some e ∧ e.key = (heldK ses s.es)[j] ∧
      sJ s ses ix (heldK ses s.es) (j + 1) = ⟨putE (sJ s ses ix (heldK ses s.es) j).es (atIx { e with ses := Int.ofNat 0 } ix), maxI (sJ s ses ix (heldK ses s.es) j).last ix⟩ := by
  have hlen : (heldK ses s.es).length = (held ses s.es).length := by unfold heldK; rw [List.length_map]
  have hj2 : j < (held ses s.es).length := by omega
  obtain ⟨e, he⟩ : ∃ e, e = (held ses s.es)[j] := ⟨_, rfl⟩
  have hek : (heldK ses s.es)[j] = e.key := by rw [he]; simp [heldK]
  have hmem : e ∈ held ses s.es := by rw [he]; exact List.getElem_mem _
  have hes : e ∈ s.es ∧ e.ses = ses := by
    have := List.mem_filter.1 hmem
    exact ⟨this.1, by simpa using this.2⟩
  have hnot : e.key ∉ (heldK ses s.es).take j := by
    intro h
    obtain ⟨i, hi, e2⟩ := List.getElem_of_mem h
    rw [List.length_take] at hi
    rw [List.getElem_take] at e2
    have hs := sorted_of (rise_filter (p := fun e => decide (e.ses = ses)) so) i j (by unfold held at hj2; omega) (by unfold held at hj2; exact hj2) (by omega)
    have e3 : (heldK ses s.es)[i] = (held ses s.es)[i].key := by simp [heldK]
    rw [e3] at e2
    unfold held at e2 he
    rw [e2, he] at hs
    rw [less_irr] at hs
    cases hs
  have hg : gJ (heldK ses s.es) ses ix j e = e := by unfold gJ; rw [if_neg hnot]
  have hf : findE (sJ s ses ix (heldK ses s.es) j).es e.key = some e := by
    have hm : e ∈ (sJ s ses ix (heldK ses s.es) j).es := by
      simp only [sJ]
      have := List.mem_map_of_mem (f := gJ (heldK ses s.es) ses ix j) hes.1
      rwa [hg] at this
    obtain ⟨i, hi, e2⟩ := List.getElem_of_mem hm
    have := find_mem (sJ_rise so) hi
    rw [e2] at this
    exact this
  refine ⟨e, by rw [hek]; exact hf, hek.symm, ?_⟩
  have hput := put_map (sJ_rise so) (e := atIx { e with ses := Int.ofNat 0 } ix) hf
  rw [hput]
  have hlast : maxI (sJ s ses ix (heldK ses s.es) j).last ix = maxI s.last ix := by
    simp only [sJ]
    split
    · rfl
    · exact max_idem
  rw [hlast]
  simp only [sJ, Nat.add_one_ne_zero, if_false, List.map_map]
  congr 1
  refine List.map_congr_left fun y hy => ?_
  have htk : (heldK ses s.es).take (j + 1) = (heldK ses s.es).take j ++ [e.key] := by rw [List.take_succ_eq_append_getElem hj, hek]
  show gJ (heldK ses s.es) ses ix (j + 1) y = (if (gJ (heldK ses s.es) ses ix j y).key = e.key then _ else _)
  rw [gJ_key]
  by_cases hy2 : y.key = e.key
  · obtain rfl := uniq so hy hes.1 hy2
    rw [if_pos rfl, hg]
    unfold gJ
    rw [if_pos (by rw [htk]; simp)]
    simp only [fr, if_pos hes.2, atIx]
  · rw [if_neg hy2]
    unfold gJ
    have : y.key ∈ (heldK ses s.es).take (j + 1) ↔ y.key ∈ (heldK ses s.es).take j := by rw [htk]; simp [hy2]
    simp only [this]
theorem sJ_end {s : S} {ses ix : Int} (so : Rise s.es) : sJ s ses ix (heldK ses s.es) (heldK ses s.es).length = freeI ses ix s s.es.length := by
  unfold sJ freeI
  rw [List.take_length, List.drop_length, List.append_nil]
  congr 1
  · refine List.map_congr_left fun y hy => ?_
    unfold gJ
    rw [List.take_length]
    split
    · rfl
    · rename_i h
      unfold fr
      rw [if_neg]
      intro hs
      exact h (List.mem_map_of_mem (List.mem_filter.2 ⟨hy, by simpa using hs⟩))
  · unfold lastF heldK
    rw [List.length_map]
    cases held ses s.es <;> simp
theorem strs_sl {v : AV} {l : List (List Nat)} {h : HL} (o : OwnSl v (l.map strC).flatten l.length 1 h) : SlIs B h v 1 (l.map strC) := by
  have o2 : OwnSl v (l.map strC).flatten (l.map strC).length 1 h := by simpa using o
  exact OwnSl.sl o2 (by intro c hc; simp only [List.mem_map] at hc; obtain ⟨e, _, rfl⟩ := hc; rfl)
/-- A text is appended to the list of keys. -/
theorem app_key {t : EL} {Q : EL → HL → Prop} {os : List AOper} {k w most q : Nat} {x y : AO} {w9 : AV} {H1 hw R : HL} {s : S} {us : List (List Nat)} {u : List Nat} (hx : gl t x = some w9) (hy : gl t y = some (.sl ⟨false, q, 0⟩ 1 1))
    (t1 : RvAt H1 w most s (hw ++ R)) (o9 : OwnSl w9 (us.map strC).flatten us.length 1 hw) (hu : us.length ≤ 1100)
    (h : ∀ v2 h2 H2, OwnSl v2 ((us ++ [u]).map strC).flatten (us ++ [u]).length 1 h2 → RvAt H2 w most s (h2 ++ R) → WOps B tab os ((k, v2) :: t) H2 Q) :
    WOps B tab (⟨some k, .append 1 16 x y, none⟩ :: os) t ((q, .row [.str u]) :: H1) Q := by
  obtain ⟨Rest, pr, ht⟩ := (RfAt.cons t1 (x := (q, .row [.str u]))).part (hw := hw) (X := R) (X' := [(q, .row [.str u])]) (permF (by intro f; simp only [AV.cells, List.append_eq, List.map_cons, List.map_nil, List.sum_nil, List.map_append, List.sum_cons, List.sum_append, List.cons_append, List.nil_append, List.append_assoc, List.append_nil]; omega))
  refine WOps.app (n := us.length) rfl hx hy o9 pr (src_one Tk.head rfl) (strs_cell _) rfl rfl (by omega) ?_
  intro v2 h2 o2
  obtain ⟨H3, t4, s4⟩ := (ht h2).less (R1 := h2 ++ R) (subF (by intro f; simp only [AV.cells, List.append_eq, List.map_cons, List.map_nil, List.sum_nil, List.map_append, List.sum_cons, List.sum_append, List.cons_append, List.nil_append, List.append_assoc, List.append_nil]; omega))
  refine WOps.lessP s4 (h v2 h2 H3 ?_ t4)
  rw [List.map_append, List.flatten_append, List.length_append]
  exact o2
noncomputable def keysI (s : S) (ses : Int) (i : Nat) : List (List Nat) := if ses = 0 then [] else heldK ses (s.es.take i)
theorem keysI_len {s : S} {ses : Int} {i : Nat} : (keysI s ses i).length ≤ s.es.length := by
  unfold keysI
  split
  · simp
  · have := heldK_len (ses := ses) (es := s.es.take i)
    rw [List.length_take] at this
    omega
theorem keysI_next {s : S} {ses : Int} {i : Nat} (h : i < s.es.length) : (¬ ses = 0 → s.es[i].ses = ses → keysI s ses (i + 1) = keysI s ses i ++ [s.es[i].key]) ∧ ((ses = 0 ∨ ¬ s.es[i].ses = ses) → keysI s ses (i + 1) = keysI s ses i) := by
  constructor
  · intro h1 h2
    simp only [keysI, if_neg h1, heldK, held_take h, if_pos h2, List.map_append, List.map_cons, List.map_nil]
  · rintro (h1 | h1)
    · simp only [keysI, if_pos h1]
    · unfold keysI
      split
      · rfl
      · simp only [heldK, held_take h, if_neg h1, List.append_nil]
set_option maxHeartbeats 2000000 in
theorem free79_ok {H R : HL} {w most : Nat} {s : S} {ses ix : Int} (hn : s.es.length ≤ 999) (so : Rise s.es) (t : RvAt H w most s R) :
    WF B tab (.func 79) [.ptr ⟨false, w, 0⟩, .int .u64 ses, .int .u64 ix] H fun r H' => ∃ hw, OwnSl r ((freeR s ses).map strC).flatten (freeR s ses).length 1 hw ∧ RvAt H' w most (freeS s ses ix) (hw ++ R) := by
  refine WF.lessP ?_
  refine WF.fn g79 rfl ?_
  repeat' (first
    | apply WOps.nil | apply WC.seq | apply WC.reg | apply WC.skip | apply WC.ret | apply WC.exit | (apply WC.condT; rfl) | (apply WC.condF; rfl) | apply WC.block | (apply WOps.ldG; rfl; rfl; (first | exact ld0 rfl | exact ld1 rfl | exact ld2 rfl); rfl) | (apply WOps.st; rfl; rfl; (first | exact tk0 | exact tk1 | exact tk2); rfl; (first | rfl | ((repeat' (first | exact ac0 | apply ac1)) <;> (first | rfl | assumption))); rfl) | (apply WOps.alc; rfl; intro _) | (apply WOps.bsl; rfl; (first | rfl | ((repeat' (first | exact ac0 | apply ac1)) <;> (first | rfl | assumption))); intro _) | (apply WOps.cmp; rfl; rfl; rfl; rfl; intro _ _) | (apply WOps.cmpT; rfl; rfl; rfl; rfl; intro _ _) | (apply WOps.purG; rfl; (intro _; rfl)) | (apply WOps.skp; rfl) | (apply WOps.ask; rfl; all_goals (intro hb; first | subst hb | fail_if_success (cases hb))) | (apply WC.condA; rfl; all_goals (intro hb; try subst hb)))
  refine WC.mono (Q := fun ex t' H' => ex = .jump (.exit 0) ∧ ∃ w7 hw, OwnSl w7 ((freeR s ses).map strC).flatten (freeR s ses).length 1 hw ∧ RvAt H' w most s (hw ++ R) ∧ Sub1 [(0, .ptr ⟨false, w, 0⟩), (1, .int .u64 ses), (2, .int .u64 ix), (7, w7)] t') ?_ ?_
  · refine WC.loop ?_
    obtain ⟨i, hi⟩ : ∃ i : Nat, i = 0 := ⟨0, rfl⟩
    obtain ⟨w7, hw7⟩ : ∃ v, v = AV.nilsl := ⟨_, rfl⟩
    obtain ⟨hw, hhw⟩ : ∃ h : HL, h = [] := ⟨_, rfl⟩
    obtain ⟨H1, hH1⟩ : ∃ h : HL, h = H := ⟨_, rfl⟩
    refine WL.le (t' := [(0, .ptr ⟨false, w, 0⟩), (1, .int .u64 ses), (2, .int .u64 ix), (7, w7), (8, .int .i64 (.ofNat i))]) (by subst hi; subst hw7; exact Sub1.cons rfl (Sub1.cons rfl (Sub1.cons rfl (Sub1.cons rfl (Sub1.cons rfl Sub1.nil))))) ?_
    refine WL.heq (H' := H1) hH1.symm ?_
    have o7 : OwnSl w7 ((keysI s ses i).map strC).flatten (keysI s ses i).length 1 hw := by
      have : keysI s ses i = [] := by subst hi; unfold keysI; split <;> rfl
      rw [this]; exact .inl ⟨hw7, rfl, rfl, hhw⟩
    have t1 : RvAt H1 w most s (hw ++ R) := by subst hhw hH1; exact t
    have hle : i ≤ s.es.length := by omega
    clear hi hw7 hhw hH1
    induction hk : s.es.length - i using Nat.strongRecOn generalizing i w7 hw H1 with | _ k ih => ?_
    obtain ⟨v1, k0, k1, k2, q1, q2⟩ := RfAt.rd (B := B) t1
    apply WL.step
    repeat' (first
      | apply WOps.nil | apply WC.seq | apply WC.reg | apply WC.skip | apply WC.ret | apply WC.exit | (apply WC.condT; rfl) | (apply WC.condF; rfl) | apply WC.block | (apply WOps.ldG; rfl; rfl; (first | exact ld0 rfl | exact ld1 rfl | exact ld2 rfl); rfl) | (apply WOps.st; rfl; rfl; (first | exact tk0 | exact tk1 | exact tk2); rfl; (first | rfl | ((repeat' (first | exact ac0 | apply ac1)) <;> (first | rfl | assumption))); rfl) | (apply WOps.alc; rfl; intro _) | (apply WOps.bsl; rfl; (first | rfl | ((repeat' (first | exact ac0 | apply ac1)) <;> (first | rfl | assumption))); intro _) | (apply WOps.ldG; rfl; rfl; exact k1; rfl) | (apply WOps.lenS; rfl; rfl; exact q2) | (apply WOps.addN; rfl; rfl; rfl; (have h0 := ‹true = true ↔ cmpP BinOp.lss (Int.ofNat i) (Int.ofNat (List.map entC s.es).length)›; rw [List.length_map] at h0; simp [cmpP] at h0; omega)) | (apply WOps.cmp; rfl; rfl; rfl; rfl; intro _ _) | (apply WOps.cmpT; rfl; rfl; rfl; rfl; intro _ _) | (apply WOps.purG; rfl; (intro _; rfl)) | (apply WOps.skp; rfl) | (apply WOps.ask; rfl; all_goals (intro hb; first | subst hb | fail_if_success (cases hb))) | (apply WC.condA; rfl; all_goals (intro hb; try subst hb)))
    · have hlt : i < s.es.length := by
        have h0 := ‹true = true ↔ cmpP BinOp.lss (Int.ofNat i) (Int.ofNat (List.map entC s.es).length)›
        rw [List.length_map] at h0
        simp [cmpP] at h0; omega
      have hcm : (s.es.map entC)[i]? = some (entC s.es[i]) := by rw [List.getElem?_map, List.getElem?_eq_getElem hlt]; rfl
      have hkl := keysI_len (s := s) (ses := ses) (i := i)
      have hda := keysI_next (ses := ses) hlt
      have hs0 := ‹true = true ↔ cmpP BinOp.neq ses (Int.ofNat 0)›
      simp only [cmpP, true_iff] at hs0
      repeat' (first
        | apply WOps.nil | apply WC.seq | apply WC.reg | apply WC.skip | apply WC.ret | apply WC.exit | (apply WC.condT; rfl) | (apply WC.condF; rfl) | apply WC.block | (apply WOps.ldG; rfl; rfl; (first | exact ld0 rfl | exact ld1 rfl | exact ld2 rfl); rfl) | (apply WOps.st; rfl; rfl; (first | exact tk0 | exact tk1 | exact tk2); rfl; (first | rfl | ((repeat' (first | exact ac0 | apply ac1)) <;> (first | rfl | assumption))); rfl) | (apply WOps.alc; rfl; intro _) | (apply WOps.bsl; rfl; (first | rfl | ((repeat' (first | exact ac0 | apply ac1)) <;> (first | rfl | assumption))); intro _) | (apply WOps.ldG; rfl; rfl; exact k1; rfl) | (apply WOps.ixSl; rfl; rfl; rfl; exact q2; exact hcm; intro ax hax) | (apply WOps.ldG; rfl; rfl; exact Ld.part hax 2 1 (by decide); rfl) | (apply WOps.ldG; rfl; rfl; exact Ld.part hax 0 1 (by decide); rfl) | (apply app_key (u := s.es[i].key); rfl; rfl; exact t1; exact o7; omega; intro v2 h2 H2 o2 t2) | (apply WOps.addN; rfl; rfl; rfl; omega) | (apply WOps.cmp; rfl; rfl; rfl; rfl; intro _ _) | (apply WOps.cmpT; rfl; rfl; rfl; rfl; intro _ _) | (apply WOps.purG; rfl; (intro _; rfl)) | (apply WOps.skp; rfl) | (apply WOps.ask; rfl; all_goals (intro hb; first | subst hb | fail_if_success (cases hb))) | (apply WC.condA; rfl; all_goals (intro hb; try subst hb)))
      · have hq := ‹true = true ↔ cmpP BinOp.eql s.es[i].ses ses›
        simp only [cmpP, true_iff] at hq
        refine WL.le (t' := [(0, .ptr ⟨false, w, 0⟩), (1, .int .u64 ses), (2, .int .u64 ix), (7, v2), (8, .int .i64 (.ofNat (i + 1)))]) (Sub1.cons rfl (Sub1.cons rfl (Sub1.cons rfl (Sub1.cons rfl (Sub1.cons rfl Sub1.nil))))) (ih _ (by omega) (i + 1) v2 h2 H2 ?_ t2 (by omega) rfl)
        rw [hda.1 hs0 hq]; exact o2
      · have hq := eq_of_ff ‹false = true ↔ cmpP BinOp.eql s.es[i].ses ses›
        simp only [cmpP] at hq
        refine WL.le (t' := [(0, .ptr ⟨false, w, 0⟩), (1, .int .u64 ses), (2, .int .u64 ix), (7, w7), (8, .int .i64 (.ofNat (i + 1)))]) (Sub1.cons rfl (Sub1.cons rfl (Sub1.cons rfl (Sub1.cons rfl (Sub1.cons rfl Sub1.nil))))) (ih _ (by omega) (i + 1) w7 hw H1 ?_ t1 (by omega) rfl)
        rw [hda.2 (.inr hq)]; exact o7
    · have hlt : i < s.es.length := by
        have h0 := ‹true = true ↔ cmpP BinOp.lss (Int.ofNat i) (Int.ofNat (List.map entC s.es).length)›
        rw [List.length_map] at h0
        simp [cmpP] at h0; omega
      have hda := keysI_next (ses := ses) hlt
      have hs0 := eq_of_ff ‹false = true ↔ cmpP BinOp.neq ses (Int.ofNat 0)›
      simp only [cmpP, Decidable.not_not] at hs0
      refine WL.le (t' := [(0, .ptr ⟨false, w, 0⟩), (1, .int .u64 ses), (2, .int .u64 ix), (7, w7), (8, .int .i64 (.ofNat (i + 1)))]) (Sub1.cons rfl (Sub1.cons rfl (Sub1.cons rfl (Sub1.cons rfl (Sub1.cons rfl Sub1.nil))))) (ih _ (by omega) (i + 1) w7 hw H1 ?_ t1 (by omega) rfl)
      rw [hda.2 (.inl hs0)]; exact o7
    · have hge : i = s.es.length := by
        have h0 := eq_of_ff ‹false = true ↔ cmpP BinOp.lss (Int.ofNat i) (Int.ofNat (List.map entC s.es).length)›
        rw [List.length_map] at h0
        simp [cmpP] at h0; omega
      subst hge
      have hfr : keysI s ses s.es.length = freeR s ses := by unfold keysI freeR; rw [List.take_length]
      rw [hfr] at o7
      exact ⟨rfl, w7, hw, o7, t1, Sub1.cons rfl (Sub1.cons rfl (Sub1.cons rfl (Sub1.cons rfl Sub1.nil)))⟩
  · rintro _ t' H1 ⟨rfl, w7, hw, o7, t1, hsub⟩
    refine WC.le hsub ?_
    repeat' (first
      | apply WOps.nil | apply WC.seq | apply WC.reg | apply WC.skip | apply WC.ret | apply WC.exit | (apply WC.condT; rfl) | (apply WC.condF; rfl) | apply WC.block | (apply WOps.ldG; rfl; rfl; (first | exact ld0 rfl | exact ld1 rfl | exact ld2 rfl); rfl) | (apply WOps.st; rfl; rfl; (first | exact tk0 | exact tk1 | exact tk2); rfl; (first | rfl | ((repeat' (first | exact ac0 | apply ac1)) <;> (first | rfl | assumption))); rfl) | (apply WOps.alc; rfl; intro _) | (apply WOps.bsl; rfl; (first | rfl | ((repeat' (first | exact ac0 | apply ac1)) <;> (first | rfl | assumption))); intro _) | (apply WOps.cmp; rfl; rfl; rfl; rfl; intro _ _) | (apply WOps.cmpT; rfl; rfl; rfl; rfl; intro _ _) | (apply WOps.purG; rfl; (intro _; rfl)) | (apply WOps.skp; rfl) | (apply WOps.ask; rfl; all_goals (intro hb; first | subst hb | fail_if_success (cases hb))) | (apply WC.condA; rfl; all_goals (intro hb; try subst hb)))
    by_cases hs0 : ses = 0
    · have e1 : freeR s ses = [] := by simp only [freeR, if_pos hs0]
      have e2 : freeS s ses ix = s := by simp only [freeS, if_pos hs0]
      rw [e1] at o7
      rw [e1, e2]
      refine WC.loop (WL.step ?_)
      repeat' (first
        | apply WOps.nil | apply WC.seq | apply WC.reg | apply WC.skip | apply WC.ret | apply WC.exit | (apply WC.condT; rfl) | (apply WC.condF; rfl) | apply WC.block | (apply WOps.ldG; rfl; rfl; (first | exact ld0 rfl | exact ld1 rfl | exact ld2 rfl); rfl) | (apply WOps.st; rfl; rfl; (first | exact tk0 | exact tk1 | exact tk2); rfl; (first | rfl | ((repeat' (first | exact ac0 | apply ac1)) <;> (first | rfl | assumption))); rfl) | (apply WOps.alc; rfl; intro _) | (apply WOps.bsl; rfl; (first | rfl | ((repeat' (first | exact ac0 | apply ac1)) <;> (first | rfl | assumption))); intro _) | (apply WOps.lenO; rfl; rfl; exact o7) | (apply WOps.cmp; rfl; rfl; rfl; rfl; intro _ _) | (apply WOps.cmpT; rfl; rfl; rfl; rfl; intro _ _) | (apply WOps.purG; rfl; (intro _; rfl)) | (apply WOps.skp; rfl) | (apply WOps.ask; rfl; all_goals (intro hb; first | subst hb | fail_if_success (cases hb))) | (apply WC.condA; rfl; all_goals (intro hb; try subst hb)))
      · have h0 := ‹true = true ↔ cmpP BinOp.lss (Int.ofNat 0) (Int.ofNat ([] : List (List Nat)).length)›
        simp [cmpP] at h0
      · exact ⟨trivial, [_], ⟨_, [], rfl, rfl, rfl⟩, _, ⟨hw, o7, t1⟩, SubP.refl⟩
    have e1 : freeR s ses = heldK ses s.es := by simp only [freeR, if_neg hs0]
    have e2 : freeS s ses ix = sJ s ses ix (heldK ses s.es) (heldK ses s.es).length := by rw [sJ_end so]; simp only [freeS, if_neg hs0]
    rw [e1] at o7
    rw [e1, e2]
    have hkl := heldK_len (ses := ses) (es := s.es)
    refine WC.loop ?_
    obtain ⟨j, hj⟩ : ∃ i : Nat, i = 0 := ⟨0, rfl⟩
    refine WL.le (t' := [(0, .ptr ⟨false, w, 0⟩), (2, .int .u64 ix), (7, w7), (9, .int .i64 (.ofNat j))]) (by subst hj; exact Sub1.cons rfl (Sub1.cons rfl (Sub1.cons rfl (Sub1.cons rfl Sub1.nil)))) ?_
    have t2 : RvAt H1 w most (sJ s ses ix (heldK ses s.es) j) (hw ++ R) := by
      subst hj
      have : sJ s ses ix (heldK ses s.es) 0 = s := by
        unfold sJ
        have : s.es.map (gJ (heldK ses s.es) ses ix 0) = s.es.map id := List.map_congr_left fun e _ => by simp [gJ]
        rw [this, List.map_id]
        rfl
      rw [this]; exact t1
    have hle : j ≤ (heldK ses s.es).length := by omega
    clear hj t1
    induction hk : (heldK ses s.es).length - j using Nat.strongRecOn generalizing j H1 with | _ k ih => ?_
    apply WL.step
    repeat' (first
      | apply WOps.nil | apply WC.seq | apply WC.reg | apply WC.skip | apply WC.ret | apply WC.exit | (apply WC.condT; rfl) | (apply WC.condF; rfl) | apply WC.block | (apply WOps.ldG; rfl; rfl; (first | exact ld0 rfl | exact ld1 rfl | exact ld2 rfl); rfl) | (apply WOps.st; rfl; rfl; (first | exact tk0 | exact tk1 | exact tk2); rfl; (first | rfl | ((repeat' (first | exact ac0 | apply ac1)) <;> (first | rfl | assumption))); rfl) | (apply WOps.alc; rfl; intro _) | (apply WOps.bsl; rfl; (first | rfl | ((repeat' (first | exact ac0 | apply ac1)) <;> (first | rfl | assumption))); intro _) | (apply WOps.lenO; rfl; rfl; exact o7) | (apply WOps.cmp; rfl; rfl; rfl; rfl; intro _ _) | (apply WOps.cmpT; rfl; rfl; rfl; rfl; intro _ _) | (apply WOps.purG; rfl; (intro _; rfl)) | (apply WOps.skp; rfl) | (apply WOps.ask; rfl; all_goals (intro hb; first | subst hb | fail_if_success (cases hb))) | (apply WC.condA; rfl; all_goals (intro hb; try subst hb)))
    · have hlt : j < (heldK ses s.es).length := by
        have h0 := ‹true = true ↔ cmpP BinOp.lss (Int.ofNat j) (Int.ofNat (heldK ses s.es).length)›
        simp [cmpP] at h0; omega
      obtain ⟨e, hf, hek, hstep⟩ := sJ_step (ix := ix) so hlt
      have hcm : ((heldK ses s.es).map strC)[j]? = some [.str (heldK ses s.es)[j]] := by rw [List.getElem?_map, List.getElem?_eq_getElem hlt]; rfl
      have hsl : SlIs B H1 w7 1 ((heldK ses s.es).map strC) := by
        obtain ⟨v, hs, ov, qq⟩ := t2
        exact SlIs.perm qq (SlIs.cons (SlIs.right (SlIs.left (strs_sl o7))))
      have hsl2 : (sJ s ses ix (heldK ses s.es) j).es.length ≤ 999 := by simp only [sJ, List.length_map]; omega
      have hr := sJ_rise (ses := ses) (ix := ix) (l := heldK ses s.es) (j := j) so
      have hlook : lookE (sJ s ses ix (heldK ses s.es) j).es (heldK ses s.es)[j] = e := by simp [lookE, hf]
      have hput : putS most (sJ s ses ix (heldK ses s.es) j) { e with ses := Int.ofNat 0 } ix = (sJ s ses ix (heldK ses s.es) (j + 1), 0) := by
        unfold putS
        rw [if_neg, hstep]
        rw [fullB_iff]
        intro h
        have := h.1
        rw [show ({ e with ses := Int.ofNat 0 } : E).key = (heldK ses s.es)[j] from hek, hf] at this
        cases this
      repeat' (first
        | apply WOps.nil | apply WC.seq | apply WC.reg | apply WC.skip | apply WC.ret | apply WC.exit | (apply WC.condT; rfl) | (apply WC.condF; rfl) | apply WC.block | (apply WOps.ldG; rfl; rfl; (first | exact ld0 rfl | exact ld1 rfl | exact ld2 rfl); rfl) | (apply WOps.st; rfl; rfl; (first | exact tk0 | exact tk1 | exact tk2); rfl; (first | rfl | ((repeat' (first | exact ac0 | apply ac1)) <;> (first | rfl | assumption))); rfl) | (apply WOps.alc; rfl; intro _) | (apply WOps.bsl; rfl; (first | rfl | ((repeat' (first | exact ac0 | apply ac1)) <;> (first | rfl | assumption))); intro _) | (apply WOps.ixSl; rfl; rfl; rfl; exact hsl; exact hcm; intro ax hax) | (apply WOps.ldG; rfl; rfl; exact hax; rfl) | (apply WOps.clR; rfl; rfl; exact get29_s hsl2 hr t2; rintro _ rfl; rw [hlook]) | (apply WOps.clA; rfl; rfl; exact put89_s (e := { e with ses := Int.ofNat 0 }) hsl2 hr t2.cons; rintro _ H2 ⟨rfl, t3⟩) | (apply WOps.addN; rfl; rfl; rfl; omega) | (apply WOps.neqF; rfl; rfl; rfl; decide) | (apply WOps.neqT; rfl; rfl; rfl; decide) | (apply WOps.eqlF; rfl; rfl; rfl; decide) | (apply WOps.eqlT; rfl; rfl; rfl; decide) | (apply WOps.cmp; rfl; rfl; rfl; rfl; intro _ _) | (apply WOps.cmpT; rfl; rfl; rfl; rfl; intro _ _) | (apply WOps.purG; rfl; (intro _; rfl)) | (apply WOps.skp; rfl) | (apply WOps.ask; rfl; all_goals (intro hb; first | subst hb | fail_if_success (cases hb))) | (apply WC.condA; rfl; all_goals (intro hb; try subst hb)))
      rw [hput] at t3
      obtain ⟨H3, t4, s4⟩ := t3.less (R1 := hw ++ R) (subF (by intro f; simp only [AV.cells, List.append_eq, List.map_cons, List.map_nil, List.sum_nil, List.map_append, List.sum_cons, List.sum_append, List.cons_append, List.nil_append, List.append_assoc, List.append_nil]; omega))
      refine WL.le (t' := [(0, .ptr ⟨false, w, 0⟩), (2, .int .u64 ix), (7, w7), (9, .int .i64 (.ofNat (j + 1)))]) (Sub1.cons rfl (Sub1.cons rfl (Sub1.cons rfl (Sub1.cons rfl Sub1.nil)))) (WL.lessP s4 (ih _ (by omega) H3 (j + 1) t4 (by omega) rfl))
    · have hge : j = (heldK ses s.es).length := by
        have h0 := eq_of_ff ‹false = true ↔ cmpP BinOp.lss (Int.ofNat j) (Int.ofNat (heldK ses s.es).length)›
        simp [cmpP] at h0; omega
      subst hge
      exact ⟨trivial, [_], ⟨_, [], rfl, rfl, rfl⟩, _, ⟨hw, o7, t2⟩, SubP.refl⟩
end Go.Proofs.Ytlfhlkndccjejaa.KV
