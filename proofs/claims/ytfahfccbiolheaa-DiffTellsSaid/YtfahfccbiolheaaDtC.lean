/- What the functions do, shown by the logic. -/
import Derived.Test.YtfahfccbiolheaaDtB
set_option linter.unusedSimpArgs false
set_option linter.unusedVariables false
set_option maxRecDepth 20000
namespace Go.Proofs.Ytfahfccbiolheaa.DT
open Go.Proofs.Ytfahfccbiolheaa.Abs
variable {B : Nat → List AV}
def txtL (a : Cm) : List (List Nat) := [a.id, a.name, a.svc, a.note, [], [], [], []]
theorem texts21_ok {H : HL} {a : Cm} {ta : AV} (ca : ta.isCell = true) : WF B tab (.func 26) [.agg (cmC a ta)] H fun r H' => ∃ id, r = .sl ⟨false, id, 0⟩ 8 1 ∧ H' = (id, .row ((txtL a).map strC).flatten) :: H := by
  refine WF.lessP ?_
  refine WF.fn g26 rfl ?_
  repeat' (first
    | apply WOps.nil | apply WC.seq | apply WC.reg | apply WC.skip | apply WC.ret | (apply WOps.ldG; rfl; rfl; (first | exact ld0 rfl | exact ld1 rfl | exact ld2 rfl); rfl) | (apply WOps.bx; rfl; rfl; (first | rfl | ((repeat' (first | exact ac0 | apply ac1)) <;> (first | rfl | assumption))); intro _) | (apply WOps.bsl; rfl; (first | rfl | ((repeat' (first | exact ac0 | apply ac1)) <;> (first | rfl | assumption))); intro _) | (apply WOps.purG; rfl; (intro _; rfl)))
  exact ⟨trivial, [_], ⟨_, [], rfl, rfl, rfl⟩, _, ⟨_, rfl, rfl⟩, SubP.of (List.Sublist.cons_cons _ (List.sublist_cons_self _ _))⟩
theorem cm_eq {a b : Cm} : a = b ↔ a.kind = b.kind ∧ a.node = b.node ∧ a.port = b.port ∧ a.st = b.st ∧ txtL a = txtL b ∧ a.tags = b.tags := by
  constructor
  · rintro rfl; simp
  · cases a; cases b; simp only [txtL, List.cons.injEq, Cm.mk.injEq]; rintro ⟨h1, h2, h3, h4, ⟨h5, h6, h7, h8, _⟩, h9⟩; exact ⟨h1, h2, h3, h4, h5, h6, h7, h8, h9⟩
theorem txt_sl {a : Cm} {id : Nat} {H : HL} : SlIs B ((id, .row ((txtL a).map strC).flatten) :: H) (.sl ⟨false, id, 0⟩ 8 1) 1 ((txtL a).map strC) := by
  have o : OwnSl (.sl ⟨false, id, 0⟩ 8 1) ((txtL a).map strC).flatten (txtL a).length 1 [(id, .row ((txtL a).map strC).flatten)] := .inr ⟨id, rfl, rfl, rfl⟩
  exact SlIs.left (R := H) (strs_sl o)
set_option maxHeartbeats 4000000 in
theorem same14_ok {H : HL} {a b : Cm} {ta tb : AV} (ha : SlIs B H ta 1 (a.tags.map strC)) (hb : SlIs B H tb 1 (b.tags.map strC)) (la : a.tags.length ≤ 8796093021952) : WF B tab (.func 17) [.agg (cmC a ta), .agg (cmC b tb)] H fun r H' => (∃ v : Bool, r = .bool v ∧ (v = true ↔ a = b)) ∧ H' = H := by
  refine WF.lessP ?_
  refine WF.fn g17 rfl ?_
  have ca := ha.cell
  have cb := hb.cell
  rw [cm_eq]
  repeat' (first
    | apply WOps.nil | apply WC.seq | apply WC.reg | apply WC.skip | apply WC.ret | apply WC.exit | (apply WC.condT; rfl) | (apply WC.condF; rfl) | apply WC.block | apply WC.dreg | apply WD.nil | (apply WOps.ldG; rfl; rfl; (first | exact ld0 rfl | exact ld1 rfl | exact ld2 rfl); rfl) | (apply WOps.bx; rfl; rfl; (first | rfl | ((repeat' (first | exact ac0 | apply ac1)) <;> (first | rfl | assumption))); intro _) | (apply WD.clA; rfl; rfl; exact texts21_ok ‹_›; rintro _ _ ⟨i1, rfl, rfl⟩) | (apply WD.clR; rfl; rfl; exact same13_ok txt_sl.cons txt_sl strs_T strs_T (by simp [txtL]); rintro _ ⟨b1, rfl, h1⟩; rw [strs_inj] at h1; cases b1) | (apply WD.load; rfl; (first | (apply at1; (first | exact rd0 rfl rfl rfl | exact rd1 rfl rfl rfl | exact rd2 rfl rfl rfl | exact rd_ld rfl (ld2 rfl).cons rfl | exact rd_ld rfl (ld2 rfl).cons.cons rfl | exact rd_ld rfl (ld2 rfl).cons.cons.cons rfl); rfl) | (apply at2; (first | exact rd0 rfl rfl rfl | exact rd1 rfl rfl rfl | exact rd2 rfl rfl rfl | exact rd_ld rfl (ld2 rfl).cons rfl | exact rd_ld rfl (ld2 rfl).cons.cons rfl | exact rd_ld rfl (ld2 rfl).cons.cons.cons rfl); repeat' (first | exact same0 | (apply same1; (first | exact rd0 rfl rfl rfl | exact rd1 rfl rfl rfl | exact rd2 rfl rfl rfl | exact rd_ld rfl (ld2 rfl).cons rfl | exact rd_ld rfl (ld2 rfl).cons.cons rfl | exact rd_ld rfl (ld2 rfl).cons.cons.cons rfl); rfl) | (apply same2; (first | exact rd0 rfl rfl rfl | exact rd1 rfl rfl rfl | exact rd2 rfl rfl rfl | exact rd_ld rfl (ld2 rfl).cons rfl | exact rd_ld rfl (ld2 rfl).cons.cons rfl | exact rd_ld rfl (ld2 rfl).cons.cons.cons rfl)))))) | (apply WD.clR; rfl; rfl; exact same13_ok ha.cons.cons.cons.cons hb.cons.cons.cons.cons strs_T strs_T (by simp; omega); rintro _ ⟨b1, rfl, h2⟩; rw [strs_inj] at h2; cases b1) | (apply WOps.neqF; rfl; rfl; rfl; decide) | (apply WOps.neqT; rfl; rfl; rfl; decide) | (apply WOps.eqlF; rfl; rfl; rfl; decide) | (apply WOps.eqlT; rfl; rfl; rfl; decide) | (apply WD.neqF; rfl; rfl; rfl; decide) | (apply WD.neqT; rfl; rfl; rfl; decide) | (apply WD.eqlF; rfl; rfl; rfl; decide) | (apply WD.eqlT; rfl; rfl; rfl; decide) | (apply WOps.cmp; rfl; rfl; rfl; rfl; intro _ _) | (apply WOps.cmpT; rfl; rfl; rfl; rfl; intro _ _) | (apply WOps.eqB; rfl; rfl; rfl; intro _ _) | (apply WOps.purG; rfl; (intro _; rfl)) | (apply WOps.skp; rfl) | (apply WD.load; rfl; (first | (apply at1; (first | exact rd0 rfl rfl rfl | exact rd1 rfl rfl rfl | exact rd2 rfl rfl rfl); rfl) | (apply at2; (first | exact rd0 rfl rfl rfl | exact rd1 rfl rfl rfl | exact rd2 rfl rfl rfl); repeat' (first | exact same0 | (apply same1; (first | exact rd0 rfl rfl rfl | exact rd1 rfl rfl rfl | exact rd2 rfl rfl rfl); rfl) | (apply same2; (first | exact rd0 rfl rfl rfl | exact rd1 rfl rfl rfl | exact rd2 rfl rfl rfl)))))) | (apply WD.cmp; rfl; rfl; rfl; rfl; intro _ _) | (apply WD.cmpT; rfl; rfl; rfl; rfl; intro _ _) | (apply WD.eqB; rfl; rfl; rfl; intro _ _) | (apply WD.pur; rfl; (intro _; rfl)) | (apply WD.skp; rfl) | (apply WD.skpL; rfl) | (apply WD.skpX; rfl) | (apply WOps.ask; rfl; all_goals (intro hb; first | subst hb | fail_if_success (cases hb))) | (apply WC.condA; rfl; all_goals (intro hb; try subst hb)) | (apply WD.ask; rfl; all_goals (intro hb; first | subst hb | fail_if_success (cases hb))))
  all_goals first
    | (refine ⟨trivial, [_], ⟨_, [], rfl, rfl, rfl⟩, _, ⟨⟨_, rfl, ?_⟩, rfl⟩, subF (by intro f; simp only [AV.cells, List.append_eq, List.map_cons, List.map_nil, List.sum_nil, List.map_append, List.sum_cons, List.sum_append, List.cons_append, List.nil_append, List.append_assoc, List.append_nil]; omega)⟩
       simp only [cmpP, true_iff, Bool.false_eq_true, false_iff] at *
       simp_all
       done)
    | skip
  refine WC.loop ?_
  apply WL.step
  repeat' (first
    | apply WOps.nil | apply WC.seq | apply WC.reg | apply WC.skip | apply WC.ret | apply WC.exit | (apply WC.condT; rfl) | (apply WC.condF; rfl) | apply WC.block | apply WC.dreg | apply WD.nil | (apply WOps.ldG; rfl; rfl; (first | exact ld0 rfl | exact ld1 rfl | exact ld2 rfl); rfl) | (apply WOps.bx; rfl; rfl; (first | rfl | ((repeat' (first | exact ac0 | apply ac1)) <;> (first | rfl | assumption))); intro _) | (apply WOps.ldG; rfl; rfl; exact (ld2 rfl).cons; rfl) | (apply WOps.neqF; rfl; rfl; rfl; decide) | (apply WOps.neqT; rfl; rfl; rfl; decide) | (apply WOps.eqlF; rfl; rfl; rfl; decide) | (apply WOps.eqlT; rfl; rfl; rfl; decide) | (apply WD.neqF; rfl; rfl; rfl; decide) | (apply WD.neqT; rfl; rfl; rfl; decide) | (apply WD.eqlF; rfl; rfl; rfl; decide) | (apply WD.eqlT; rfl; rfl; rfl; decide) | (apply WOps.cmp; rfl; rfl; rfl; rfl; intro _ _) | (apply WOps.cmpT; rfl; rfl; rfl; rfl; intro _ _) | (apply WOps.eqB; rfl; rfl; rfl; intro _ _) | (apply WOps.purG; rfl; (intro _; rfl)) | (apply WOps.skp; rfl) | (apply WD.load; rfl; (first | (apply at1; (first | exact rd0 rfl rfl rfl | exact rd1 rfl rfl rfl | exact rd2 rfl rfl rfl); rfl) | (apply at2; (first | exact rd0 rfl rfl rfl | exact rd1 rfl rfl rfl | exact rd2 rfl rfl rfl); repeat' (first | exact same0 | (apply same1; (first | exact rd0 rfl rfl rfl | exact rd1 rfl rfl rfl | exact rd2 rfl rfl rfl); rfl) | (apply same2; (first | exact rd0 rfl rfl rfl | exact rd1 rfl rfl rfl | exact rd2 rfl rfl rfl)))))) | (apply WD.cmp; rfl; rfl; rfl; rfl; intro _ _) | (apply WD.cmpT; rfl; rfl; rfl; rfl; intro _ _) | (apply WD.eqB; rfl; rfl; rfl; intro _ _) | (apply WD.pur; rfl; (intro _; rfl)) | (apply WD.skp; rfl) | (apply WD.skpL; rfl) | (apply WD.skpX; rfl) | (apply WOps.ask; rfl; all_goals (intro hb; first | subst hb | fail_if_success (cases hb))) | (apply WC.condA; rfl; all_goals (intro hb; try subst hb)) | (apply WD.ask; rfl; all_goals (intro hb; first | subst hb | fail_if_success (cases hb))))
  · exact absurd (‹true = true ↔ cmpP BinOp.lss _ _›.1 rfl) (by simp [cmpP])
  refine ⟨trivial, [_], ⟨_, [], rfl, rfl, rfl⟩, _, ⟨⟨_, rfl, ?_⟩, rfl⟩, subF (by intro f; simp only [AV.cells, List.append_eq, List.map_cons, List.map_nil, List.sum_nil, List.map_append, List.sum_cons, List.sum_append, List.cons_append, List.nil_append, List.append_assoc, List.append_nil]; omega)⟩
  simp only [cmpP, true_iff, Bool.false_eq_true, false_iff] at *
  simp_all
theorem cms_sl {v : AV} {ps : List (Cm × AV)} {h : HL} (o : OwnSl v (cmsC ps) ps.length 17 h) : SlIs B h v 17 (ps.map fun p => cmC p.1 p.2) := by
  refine OwnSl.sl (xs := ps.map fun p => cmC p.1 p.2) (by rw [List.length_map]; exact o) ?_
  intro c hc
  obtain ⟨p, _, rfl⟩ := List.mem_map.1 hc
  rfl
theorem cmds8_ok {H : HL} {v w : AV} {ps qs : List (Cm × AV)} (hv : SlIs B H v 17 (ps.map fun p => cmC p.1 p.2)) (hw : SlIs B H w 17 (qs.map fun p => cmC p.1 p.2)) (tv : ∀ p, p ∈ ps → SlIs B H p.2 1 (p.1.tags.map strC)) (tw : ∀ p, p ∈ qs → SlIs B H p.2 1 (p.1.tags.map strC))
    (lv : ps.length ≤ 1000) (tl : ∀ p, p ∈ ps → p.1.tags.length ≤ 8796093021952) :
    WF B tab (.func 9) [v, w] H fun r H' => (∃ b : Bool, r = .bool b ∧ (b = true ↔ ps.map (·.1) = qs.map (·.1))) ∧ H' = H := by
  refine WF.lessP ?_
  refine WF.fn g9 rfl ?_
  repeat' (first
    | apply WOps.nil | apply WC.seq | apply WC.reg | apply WC.skip | apply WC.ret | apply WC.exit | (apply WC.condT; rfl) | (apply WC.condF; rfl) | apply WC.block | apply WC.dreg | apply WD.nil | (apply WOps.ldG; rfl; rfl; (first | exact ld0 rfl | exact ld1 rfl | exact ld2 rfl); rfl) | (apply WOps.lenS; rfl; rfl; exact hv) | (apply WOps.lenS; rfl; rfl; exact hw) | (apply WOps.cmp; rfl; rfl; rfl; rfl; intro _ _) | (apply WOps.cmpT; rfl; rfl; rfl; rfl; intro _ _) | (apply WOps.purG; rfl; (intro _; rfl)) | (apply WD.load; rfl; (first | (apply at1; (first | exact rd0 rfl rfl rfl | exact rd1 rfl rfl rfl | exact rd2 rfl rfl rfl); rfl) | (apply at2; (first | exact rd0 rfl rfl rfl | exact rd1 rfl rfl rfl | exact rd2 rfl rfl rfl); repeat' (first | exact same0 | (apply same1; (first | exact rd0 rfl rfl rfl | exact rd1 rfl rfl rfl | exact rd2 rfl rfl rfl); rfl) | (apply same2; (first | exact rd0 rfl rfl rfl | exact rd1 rfl rfl rfl | exact rd2 rfl rfl rfl)))))) | (apply WD.cmp; rfl; rfl; rfl; rfl; intro _ _) | (apply WD.cmpT; rfl; rfl; rfl; rfl; intro _ _) | (apply WD.pur; rfl; (intro _; rfl)) | (apply WC.condA; rfl; all_goals (intro hb; try subst hb)))
  all_goals rw [List.length_map, List.length_map] at *
  · rename_i h
    simp [cmpP] at h
    refine ⟨trivial, [_], ⟨_, [], rfl, rfl, rfl⟩, _, ⟨⟨false, rfl, ?_⟩, rfl⟩, SubP.refl⟩
    simp only [Bool.false_eq_true, false_iff]
    exact fun e => h (by have := congrArg List.length e; rw [List.length_map, List.length_map] at this; omega)
  · rename_i h
    have hl : ps.length = qs.length := by have h0 := h; simp [cmpP] at h0; omega
    refine WC.loop ?_
    obtain ⟨i, hi⟩ : ∃ i : Nat, i = 0 := ⟨0, rfl⟩
    refine WL.le (t' := [(0, v), (1, w), (5, .int .i64 (.ofNat i))]) (by subst hi; exact Sub1.cons rfl (Sub1.cons rfl (Sub1.cons rfl Sub1.nil))) ?_
    have hle : i ≤ ps.length := by omega
    have hpre : ∀ (j : Nat) (h1 : j < ps.length) (h2 : j < qs.length), j < i → ps[j].1 = qs[j].1 := by intro j _ _ hj; omega
    clear hi
    induction hk : ps.length - i using Nat.strongRecOn generalizing i with | _ k ih => ?_
    apply WL.step
    repeat' (first
      | apply WOps.nil | apply WC.seq | apply WC.reg | apply WC.skip | apply WC.ret | apply WC.exit | (apply WC.condT; rfl) | (apply WC.condF; rfl) | apply WC.block | apply WC.dreg | apply WD.nil | (apply WOps.ldG; rfl; rfl; (first | exact ld0 rfl | exact ld1 rfl | exact ld2 rfl); rfl) | (apply WOps.lenS; rfl; rfl; exact hv) | (apply WOps.lenS; rfl; rfl; exact hw) | (apply WOps.cmp; rfl; rfl; rfl; rfl; intro _ _) | (apply WOps.cmpT; rfl; rfl; rfl; rfl; intro _ _) | (apply WOps.purG; rfl; (intro _; rfl)) | (apply WD.load; rfl; (first | (apply at1; (first | exact rd0 rfl rfl rfl | exact rd1 rfl rfl rfl | exact rd2 rfl rfl rfl); rfl) | (apply at2; (first | exact rd0 rfl rfl rfl | exact rd1 rfl rfl rfl | exact rd2 rfl rfl rfl); repeat' (first | exact same0 | (apply same1; (first | exact rd0 rfl rfl rfl | exact rd1 rfl rfl rfl | exact rd2 rfl rfl rfl); rfl) | (apply same2; (first | exact rd0 rfl rfl rfl | exact rd1 rfl rfl rfl | exact rd2 rfl rfl rfl)))))) | (apply WD.cmp; rfl; rfl; rfl; rfl; intro _ _) | (apply WD.cmpT; rfl; rfl; rfl; rfl; intro _ _) | (apply WD.pur; rfl; (intro _; rfl)) | (apply WC.condA; rfl; all_goals (intro hb; try subst hb)))
    all_goals rw [List.length_map] at *
    · rename_i hlt
      have hlt : i < ps.length := by have h0 := hlt; simp [cmpP] at h0; omega
      have hlt2 : i < qs.length := by omega
      have hc1 : (ps.map fun p => cmC p.1 p.2)[i]? = some (cmC ps[i].1 ps[i].2) := by rw [List.getElem?_map, List.getElem?_eq_getElem hlt]; rfl
      have hc2 : (qs.map fun p => cmC p.1 p.2)[i]? = some (cmC qs[i].1 qs[i].2) := by rw [List.getElem?_map, List.getElem?_eq_getElem hlt2]; rfl
      have t1 := tv _ (List.getElem_mem hlt)
      have t2 := tw _ (List.getElem_mem hlt2)
      have t3 := tl _ (List.getElem_mem hlt)
      repeat' (first
        | apply WOps.nil | apply WC.seq | apply WC.reg | apply WC.skip | apply WC.ret | apply WC.exit | (apply WC.condT; rfl) | (apply WC.condF; rfl) | apply WC.block | apply WC.dreg | apply WD.nil | (apply WOps.ldG; rfl; rfl; (first | exact ld0 rfl | exact ld1 rfl | exact ld2 rfl); rfl) | (apply WD.ixSl; rfl; rfl; rfl; exact hv; exact hc1; intro a1 l1) | (apply WD.ixSl; rfl; rfl; rfl; exact hw; exact hc2; intro a2 l2) | (apply WD.load; rfl; (first | (apply at1; exact rd_ld rfl (l1 _ hv) rfl; rfl) | (apply at2; exact rd_ld rfl (l1 _ hv) rfl; repeat' (first | exact same0 | (apply same1; exact rd_ld rfl (l1 _ hv) rfl; rfl) | (apply same2; exact rd_ld rfl (l1 _ hv) rfl))))) | (apply WD.load; rfl; (first | (apply at1; exact rd_ld rfl (l2 _ hw) rfl; rfl) | (apply at2; exact rd_ld rfl (l2 _ hw) rfl; repeat' (first | exact same0 | (apply same1; exact rd_ld rfl (l2 _ hw) rfl; rfl) | (apply same2; exact rd_ld rfl (l2 _ hw) rfl))))) | (apply WD.clA; rfl; rfl; exact same14_ok t1 t2 t3; rintro _ _ ⟨⟨bb, rfl, hbb⟩, rfl⟩; cases bb) | (apply WOps.addN; rfl; rfl; rfl; omega) | (apply WOps.cmp; rfl; rfl; rfl; rfl; intro _ _) | (apply WOps.cmpT; rfl; rfl; rfl; rfl; intro _ _) | (apply WOps.purG; rfl; (intro _; rfl)) | (apply WD.load; rfl; (first | (apply at1; (first | exact rd0 rfl rfl rfl | exact rd1 rfl rfl rfl | exact rd2 rfl rfl rfl); rfl) | (apply at2; (first | exact rd0 rfl rfl rfl | exact rd1 rfl rfl rfl | exact rd2 rfl rfl rfl); repeat' (first | exact same0 | (apply same1; (first | exact rd0 rfl rfl rfl | exact rd1 rfl rfl rfl | exact rd2 rfl rfl rfl); rfl) | (apply same2; (first | exact rd0 rfl rfl rfl | exact rd1 rfl rfl rfl | exact rd2 rfl rfl rfl)))))) | (apply WD.cmp; rfl; rfl; rfl; rfl; intro _ _) | (apply WD.cmpT; rfl; rfl; rfl; rfl; intro _ _) | (apply WD.pur; rfl; (intro _; rfl)) | (apply WC.condA; rfl; all_goals (intro hb; try subst hb)))
      · have hb := eq_of_ff hbb
        refine ⟨trivial, [_], ⟨_, [], rfl, rfl, rfl⟩, _, ⟨⟨false, rfl, ?_⟩, rfl⟩, SubP.refl⟩
        simp only [Bool.false_eq_true, false_iff]
        intro e
        have e2 := congrArg (fun l => l[i]?) e
        simp [hlt, hlt2] at e2
        exact hb e2
      · have hb := hbb.1 rfl
        refine WL.le (t' := [(0, v), (1, w), (5, .int .i64 (.ofNat (i + 1)))]) (Sub1.cons rfl (Sub1.cons rfl (Sub1.cons rfl Sub1.nil))) (ih _ (by omega) (i + 1) (by omega) ?_ rfl)
        intro j h1 h2 hj
        rcases Nat.lt_or_ge j i with h3 | h3
        · exact hpre j h1 h2 h3
        · obtain rfl : j = i := by omega
          exact hb
    · rename_i hge
      have hge : ps.length ≤ i := by have h0 := hge; simp [cmpP] at h0; omega
      refine ⟨trivial, [_], ⟨_, [], rfl, rfl, rfl⟩, _, ⟨⟨true, rfl, ?_⟩, rfl⟩, SubP.refl⟩
      simp only [true_iff]
      refine List.ext_getElem (by simpa using hl) ?_
      intro j h1 h2
      simp only [List.length_map] at h1 h2
      simp only [List.getElem_map]
      exact hpre j h1 h2 (by omega)
theorem less_cons {x y : Nat} {a b : List Nat} : strLess (x :: a) (y :: b) = true ↔ x < y ∨ (x = y ∧ strLess a b = true) := by
  have h1 : Nat.beq x y = true ↔ x = y := ⟨Nat.eq_of_beq_eq_true, fun e => by rw [e]; exact Nat.beq_refl y⟩
  simp only [strLess, Bool.or_eq_true, Bool.and_eq_true, h1, Nat.blt_eq]
theorem less_trans : ∀ {a b c : List Nat}, strLess a b = true → strLess b c = true → strLess a c = true := by
  intro a
  induction a with
  | nil =>
    intro b c h1 h2
    cases b with
    | nil => cases h1
    | cons y b => cases c with
      | nil => cases h2
      | cons z c => rfl
  | cons x a ih =>
    intro b c h1 h2
    cases b with
    | nil => cases h1
    | cons y b => cases c with
      | nil => cases h2
      | cons z c =>
        rw [less_cons] at h1 h2 ⊢
        rcases h1 with h1 | ⟨rfl, h1⟩
        · rcases h2 with h2 | ⟨rfl, h2⟩
          · left; omega
          · left; exact h1
        · rcases h2 with h2 | ⟨rfl, h2⟩
          · left; exact h2
          · right; exact ⟨rfl, ih h1 h2⟩
theorem less_irr : ∀ {a : List Nat}, strLess a a = false := by
  intro a
  induction a with
  | nil => rfl
  | cons x a ih =>
    rw [Bool.eq_false_iff, Ne, less_cons]
    rintro (h | ⟨_, h⟩)
    · omega
    · rw [ih] at h; cases h

theorem gtr_no {v : Bool} {m j : Nat} (h : v = true ↔ cmpP .gtr (Int.ofNat m) (Int.ofNat j)) (hm : m ≤ j) : v = false := by cases v; rfl; simp [cmpP] at h; omega
theorem gtr_yes {v : Bool} {m j : Nat} (h : v = true ↔ cmpP .gtr (Int.ofNat m) (Int.ofNat j)) (hm : j < m) : v = true := h.2 (by simp [cmpP]; omega)
theorem cut_no {v : AV} {esz : Nat} {xs : List (List AV)} (h : SlIs B [] v esz xs) (hl : xs.length ≤ 30) : SlIs B [] v esz (xs.take 30) := by rw [List.take_of_length_le hl]; exact h
theorem cut_yes {a : AA} {n esz : Nat} {xs : List (List AV)} (h : SlIs B [] (.sl a n esz) esz xs) (hl : 30 < xs.length) : SlIs B [] (.sl ⟨a.ro, a.id, a.off + 0 * esz⟩ (30 - 0) esz) esz (xs.take 30) := by
  rcases h with ⟨h, _⟩ | ⟨b, h, hb⟩
  · cases h
  · cases h
    refine .inr ⟨⟨a.ro, a.id, a.off + 0 * esz⟩, by rw [List.length_take, Nat.min_eq_left (by omega)], fun i c hc => ?_⟩
    have hc2 : xs[i]? = some c := by
      rw [List.getElem?_take] at hc
      split at hc
      · exact hc
      · cases hc
    have e : (a.off + 0 * esz) + i * esz = a.off + i * esz := by omega
    rw [e]
    exact hb i c hc2
theorem few4_ok {H : HL} {th : Bool} {n : Int} {ad : List Nat} {sv cv : AV} {xs ys : List (List AV)} (hs : SlIs B [] sv 7 xs) (hc : SlIs B [] cv 7 ys) (lx : xs.length ≤ 9223372036854775807) (ly : ys.length ≤ 9223372036854775807) :
    WF B tab (.func 5) [.agg [.bool th, .int .i64 n, .str ad, sv, cv]] H fun r H' => H' = H ∧ ∃ sv' cv', r = .agg [.bool th, .int .i64 n, .str ad, sv', cv'] ∧ SlIs B [] sv' 7 (xs.take 30) ∧ SlIs B [] cv' 7 (ys.take 30) := by
  have A : ∀ {v : AV} {xs : List (List AV)}, SlIs B [] v 7 xs → xs.length ≤ 30 ∨ (30 < xs.length ∧ ∃ a, v = .sl a xs.length 7) := by
    intro v xs h
    rcases Nat.lt_or_ge 30 xs.length with h1 | h1
    · rcases h with ⟨_, rfl⟩ | ⟨a, rfl, _⟩
      · simp at h1
      · exact .inr ⟨h1, a, rfl⟩
    · exact .inl h1
  refine WF.fnR g5 rfl ?_
  have e1 := hs.cell
  have e2 := hc.cell
  rcases A hs with l1 | ⟨l1, a1, rfl⟩
  all_goals rcases A hc with l2 | ⟨l2, a2, rfl⟩
  all_goals repeat' (first
              | apply WOps.nil | apply WC.seq | apply WC.reg | apply WC.skip | apply WC.ret | (apply WC.condT; rfl) | (apply WC.condF; rfl) | (apply WOps.ldG; rfl; rfl; (first | exact ld0 rfl | exact ld1 rfl | exact ld2 rfl); rfl) | (apply WOps.st; rfl; rfl; (first | exact tk0 | exact tk1 | exact tk2); rfl; (first | rfl | ((repeat' (first | exact ac0 | apply ac1)) <;> (first | rfl | assumption))); rfl) | (apply WOps.alc; rfl; intro _) | (apply WOps.bx; rfl; rfl; (first | rfl | ((repeat' (first | exact ac0 | apply ac1)) <;> (first | rfl | assumption))); intro _) | (apply WOps.lenS; rfl; rfl; exact hs.any) | (apply WOps.lenS; rfl; rfl; exact hc.any) | (apply WOps.cmp; rfl; rfl; rfl; rfl; intro _ hv; first | (have e := gtr_no hv l1; subst e) | (have e := gtr_no hv l2; subst e) | (have e := gtr_yes hv l1; subst e) | (have e := gtr_yes hv l2; subst e)) | (refine WOps.slHi (ki := .i64) (m := 30) rfl rfl rfl ?_ ?_; omega) | (apply WOps.cmp; rfl; rfl; rfl; rfl; intro _ _) | (apply WOps.cmpT; rfl; rfl; rfl; rfl; intro _ _) | (apply WOps.purG; rfl; (intro _; rfl)) | (apply WC.condA; rfl; all_goals (intro hb; try subst hb)))
  all_goals refine ⟨trivial, ?_, [_], ⟨_, _, rfl, ⟨_, _, rfl, ld0 rfl, rfl⟩, rfl⟩, _, _, rfl, ?_, ?_⟩
  all_goals first
    | exact cut_no hs l1
    | exact cut_yes hs l1
    | exact cut_no hc l2
    | exact cut_yes hc l2
    | exact List.Sublist.cons _ (List.Sublist.cons _ (List.Sublist.refl _))
def Rises (ks : List (List Nat)) : Prop := ∀ (i : Nat) (h : i + 1 < ks.length), strLess ks[i] ks[i + 1] = true
theorem Rises.lt {ks : List (List Nat)} (h : Rises ks) : ∀ (d i : Nat) (hj : i + (d + 1) < ks.length), strLess ks[i] ks[i + (d + 1)] = true := by
  intro d
  induction d with
  | zero => intro i hj; exact h i hj
  | succ d ih => intro i hj; exact less_trans (ih i (by omega)) (h (i + (d + 1)) hj)
theorem Rises.once {ks : List (List Nat)} (h : Rises ks) : Once ks := by
  intro i j hi hj hij e
  obtain ⟨d, rfl⟩ : ∃ d, j = i + (d + 1) := ⟨j - i - 1, by omega⟩
  have := h.lt d i hj
  rw [← e, less_irr] at this
  cases this
set_option maxHeartbeats 4000000 in
theorem rising5_ok {H : HL} {th : Bool} {n : Int} {ad : List Nat} {sv cv : AV} {ss : List (Sv × AV)} {cs : List Ck} (hss : SlIs B [] sv 7 (ss.map fun p => svC p.1 p.2)) (hcs : SlIs B [] cv 7 (cs.map fun p => ckC p)) (lx : ss.length ≤ 1000) (ly : cs.length ≤ 1000) :
    WF B tab (.func 6) [.agg [.bool th, .int .i64 n, .str ad, sv, cv]] H fun r H' => H' = H ∧ ∃ b : Bool, r = .bool b ∧ (b = true → Once (ss.map fun p => p.1.id) ∧ Once (cs.map fun p => p.id)) := by
  refine WF.fnR g6 rfl ?_
  have e1 := hss.cell
  have e2 := hcs.cell
  refine WC.seq (WC.reg ?_)
  repeat' (first
    | apply WOps.nil | apply WC.reg | apply WC.skip | apply WC.ret | apply WC.exit | (apply WC.condT; rfl) | (apply WC.condF; rfl) | apply WC.block | apply WC.dreg | apply WD.nil | (apply WOps.ldG; rfl; rfl; (first | exact ld0 rfl | exact ld1 rfl | exact ld2 rfl); rfl) | (apply WOps.bx; rfl; rfl; (first | rfl | ((repeat' (first | exact ac0 | apply ac1)) <;> (first | rfl | assumption))); intro _) | (apply WOps.cmp; rfl; rfl; rfl; rfl; intro _ _) | (apply WOps.cmpT; rfl; rfl; rfl; rfl; intro _ _) | (apply WOps.purG; rfl; (intro _; rfl)) | (apply WD.load; rfl; (first | (apply at1; (first | exact rd0 rfl rfl rfl | exact rd1 rfl rfl rfl | exact rd2 rfl rfl rfl); rfl) | (apply at2; (first | exact rd0 rfl rfl rfl | exact rd1 rfl rfl rfl | exact rd2 rfl rfl rfl); repeat' (first | exact same0 | (apply same1; (first | exact rd0 rfl rfl rfl | exact rd1 rfl rfl rfl | exact rd2 rfl rfl rfl); rfl) | (apply same2; (first | exact rd0 rfl rfl rfl | exact rd1 rfl rfl rfl | exact rd2 rfl rfl rfl)))))) | (apply WD.cmp; rfl; rfl; rfl; rfl; intro _ _) | (apply WD.cmpT; rfl; rfl; rfl; rfl; intro _ _) | (apply WD.pur; rfl; (intro _; rfl)) | (apply WC.condA; rfl; all_goals (intro hb; try subst hb)))
  rename_i p1
  have f1 : Ld B ((p1, .row [.bool th, .int .i64 n, .str ad, sv, cv]) :: H) ⟨false, p1, 0⟩ 5 [.bool th, .int .i64 n, .str ad, sv, cv] := ld0 rfl
  repeat' (first
    | apply WOps.nil | apply WC.seq | apply WC.reg | apply WC.skip | apply WC.ret | apply WC.exit | (apply WC.condT; rfl) | (apply WC.condF; rfl) | apply WC.block | apply WC.dreg | apply WD.nil | (apply WOps.ldG; rfl; rfl; (first | exact ld0 rfl | exact ld1 rfl | exact ld2 rfl); rfl) | (apply WOps.bx; rfl; rfl; (first | rfl | ((repeat' (first | exact ac0 | apply ac1)) <;> (first | rfl | assumption))); intro _) | (apply WOps.cmp; rfl; rfl; rfl; rfl; intro _ _) | (apply WOps.cmpT; rfl; rfl; rfl; rfl; intro _ _) | (apply WOps.purG; rfl; (intro _; rfl)) | (apply WD.load; rfl; (first | (apply at1; (first | exact rd0 rfl rfl rfl | exact rd1 rfl rfl rfl | exact rd2 rfl rfl rfl); rfl) | (apply at2; (first | exact rd0 rfl rfl rfl | exact rd1 rfl rfl rfl | exact rd2 rfl rfl rfl); repeat' (first | exact same0 | (apply same1; (first | exact rd0 rfl rfl rfl | exact rd1 rfl rfl rfl | exact rd2 rfl rfl rfl); rfl) | (apply same2; (first | exact rd0 rfl rfl rfl | exact rd1 rfl rfl rfl | exact rd2 rfl rfl rfl)))))) | (apply WD.cmp; rfl; rfl; rfl; rfl; intro _ _) | (apply WD.cmpT; rfl; rfl; rfl; rfl; intro _ _) | (apply WD.pur; rfl; (intro _; rfl)) | (apply WC.condA; rfl; all_goals (intro hb; try subst hb)))
  refine WC.loop ?_
  obtain ⟨i, hi⟩ : ∃ i : Nat, i = 1 := ⟨1, rfl⟩
  refine WL.le (t' := [(1, .ptr ⟨false, p1, 0⟩), (3, .int .i64 (.ofNat i))]) (by subst hi; exact Sub1.cons rfl (Sub1.cons rfl Sub1.nil)) ?_
  have hle : 1 ≤ i ∧ i ≤ ss.length + 1 := by omega
  have hpre : ∀ (j : Nat) (h : j + 1 < (ss.map fun p => p.1.id).length), j + 1 < i → strLess (ss.map fun p => p.1.id)[j] (ss.map fun p => p.1.id)[j + 1] = true := by intro j _ hj; omega
  clear hi
  induction hk : ss.length + 1 - i using Nat.strongRecOn generalizing i with | _ k ih => ?_
  apply WL.step
  repeat' (first
    | apply WOps.nil | apply WC.seq | apply WC.reg | apply WC.skip | apply WC.ret | apply WC.exit | (apply WC.condT; rfl) | (apply WC.condF; rfl) | apply WC.block | apply WC.dreg | apply WD.nil | (apply WOps.ldG; rfl; rfl; (first | exact ld0 rfl | exact ld1 rfl | exact ld2 rfl); rfl) | (apply WOps.bx; rfl; rfl; (first | rfl | ((repeat' (first | exact ac0 | apply ac1)) <;> (first | rfl | assumption))); intro _) | (apply WOps.ldG; rfl; rfl; exact Ld.part f1 3 1 (by omega); rfl) | (apply WOps.lenS; rfl; rfl; exact hss.any) | (apply WD.load; rfl; (first | (apply at1; exact rd_ld rfl (Ld.part f1 3 1 (by omega)) rfl; rfl) | (apply at2; exact rd_ld rfl (Ld.part f1 3 1 (by omega)) rfl; repeat' (first | exact same0 | (apply same1; exact rd_ld rfl (Ld.part f1 3 1 (by omega)) rfl; rfl) | (apply same2; exact rd_ld rfl (Ld.part f1 3 1 (by omega)) rfl))))) | (apply WD.subN; rfl; rfl; rfl; exact hle.1; omega) | (apply WOps.cmp; rfl; rfl; rfl; rfl; intro _ _) | (apply WOps.cmpT; rfl; rfl; rfl; rfl; intro _ _) | (apply WOps.purG; rfl; (intro _; rfl)) | (apply WD.load; rfl; (first | (apply at1; (first | exact rd0 rfl rfl rfl | exact rd1 rfl rfl rfl | exact rd2 rfl rfl rfl); rfl) | (apply at2; (first | exact rd0 rfl rfl rfl | exact rd1 rfl rfl rfl | exact rd2 rfl rfl rfl); repeat' (first | exact same0 | (apply same1; (first | exact rd0 rfl rfl rfl | exact rd1 rfl rfl rfl | exact rd2 rfl rfl rfl); rfl) | (apply same2; (first | exact rd0 rfl rfl rfl | exact rd1 rfl rfl rfl | exact rd2 rfl rfl rfl)))))) | (apply WD.cmp; rfl; rfl; rfl; rfl; intro _ _) | (apply WD.cmpT; rfl; rfl; rfl; rfl; intro _ _) | (apply WD.pur; rfl; (intro _; rfl)) | (apply WC.condA; rfl; all_goals (intro hb; try subst hb)))
  all_goals rw [List.length_map] at *
  · have hlt : i < ss.length := by
      have h0 := ‹true = true ↔ cmpP BinOp.lss (Int.ofNat i) (Int.ofNat ss.length)›.1 rfl
      simp [cmpP] at h0; omega
    have hlt2 : i - 1 < ss.length := by omega
    have hc1 : (ss.map fun p => svC p.1 p.2)[i]? = some (svC ss[i].1 ss[i].2) := by rw [List.getElem?_map, List.getElem?_eq_getElem hlt]; rfl
    have hc2 : (ss.map fun p => svC p.1 p.2)[i - 1]? = some (svC ss[i - 1].1 ss[i - 1].2) := by rw [List.getElem?_map, List.getElem?_eq_getElem hlt2]; rfl
    repeat' (first
      | apply WOps.nil | apply WC.seq | apply WC.reg | apply WC.skip | apply WC.ret | apply WC.exit | (apply WC.condT; rfl) | (apply WC.condF; rfl) | apply WC.block | apply WC.dreg | apply WD.nil | (apply WOps.ldG; rfl; rfl; (first | exact ld0 rfl | exact ld1 rfl | exact ld2 rfl); rfl) | (apply WOps.bx; rfl; rfl; (first | rfl | ((repeat' (first | exact ac0 | apply ac1)) <;> (first | rfl | assumption))); intro _) | (apply WD.load; rfl; (first | (apply at1; exact rd_ld rfl (Ld.part f1 3 1 (by omega)) rfl; rfl) | (apply at2; exact rd_ld rfl (Ld.part f1 3 1 (by omega)) rfl; repeat' (first | exact same0 | (apply same1; exact rd_ld rfl (Ld.part f1 3 1 (by omega)) rfl; rfl) | (apply same2; exact rd_ld rfl (Ld.part f1 3 1 (by omega)) rfl))))) | (apply WD.subN; rfl; rfl; rfl; exact hle.1; omega) | (apply WD.ixSl; rfl; rfl; rfl; exact hss.any; exact hc1; intro a1 l1) | (apply WD.ixSl; rfl; rfl; rfl; exact hss.any; exact hc2; intro a2 l2) | (apply WD.load; rfl; (first | (apply at1; exact rd_ld rfl (Ld.part (l1 _ hss.any) 1 1 (by omega)) rfl; rfl) | (apply at2; exact rd_ld rfl (Ld.part (l1 _ hss.any) 1 1 (by omega)) rfl; repeat' (first | exact same0 | (apply same1; exact rd_ld rfl (Ld.part (l1 _ hss.any) 1 1 (by omega)) rfl; rfl) | (apply same2; exact rd_ld rfl (Ld.part (l1 _ hss.any) 1 1 (by omega)) rfl))))) | (apply WD.load; rfl; (first | (apply at1; exact rd_ld rfl (Ld.part (l2 _ hss.any) 1 1 (by omega)) rfl; rfl) | (apply at2; exact rd_ld rfl (Ld.part (l2 _ hss.any) 1 1 (by omega)) rfl; repeat' (first | exact same0 | (apply same1; exact rd_ld rfl (Ld.part (l2 _ hss.any) 1 1 (by omega)) rfl; rfl) | (apply same2; exact rd_ld rfl (Ld.part (l2 _ hss.any) 1 1 (by omega)) rfl))))) | (apply WOps.addN; rfl; rfl; rfl; omega) | (apply WOps.cmp; rfl; rfl; rfl; rfl; intro _ _) | (apply WOps.cmpT; rfl; rfl; rfl; rfl; intro _ _) | (apply WOps.purG; rfl; (intro _; rfl)) | (apply WD.load; rfl; (first | (apply at1; (first | exact rd0 rfl rfl rfl | exact rd1 rfl rfl rfl | exact rd2 rfl rfl rfl); rfl) | (apply at2; (first | exact rd0 rfl rfl rfl | exact rd1 rfl rfl rfl | exact rd2 rfl rfl rfl); repeat' (first | exact same0 | (apply same1; (first | exact rd0 rfl rfl rfl | exact rd1 rfl rfl rfl | exact rd2 rfl rfl rfl); rfl) | (apply same2; (first | exact rd0 rfl rfl rfl | exact rd1 rfl rfl rfl | exact rd2 rfl rfl rfl)))))) | (apply WD.cmp; rfl; rfl; rfl; rfl; intro _ _) | (apply WD.cmpT; rfl; rfl; rfl; rfl; intro _ _) | (apply WD.pur; rfl; (intro _; rfl)) | (apply WC.condA; rfl; all_goals (intro hb; try subst hb)))
    · exact ⟨trivial, List.sublist_cons_self _ _, [_], ⟨_, [], rfl, rfl, rfl⟩, false, rfl, fun h => by cases h⟩
    · have hb := eq_of_ff ‹false = true ↔ cmpS BinOp.geq _ _›
      simp only [cmpS, Classical.not_not] at hb
      refine WL.le (t' := [(1, .ptr ⟨false, p1, 0⟩), (3, .int .i64 (.ofNat (i + 1)))]) (Sub1.cons rfl (Sub1.cons rfl Sub1.nil)) (ih _ (by omega) (i + 1) (by omega) ?_ rfl)
      intro j h hj
      rcases Nat.lt_or_ge (j + 1) i with h1 | h1
      · exact hpre j h h1
      · obtain rfl : i = j + 1 := by omega
        simpa using hb
  · have hge : ss.length ≤ i := by
      have h0 := eq_of_ff ‹false = true ↔ cmpP BinOp.lss (Int.ofNat i) (Int.ofNat ss.length)›
      simp [cmpP] at h0; omega
    have r3 : Rises (ss.map fun p => p.1.id) := fun j h => hpre j h (by rw [List.length_map] at h; omega)
    clear hpre ih hle hk
    repeat' (first
      | apply WOps.nil | apply WC.seq | apply WC.reg | apply WC.skip | apply WC.ret | apply WC.exit | (apply WC.condT; rfl) | (apply WC.condF; rfl) | apply WC.block | apply WC.dreg | apply WD.nil | (apply WOps.ldG; rfl; rfl; (first | exact ld0 rfl | exact ld1 rfl | exact ld2 rfl); rfl) | (apply WOps.bx; rfl; rfl; (first | rfl | ((repeat' (first | exact ac0 | apply ac1)) <;> (first | rfl | assumption))); intro _) | (apply WOps.cmp; rfl; rfl; rfl; rfl; intro _ _) | (apply WOps.cmpT; rfl; rfl; rfl; rfl; intro _ _) | (apply WOps.purG; rfl; (intro _; rfl)) | (apply WD.load; rfl; (first | (apply at1; (first | exact rd0 rfl rfl rfl | exact rd1 rfl rfl rfl | exact rd2 rfl rfl rfl); rfl) | (apply at2; (first | exact rd0 rfl rfl rfl | exact rd1 rfl rfl rfl | exact rd2 rfl rfl rfl); repeat' (first | exact same0 | (apply same1; (first | exact rd0 rfl rfl rfl | exact rd1 rfl rfl rfl | exact rd2 rfl rfl rfl); rfl) | (apply same2; (first | exact rd0 rfl rfl rfl | exact rd1 rfl rfl rfl | exact rd2 rfl rfl rfl)))))) | (apply WD.cmp; rfl; rfl; rfl; rfl; intro _ _) | (apply WD.cmpT; rfl; rfl; rfl; rfl; intro _ _) | (apply WD.pur; rfl; (intro _; rfl)) | (apply WC.condA; rfl; all_goals (intro hb; try subst hb)))
    refine WC.loop ?_
    obtain ⟨i, hi⟩ : ∃ i : Nat, i = 1 := ⟨1, rfl⟩
    refine WL.le (t' := [(1, .ptr ⟨false, p1, 0⟩), (4, .int .i64 (.ofNat i))]) (by subst hi; exact Sub1.cons rfl (Sub1.cons rfl Sub1.nil)) ?_
    have hle : 1 ≤ i ∧ i ≤ cs.length + 1 := by omega
    have hpre : ∀ (j : Nat) (h : j + 1 < (cs.map fun p => p.id).length), j + 1 < i → strLess (cs.map fun p => p.id)[j] (cs.map fun p => p.id)[j + 1] = true := by intro j _ hj; omega
    clear hi
    induction hk : cs.length + 1 - i using Nat.strongRecOn generalizing i with | _ k ih => ?_
    apply WL.step
    repeat' (first
      | apply WOps.nil | apply WC.seq | apply WC.reg | apply WC.skip | apply WC.ret | apply WC.exit | (apply WC.condT; rfl) | (apply WC.condF; rfl) | apply WC.block | apply WC.dreg | apply WD.nil | (apply WOps.ldG; rfl; rfl; (first | exact ld0 rfl | exact ld1 rfl | exact ld2 rfl); rfl) | (apply WOps.bx; rfl; rfl; (first | rfl | ((repeat' (first | exact ac0 | apply ac1)) <;> (first | rfl | assumption))); intro _) | (apply WOps.ldG; rfl; rfl; exact Ld.part f1 4 1 (by omega); rfl) | (apply WOps.lenS; rfl; rfl; exact hcs.any) | (apply WD.load; rfl; (first | (apply at1; exact rd_ld rfl (Ld.part f1 4 1 (by omega)) rfl; rfl) | (apply at2; exact rd_ld rfl (Ld.part f1 4 1 (by omega)) rfl; repeat' (first | exact same0 | (apply same1; exact rd_ld rfl (Ld.part f1 4 1 (by omega)) rfl; rfl) | (apply same2; exact rd_ld rfl (Ld.part f1 4 1 (by omega)) rfl))))) | (apply WD.subN; rfl; rfl; rfl; exact hle.1; omega) | (apply WOps.cmp; rfl; rfl; rfl; rfl; intro _ _) | (apply WOps.cmpT; rfl; rfl; rfl; rfl; intro _ _) | (apply WOps.purG; rfl; (intro _; rfl)) | (apply WD.load; rfl; (first | (apply at1; (first | exact rd0 rfl rfl rfl | exact rd1 rfl rfl rfl | exact rd2 rfl rfl rfl); rfl) | (apply at2; (first | exact rd0 rfl rfl rfl | exact rd1 rfl rfl rfl | exact rd2 rfl rfl rfl); repeat' (first | exact same0 | (apply same1; (first | exact rd0 rfl rfl rfl | exact rd1 rfl rfl rfl | exact rd2 rfl rfl rfl); rfl) | (apply same2; (first | exact rd0 rfl rfl rfl | exact rd1 rfl rfl rfl | exact rd2 rfl rfl rfl)))))) | (apply WD.cmp; rfl; rfl; rfl; rfl; intro _ _) | (apply WD.cmpT; rfl; rfl; rfl; rfl; intro _ _) | (apply WD.pur; rfl; (intro _; rfl)) | (apply WC.condA; rfl; all_goals (intro hb; try subst hb)))
    all_goals rw [List.length_map] at *
    · have hlt : i < cs.length := by
        have h0 := ‹true = true ↔ cmpP BinOp.lss (Int.ofNat i) (Int.ofNat cs.length)›.1 rfl
        simp [cmpP] at h0; omega
      have hlt2 : i - 1 < cs.length := by omega
      have hc1 : (cs.map fun p => ckC p)[i]? = some (ckC cs[i]) := by rw [List.getElem?_map, List.getElem?_eq_getElem hlt]; rfl
      have hc2 : (cs.map fun p => ckC p)[i - 1]? = some (ckC cs[i - 1]) := by rw [List.getElem?_map, List.getElem?_eq_getElem hlt2]; rfl
      repeat' (first
        | apply WOps.nil | apply WC.seq | apply WC.reg | apply WC.skip | apply WC.ret | apply WC.exit | (apply WC.condT; rfl) | (apply WC.condF; rfl) | apply WC.block | apply WC.dreg | apply WD.nil | (apply WOps.ldG; rfl; rfl; (first | exact ld0 rfl | exact ld1 rfl | exact ld2 rfl); rfl) | (apply WOps.bx; rfl; rfl; (first | rfl | ((repeat' (first | exact ac0 | apply ac1)) <;> (first | rfl | assumption))); intro _) | (apply WD.load; rfl; (first | (apply at1; exact rd_ld rfl (Ld.part f1 4 1 (by omega)) rfl; rfl) | (apply at2; exact rd_ld rfl (Ld.part f1 4 1 (by omega)) rfl; repeat' (first | exact same0 | (apply same1; exact rd_ld rfl (Ld.part f1 4 1 (by omega)) rfl; rfl) | (apply same2; exact rd_ld rfl (Ld.part f1 4 1 (by omega)) rfl))))) | (apply WD.subN; rfl; rfl; rfl; exact hle.1; omega) | (apply WD.ixSl; rfl; rfl; rfl; exact hcs.any; exact hc1; intro a1 l1) | (apply WD.ixSl; rfl; rfl; rfl; exact hcs.any; exact hc2; intro a2 l2) | (apply WD.load; rfl; (first | (apply at1; exact rd_ld rfl (Ld.part (l1 _ hcs.any) 1 1 (by omega)) rfl; rfl) | (apply at2; exact rd_ld rfl (Ld.part (l1 _ hcs.any) 1 1 (by omega)) rfl; repeat' (first | exact same0 | (apply same1; exact rd_ld rfl (Ld.part (l1 _ hcs.any) 1 1 (by omega)) rfl; rfl) | (apply same2; exact rd_ld rfl (Ld.part (l1 _ hcs.any) 1 1 (by omega)) rfl))))) | (apply WD.load; rfl; (first | (apply at1; exact rd_ld rfl (Ld.part (l2 _ hcs.any) 1 1 (by omega)) rfl; rfl) | (apply at2; exact rd_ld rfl (Ld.part (l2 _ hcs.any) 1 1 (by omega)) rfl; repeat' (first | exact same0 | (apply same1; exact rd_ld rfl (Ld.part (l2 _ hcs.any) 1 1 (by omega)) rfl; rfl) | (apply same2; exact rd_ld rfl (Ld.part (l2 _ hcs.any) 1 1 (by omega)) rfl))))) | (apply WOps.addN; rfl; rfl; rfl; omega) | (apply WOps.cmp; rfl; rfl; rfl; rfl; intro _ _) | (apply WOps.cmpT; rfl; rfl; rfl; rfl; intro _ _) | (apply WOps.purG; rfl; (intro _; rfl)) | (apply WD.load; rfl; (first | (apply at1; (first | exact rd0 rfl rfl rfl | exact rd1 rfl rfl rfl | exact rd2 rfl rfl rfl); rfl) | (apply at2; (first | exact rd0 rfl rfl rfl | exact rd1 rfl rfl rfl | exact rd2 rfl rfl rfl); repeat' (first | exact same0 | (apply same1; (first | exact rd0 rfl rfl rfl | exact rd1 rfl rfl rfl | exact rd2 rfl rfl rfl); rfl) | (apply same2; (first | exact rd0 rfl rfl rfl | exact rd1 rfl rfl rfl | exact rd2 rfl rfl rfl)))))) | (apply WD.cmp; rfl; rfl; rfl; rfl; intro _ _) | (apply WD.cmpT; rfl; rfl; rfl; rfl; intro _ _) | (apply WD.pur; rfl; (intro _; rfl)) | (apply WC.condA; rfl; all_goals (intro hb; try subst hb)))
      · exact ⟨trivial, List.sublist_cons_self _ _, [_], ⟨_, [], rfl, rfl, rfl⟩, false, rfl, fun h => by cases h⟩
      · have hb := eq_of_ff ‹false = true ↔ cmpS BinOp.geq _ _›
        simp only [cmpS, Classical.not_not] at hb
        refine WL.le (t' := [(1, .ptr ⟨false, p1, 0⟩), (4, .int .i64 (.ofNat (i + 1)))]) (Sub1.cons rfl (Sub1.cons rfl Sub1.nil)) (ih _ (by omega) (i + 1) (by omega) ?_ rfl)
        intro j h hj
        rcases Nat.lt_or_ge (j + 1) i with h1 | h1
        · exact hpre j h h1
        · obtain rfl : i = j + 1 := by omega
          simpa using hb
    · have hge : cs.length ≤ i := by
        have h0 := eq_of_ff ‹false = true ↔ cmpP BinOp.lss (Int.ofNat i) (Int.ofNat cs.length)›
        simp [cmpP] at h0; omega
      have r4 : Rises (cs.map fun p => p.id) := fun j h => hpre j h (by rw [List.length_map] at h; omega)
      repeat' (first
        | apply WOps.nil | apply WC.seq | apply WC.reg | apply WC.skip | apply WC.ret | apply WC.exit | (apply WC.condT; rfl) | (apply WC.condF; rfl) | apply WC.block | apply WC.dreg | apply WD.nil | (apply WOps.ldG; rfl; rfl; (first | exact ld0 rfl | exact ld1 rfl | exact ld2 rfl); rfl) | (apply WOps.bx; rfl; rfl; (first | rfl | ((repeat' (first | exact ac0 | apply ac1)) <;> (first | rfl | assumption))); intro _) | (apply WOps.cmp; rfl; rfl; rfl; rfl; intro _ _) | (apply WOps.cmpT; rfl; rfl; rfl; rfl; intro _ _) | (apply WOps.purG; rfl; (intro _; rfl)) | (apply WD.load; rfl; (first | (apply at1; (first | exact rd0 rfl rfl rfl | exact rd1 rfl rfl rfl | exact rd2 rfl rfl rfl); rfl) | (apply at2; (first | exact rd0 rfl rfl rfl | exact rd1 rfl rfl rfl | exact rd2 rfl rfl rfl); repeat' (first | exact same0 | (apply same1; (first | exact rd0 rfl rfl rfl | exact rd1 rfl rfl rfl | exact rd2 rfl rfl rfl); rfl) | (apply same2; (first | exact rd0 rfl rfl rfl | exact rd1 rfl rfl rfl | exact rd2 rfl rfl rfl)))))) | (apply WD.cmp; rfl; rfl; rfl; rfl; intro _ _) | (apply WD.cmpT; rfl; rfl; rfl; rfl; intro _ _) | (apply WD.pur; rfl; (intro _; rfl)) | (apply WC.condA; rfl; all_goals (intro hb; try subst hb)))
      exact ⟨trivial, List.sublist_cons_self _ _, [_], ⟨_, [], rfl, rfl, rfl⟩, true, rfl, fun _ => ⟨r3.once, r4.once⟩⟩
theorem headL_len {own cat : Ow} : (headL own cat).length ≤ 1 := by unfold headL; split <;> simp
theorem drop_len {own cat : List (List Nat)} : (dropIds own cat).length ≤ cat.length := List.length_filter_le _ _
theorem svsOf_len {o : Ow} (h : o.svs.length ≤ 30) : (svsOf o).length ≤ 30 := by unfold svsOf; split; exact h; simp
theorem cksOf_len {o : Ow} (h : o.cks.length ≤ 30) : (cksOf o).length ≤ 30 := by unfold cksOf; split; exact h; simp
theorem diffL_len {own cat : Ow} {sv cv sv2 cv2 : AV} (ho : OwIs B own sv cv) (hc : OwIs B cat sv2 cv2) : (diffL own cat).length ≤ 1000 := by
  have h1 := headL_len (own := own) (cat := cat)
  have h2 := drop_len (own := own.cks.map (·.id)) (cat := (cksOf cat).map (·.id))
  have h3 := drop_len (own := own.svs.map (·.1.id)) (cat := (svsOf cat).map (·.1.id))
  have h4 := layL_len (node := own.node) (cat := svsOf cat) (own := own.svs)
  have h5 := lay_len (node := own.node) (cat := cksOf cat) (own := own.cks)
  have h6 := svsOf_len hc.ls
  have h7 := cksOf_len hc.lc
  have h8 := ho.ls
  have h9 := ho.lc
  rw [List.length_map] at h2 h3
  unfold diffL
  simp only [List.length_append, List.length_map]
  omega
theorem diffL_tags {own cat : Ow} {sv cv : AV} (ho : OwIs B own sv cv) : ∀ c, c ∈ diffL own cat → c.tags.length ≤ 8796093021952 := by
  have hz : ∀ c : Cm, c.tags = [] → c.tags.length ≤ 8796093021952 := by intro c h; rw [h]; simp
  unfold diffL
  refine mem_both ?_ (mem_both ?_ (mem_both ?_ (mem_both ?_ ?_)))
  · intro c hc
    unfold headL at hc
    split at hc
    · cases hc
    · rw [List.mem_singleton] at hc; subst hc; exact hz _ rfl
  · intro c hc; obtain ⟨x, _, rfl⟩ := List.mem_map.1 hc; exact hz _ rfl
  · intro c hc; obtain ⟨x, _, rfl⟩ := List.mem_map.1 hc; exact hz _ rfl
  · intro c hc
    unfold layL at hc
    obtain ⟨x, hx, rfl⟩ := List.mem_map.1 hc
    exact (ho.tg x (List.mem_filter.1 hx).1).2
  · intro c hc
    obtain ⟨p, hp, rfl⟩ := List.mem_map.1 hc
    obtain ⟨x, _, rfl⟩ := List.mem_map.1 hp
    exact hz _ rfl
theorem cutIs {o : Ow} {sv cv : AV} (hs : SlIs B [] sv 7 (List.take 30 (o.svs.map fun p => svC p.1 p.2))) (hc : SlIs B [] cv 7 (List.take 30 (o.cks.map fun p => ckC p))) (tg : TagsIn B o.svs)
    (h : Once ((o.svs.take 30).map fun p => p.1.id) ∧ Once ((o.cks.take 30).map fun p => p.id)) : OwIs B ⟨o.there, o.node, o.addr, o.svs.take 30, o.cks.take 30⟩ sv cv :=
  ⟨by rw [List.map_take]; exact hs, by rw [List.map_take]; exact hc, by simp; omega, by simp; omega, h.1, h.2, fun p hp => tg p (List.mem_of_mem_take hp)⟩
set_option maxHeartbeats 4000000 in
theorem tells_ok {own cat : Ow} {sv cv sv2 cv2 : AV} (hs : SlIs B [] sv 7 (own.svs.map fun p => svC p.1 p.2)) (hc : SlIs B [] cv 7 (own.cks.map fun p => ckC p)) (tg : TagsIn B own.svs) (ls : own.svs.length ≤ 9223372036854775807) (lc : own.cks.length ≤ 9223372036854775807)
    (hs2 : SlIs B [] sv2 7 (cat.svs.map fun p => svC p.1 p.2)) (hc2 : SlIs B [] cv2 7 (cat.cks.map fun p => ckC p)) (tg2 : TagsIn B cat.svs) (ls2 : cat.svs.length ≤ 9223372036854775807) (lc2 : cat.cks.length ≤ 9223372036854775807) :
    WF B tab (.func 3) [.agg (owC own sv cv), .agg (owC cat sv2 cv2)] [] fun v _ => v = .bool true := by
  refine WF.fn g3 rfl ?_
  have e1 := hs.cell
  have e2 := hc.cell
  have e3 := hs2.cell
  have e4 := hc2.cell
  refine WC.seq (WC.reg ?_)
  repeat' (first
    | apply WOps.nil | apply WC.reg | apply WC.skip | apply WC.ret | (apply WC.condT; rfl) | (apply WC.condF; rfl) | apply WC.dreg | apply WD.nil | (apply WOps.ldG; rfl; rfl; (first | exact ld0 rfl | exact ld1 rfl | exact ld2 rfl); rfl) | (apply WOps.st; rfl; rfl; (first | exact tk0 | exact tk1 | exact tk2); rfl; (first | rfl | ((repeat' (first | exact ac0 | apply ac1)) <;> (first | rfl | assumption))); rfl) | (apply WOps.bx; rfl; rfl; (first | rfl | ((repeat' (first | exact ac0 | apply ac1)) <;> (first | rfl | assumption))); intro _) | (apply WD.st; rfl; rfl; rfl; (first | exact tk0 | exact tk1 | exact tk2); rfl; (first | rfl | ((repeat' (first | exact ac0 | apply ac1)) <;> (first | rfl | assumption))); rfl) | (apply WOps.cmp; rfl; rfl; rfl; rfl; intro _ _) | (apply WOps.cmpT; rfl; rfl; rfl; rfl; intro _ _) | (apply WOps.eqB; rfl; rfl; rfl; intro _ _) | (apply WOps.purG; rfl; (intro _; rfl)) | (apply WOps.skp; rfl) | (apply WD.load; rfl; (first | (apply at1; (first | exact rd0 rfl rfl rfl | exact rd1 rfl rfl rfl | exact rd2 rfl rfl rfl); rfl) | (apply at2; (first | exact rd0 rfl rfl rfl | exact rd1 rfl rfl rfl | exact rd2 rfl rfl rfl); repeat' (first | exact same0 | (apply same1; (first | exact rd0 rfl rfl rfl | exact rd1 rfl rfl rfl | exact rd2 rfl rfl rfl); rfl) | (apply same2; (first | exact rd0 rfl rfl rfl | exact rd1 rfl rfl rfl | exact rd2 rfl rfl rfl)))))) | (apply WD.cmp; rfl; rfl; rfl; rfl; intro _ _) | (apply WD.cmpT; rfl; rfl; rfl; rfl; intro _ _) | (apply WD.eqB; rfl; rfl; rfl; intro _ _) | (apply WD.pur; rfl; (intro _; rfl)) | (apply WD.skp; rfl) | (apply WD.skpL; rfl) | (apply WD.skpX; rfl) | (apply WOps.ask; rfl; all_goals (intro hb; first | subst hb | fail_if_success (cases hb))) | (apply WC.condA; rfl; all_goals (intro hb; try subst hb)) | (apply WD.ask; rfl; all_goals (intro hb; first | subst hb | fail_if_success (cases hb))))
  rename_i p2 p3
  refine WC.seq ?_
  repeat' (first
    | apply WOps.nil | apply WC.reg | apply WC.skip | apply WC.ret | (apply WC.condT; rfl) | (apply WC.condF; rfl) | apply WC.dreg | apply WD.nil | (apply WOps.ldG; rfl; rfl; (first | exact ld0 rfl | exact ld1 rfl | exact ld2 rfl); rfl) | (apply WOps.st; rfl; rfl; (first | exact tk0 | exact tk1 | exact tk2); rfl; (first | rfl | ((repeat' (first | exact ac0 | apply ac1)) <;> (first | rfl | assumption))); rfl) | (apply WOps.bx; rfl; rfl; (first | rfl | ((repeat' (first | exact ac0 | apply ac1)) <;> (first | rfl | assumption))); intro _) | (apply WD.st; rfl; rfl; rfl; (first | exact tk0 | exact tk1 | exact tk2); rfl; (first | rfl | ((repeat' (first | exact ac0 | apply ac1)) <;> (first | rfl | assumption))); rfl) | (apply WD.clR; rfl; rfl; exact few4_ok hs hc (by simpa using ls) (by simpa using lc); rintro _ ⟨sv1, cv1, rfl, s1, c1⟩; have e5 := s1.cell; have e6 := c1.cell) | (apply WD.clR; rfl; rfl; exact few4_ok hs2 hc2 (by simpa using ls2) (by simpa using lc2); rintro _ ⟨sv3, cv3, rfl, s3, c3⟩; have e7 := s3.cell; have e8 := c3.cell) | (apply WOps.cmp; rfl; rfl; rfl; rfl; intro _ _) | (apply WOps.cmpT; rfl; rfl; rfl; rfl; intro _ _) | (apply WOps.eqB; rfl; rfl; rfl; intro _ _) | (apply WOps.purG; rfl; (intro _; rfl)) | (apply WOps.skp; rfl) | (apply WD.load; rfl; (first | (apply at1; (first | exact rd0 rfl rfl rfl | exact rd1 rfl rfl rfl | exact rd2 rfl rfl rfl); rfl) | (apply at2; (first | exact rd0 rfl rfl rfl | exact rd1 rfl rfl rfl | exact rd2 rfl rfl rfl); repeat' (first | exact same0 | (apply same1; (first | exact rd0 rfl rfl rfl | exact rd1 rfl rfl rfl | exact rd2 rfl rfl rfl); rfl) | (apply same2; (first | exact rd0 rfl rfl rfl | exact rd1 rfl rfl rfl | exact rd2 rfl rfl rfl)))))) | (apply WD.cmp; rfl; rfl; rfl; rfl; intro _ _) | (apply WD.cmpT; rfl; rfl; rfl; rfl; intro _ _) | (apply WD.eqB; rfl; rfl; rfl; intro _ _) | (apply WD.pur; rfl; (intro _; rfl)) | (apply WD.skp; rfl) | (apply WD.skpL; rfl) | (apply WD.skpX; rfl) | (apply WOps.ask; rfl; all_goals (intro hb; first | subst hb | fail_if_success (cases hb))) | (apply WC.condA; rfl; all_goals (intro hb; try subst hb)) | (apply WD.ask; rfl; all_goals (intro hb; first | subst hb | fail_if_success (cases hb))))
  have s1' : SlIs B [] sv1 7 ((own.svs.take 30).map fun p => svC p.1 p.2) := by rw [List.map_take]; exact s1
  have c1' : SlIs B [] cv1 7 ((own.cks.take 30).map fun p => ckC p) := by rw [List.map_take]; exact c1
  have s3' : SlIs B [] sv3 7 ((cat.svs.take 30).map fun p => svC p.1 p.2) := by rw [List.map_take]; exact s3
  have c3' : SlIs B [] cv3 7 ((cat.cks.take 30).map fun p => ckC p) := by rw [List.map_take]; exact c3
  repeat' (first
    | apply WOps.nil | apply WC.seq | apply WC.reg | apply WC.skip | apply WC.ret | (apply WC.condT; rfl) | (apply WC.condF; rfl) | apply WC.dreg | apply WD.nil | (apply WOps.ldG; rfl; rfl; (first | exact ld0 rfl | exact ld1 rfl | exact ld2 rfl); rfl) | (apply WOps.st; rfl; rfl; (first | exact tk0 | exact tk1 | exact tk2); rfl; (first | rfl | ((repeat' (first | exact ac0 | apply ac1)) <;> (first | rfl | assumption))); rfl) | (apply WOps.bx; rfl; rfl; (first | rfl | ((repeat' (first | exact ac0 | apply ac1)) <;> (first | rfl | assumption))); intro _) | (apply WD.st; rfl; rfl; rfl; (first | exact tk0 | exact tk1 | exact tk2); rfl; (first | rfl | ((repeat' (first | exact ac0 | apply ac1)) <;> (first | rfl | assumption))); rfl) | (apply WOps.clR; rfl; rfl; exact rising5_ok s1' c1' (by simp; omega) (by simp; omega); rintro _ ⟨b1, rfl, hr1⟩; cases b1) | (apply WOps.clR; rfl; rfl; exact rising5_ok s3' c3' (by simp; omega) (by simp; omega); rintro _ ⟨b3, rfl, hr3⟩; cases b3) | (apply WOps.clG1; rfl; rfl; exact WF.const g7) | (apply WOps.cmp; rfl; rfl; rfl; rfl; intro _ _) | (apply WOps.cmpT; rfl; rfl; rfl; rfl; intro _ _) | (apply WOps.eqB; rfl; rfl; rfl; intro _ _) | (apply WOps.purG; rfl; (intro _; rfl)) | (apply WOps.skp; rfl) | (apply WD.load; rfl; (first | (apply at1; (first | exact rd0 rfl rfl rfl | exact rd1 rfl rfl rfl | exact rd2 rfl rfl rfl); rfl) | (apply at2; (first | exact rd0 rfl rfl rfl | exact rd1 rfl rfl rfl | exact rd2 rfl rfl rfl); repeat' (first | exact same0 | (apply same1; (first | exact rd0 rfl rfl rfl | exact rd1 rfl rfl rfl | exact rd2 rfl rfl rfl); rfl) | (apply same2; (first | exact rd0 rfl rfl rfl | exact rd1 rfl rfl rfl | exact rd2 rfl rfl rfl)))))) | (apply WD.cmp; rfl; rfl; rfl; rfl; intro _ _) | (apply WD.cmpT; rfl; rfl; rfl; rfl; intro _ _) | (apply WD.eqB; rfl; rfl; rfl; intro _ _) | (apply WD.pur; rfl; (intro _; rfl)) | (apply WD.skp; rfl) | (apply WD.skpL; rfl) | (apply WD.skpX; rfl) | (apply WOps.ask; rfl; all_goals (intro hb; first | subst hb | fail_if_success (cases hb))) | (apply WC.condA; rfl; all_goals (intro hb; try subst hb)) | (apply WD.ask; rfl; all_goals (intro hb; first | subst hb | fail_if_success (cases hb))))
  all_goals first
    | exact ⟨trivial, [_], ⟨_, [], rfl, rfl, rfl⟩, rfl⟩
    | skip
  have I1 := cutIs s1 c1 tg (hr1 rfl)
  have I2 := cutIs s3 c3 tg2 (hr3 rfl)
  have ql : ∀ {qs : List (Cm × AV)}, qs.map (·.1) = diffL ⟨own.there, own.node, own.addr, own.svs.take 30, own.cks.take 30⟩ ⟨cat.there, cat.node, cat.addr, cat.svs.take 30, cat.cks.take 30⟩ → qs.length ≤ 1000 := by
    intro qs h
    have h1 := congrArg List.length h
    have h2 := diffL_len I1 I2
    rw [List.length_map] at h1
    omega
  have qt : ∀ {qs : List (Cm × AV)}, qs.map (·.1) = diffL ⟨own.there, own.node, own.addr, own.svs.take 30, own.cks.take 30⟩ ⟨cat.there, cat.node, cat.addr, cat.svs.take 30, cat.cks.take 30⟩ → ∀ p, p ∈ qs → p.1.tags.length ≤ 8796093021952 := by
    intro qs h p hp
    exact diffL_tags I1 p.1 (h ▸ List.mem_map_of_mem (f := fun x : Cm × AV => x.1) hp)
  have D7 := fun H => diff7_ok (H := H) I1 I2
  have D9 := fun H => diff9_ok (H := H) I1 I2
  have D10 := fun H => same10_ok (H := H) I1 I2
  repeat' (first
    | apply WOps.nil | apply WC.seq | apply WC.reg | apply WC.skip | apply WC.ret | (apply WC.condT; rfl) | (apply WC.condF; rfl) | apply WC.dreg | apply WD.nil | (apply WOps.ldG; rfl; rfl; (first | exact ld0 rfl | exact ld1 rfl | exact ld2 rfl); rfl) | (apply WOps.st; rfl; rfl; (first | exact tk0 | exact tk1 | exact tk2); rfl; (first | rfl | ((repeat' (first | exact ac0 | apply ac1)) <;> (first | rfl | assumption))); rfl) | (apply WOps.bx; rfl; rfl; (first | rfl | ((repeat' (first | exact ac0 | apply ac1)) <;> (first | rfl | assumption))); intro _) | (apply WD.st; rfl; rfl; rfl; (first | exact tk0 | exact tk1 | exact tk2); rfl; (first | rfl | ((repeat' (first | exact ac0 | apply ac1)) <;> (first | rfl | assumption))); rfl) | (apply WOps.ldG; rfl; rfl; exact Ld.right (ld0 rfl); rfl) | (apply WOps.ldG; rfl; rfl; exact Ld.right (ld1 rfl); rfl) | (apply WOps.ldG; rfl; rfl; exact Ld.right (Ld.right (Ld.right (ld0 rfl))); rfl) | (apply WOps.ldG; rfl; rfl; exact Ld.right (Ld.right (Ld.right (ld1 rfl))); rfl) | (apply WOps.clA; rfl; rfl; exact D7 _; rintro _ _ ⟨hw7, ps, hp, o7, t7, rfl⟩) | (apply WOps.clA; rfl; rfl; exact D9 _; rintro _ _ ⟨hw9, G, qs, hq, o9, t9, rfl⟩) | (apply WOps.clA; rfl; rfl; exact cmds8_ok (SlIs.left (cms_sl o9)) (SlIs.right (SlIs.right (SlIs.left (cms_sl o7)))) (fun p hp => SlIs.right (SlIs.left (t9 p hp))) (fun p hp => (t7 p hp).any) (ql hq) (qt hq); rintro _ _ ⟨⟨bb, rfl, hbb⟩, rfl⟩; have e := hbb.2 (hq.trans hp.symm); subst e) | (apply WOps.clA; rfl; rfl; exact D10 _; rintro _ _ ⟨⟨b2, rfl, hb2⟩, rfl⟩) | (apply WOps.lenO; rfl; rfl; exact o7) | (apply WOps.clG1; rfl; rfl; exact WF.const g7) | (apply WOps.cmp; rfl; rfl; rfl; rfl; intro _ _) | (apply WOps.cmpT; rfl; rfl; rfl; rfl; intro _ _) | (apply WOps.eqB; rfl; rfl; rfl; intro _ _) | (apply WOps.purG; rfl; (intro _; rfl)) | (apply WOps.skp; rfl) | (apply WD.load; rfl; (first | (apply at1; (first | exact rd0 rfl rfl rfl | exact rd1 rfl rfl rfl | exact rd2 rfl rfl rfl); rfl) | (apply at2; (first | exact rd0 rfl rfl rfl | exact rd1 rfl rfl rfl | exact rd2 rfl rfl rfl); repeat' (first | exact same0 | (apply same1; (first | exact rd0 rfl rfl rfl | exact rd1 rfl rfl rfl | exact rd2 rfl rfl rfl); rfl) | (apply same2; (first | exact rd0 rfl rfl rfl | exact rd1 rfl rfl rfl | exact rd2 rfl rfl rfl)))))) | (apply WD.cmp; rfl; rfl; rfl; rfl; intro _ _) | (apply WD.cmpT; rfl; rfl; rfl; rfl; intro _ _) | (apply WD.eqB; rfl; rfl; rfl; intro _ _) | (apply WD.pur; rfl; (intro _; rfl)) | (apply WD.skp; rfl) | (apply WD.skpL; rfl) | (apply WD.skpX; rfl) | (apply WOps.ask; rfl; all_goals (intro hb; first | subst hb | fail_if_success (cases hb))) | (apply WC.condA; rfl; all_goals (intro hb; try subst hb)) | (apply WD.ask; rfl; all_goals (intro hb; first | subst hb | fail_if_success (cases hb))))
  all_goals first
    | exact ⟨trivial, [_], ⟨_, [], rfl, rfl, rfl⟩, rfl⟩
    | skip
  exfalso
  rename_i v hv hne
  have e1 : ps.length = 0 ↔ diffL ⟨own.there, own.node, own.addr, own.svs.take 30, own.cks.take 30⟩ ⟨cat.there, cat.node, cat.addr, cat.svs.take 30, cat.cks.take 30⟩ = [] := by
    rw [← dif_zero, ← hp, List.length_map]
  have e2 : b2 = v := by
    rw [Bool.eq_iff_iff, hb2, hv, ← e1]
    simp [cmpP]
  exact absurd (hne.2 (by rw [if_neg (by simp)]; exact e2)) (by simp)
theorem t3 : tyOf Try.prog 3 = .int .i64 := by kernel_rfl
theorem t4 : tyOf Try.prog 4 = .bool := by kernel_rfl
theorem t9 : tyOf Try.prog 9 = .str := by kernel_rfl
theorem t22 : tyOf Try.prog 22 = .sl 38 7 := by kernel_rfl
theorem t23 : tyOf Try.prog 23 = .sl 40 7 := by kernel_rfl
theorem t25 : tyOf Try.prog 25 = .st [(0, 1, 4), (1, 1, 3), (2, 1, 9), (3, 1, 22), (4, 1, 23)] := by kernel_rfl
theorem t35 : tyOf Try.prog 35 = .sl 9 1 := by kernel_rfl
theorem t36 : tyOf Try.prog 36 = .int .u64 := by kernel_rfl
theorem t38 : tyOf Try.prog 38 = .st [(0, 1, 3), (1, 1, 9), (2, 1, 9), (3, 1, 35), (4, 1, 3), (5, 1, 36), (6, 1, 36)] := by kernel_rfl
theorem t40 : tyOf Try.prog 40 = .st [(0, 1, 3), (1, 1, 9), (2, 1, 9), (3, 1, 9), (4, 1, 3), (5, 1, 36), (6, 1, 36)] := by kernel_rfl
theorem bytes9 : Try.prog.bytesOf 9 = 16 := by kernel_rfl
theorem tags_of : ∀ {xs : List (List AV)} (h : ∀ (i : Nat) c, xs[i]? = some c → AllT [.str] c), ∃ l : List (List Nat), xs = l.map strC := by
  intro xs
  induction xs with
  | nil => intro _; exact ⟨[], rfl⟩
  | cons c xs ih =>
    intro h
    obtain ⟨l, rfl⟩ := ih fun i c' h' => h (i + 1) c' (by simpa using h')
    obtain ⟨_, _, rfl, ⟨s, rfl⟩, rfl⟩ := h 0 c (by simp)
    exact ⟨s :: l, rfl⟩
theorem sv_of {n : Nat} {c : List AV} (h : Is Try.prog B n 38 c) : ∃ (s : Sv) (tv : AV), c = svC s tv ∧ SlIs B [] tv 1 (s.tags.map strC) ∧ s.tags.length ≤ 8796093021952 := by
  obtain ⟨m, h_1⟩ := h.st t38
  obtain ⟨n1, r, rfl, _, _, h_2⟩ := h_1.int t3
  obtain ⟨i1, r, rfl, _, _, h_3⟩ := h_2.str t9
  obtain ⟨m1, r, rfl, _, _, h_4⟩ := h_3.str t9
  obtain ⟨p, r, rfl, _, h1_6, h_5⟩ := h_4.cons
  obtain ⟨tg, ts, rfl, k1, k2, k3⟩ := h1_6.textsB t35 t9
  obtain ⟨p1, r, rfl, _, _, h_7⟩ := h_5.int t3
  obtain ⟨a1, r, rfl, _, _, h_8⟩ := h_7.int t36
  obtain ⟨b1, r, rfl, _, _, h_9⟩ := h_8.int t36
  obtain rfl := h_9.nil
  obtain ⟨l, rfl⟩ := tags_of k2
  rw [bytes9, List.length_map] at k3
  have e : reachBytes = 140737488351232 := rfl
  exact ⟨⟨n1, i1, m1, l, p1, a1, b1⟩, tg, rfl, k1, by simp only; omega⟩
theorem svs_of {m : Nat} : ∀ {xs : List (List AV)} (h : ∀ (i : Nat) c, xs[i]? = some c → Is Try.prog B m 38 c), ∃ l : List (Sv × AV), xs = l.map (fun p => svC p.1 p.2) ∧ TagsIn B l := by
  intro xs
  induction xs with
  | nil => intro _; exact ⟨[], rfl, fun p hp => by cases hp⟩
  | cons c xs ih =>
    intro h
    obtain ⟨l, rfl, hl⟩ := ih fun i c' h' => h (i + 1) c' (by simpa using h')
    obtain ⟨s, tv, rfl, h1, h2⟩ := sv_of (h 0 c (by simp))
    refine ⟨(s, tv) :: l, rfl, fun p hp => ?_⟩
    rcases List.mem_cons.1 hp with rfl | hp
    · exact ⟨h1, h2⟩
    · exact hl p hp
theorem cks_of : ∀ {xs : List (List AV)} (h : ∀ (i : Nat) c, xs[i]? = some c → AllT [.int .i64, .str, .str, .str, .int .i64, .int .u64, .int .u64] c), ∃ l : List Ck, xs = l.map fun p => ckC p := by
  intro xs
  induction xs with
  | nil => intro _; exact ⟨[], rfl⟩
  | cons c xs ih =>
    intro h
    obtain ⟨l, rfl⟩ := ih fun i c' h' => h (i + 1) c' (by simpa using h')
    obtain ⟨_, _, rfl, ⟨a, rfl⟩, _, _, rfl, ⟨b, rfl⟩, _, _, rfl, ⟨c, rfl⟩, _, _, rfl, ⟨d, rfl⟩, _, _, rfl, ⟨e, rfl⟩, _, _, rfl, ⟨f, rfl⟩, _, _, rfl, ⟨g, rfl⟩, rfl⟩ := h 0 c (by simp)
    exact ⟨⟨a, b, c, d, e, f, g⟩ :: l, rfl⟩
theorem own_of {n : Nat} {c : List AV} (h : Is Try.prog B n 25 c) : ∃ (o : Ow) (sv cv : AV), c = owC o sv cv ∧ SlIs B [] sv 7 (o.svs.map fun p => svC p.1 p.2) ∧ SlIs B [] cv 7 (o.cks.map fun p => ckC p) ∧ TagsIn B o.svs ∧ o.svs.length ≤ 9223372036854775807 ∧ o.cks.length ≤ 9223372036854775807 := by
  obtain ⟨m, h⟩ := h.st t25
  obtain ⟨th, r, rfl, h1⟩ := h.bool t4
  obtain ⟨nd, r, rfl, _, _, h2⟩ := h1.int t3
  obtain ⟨ad, r, rfl, _, _, h3⟩ := h2.str t9
  obtain ⟨p, r, rfl, _, g1, h4⟩ := h3.cons
  obtain ⟨m1, v1, xs1, rfl, s1, l1, e1⟩ := g1.slice t22
  obtain ⟨p, r, rfl, _, g2, h5⟩ := h4.cons
  obtain ⟨v2, xs2, rfl, s2, y2, l2⟩ := g2.flat (cts := [.int .i64, .str, .str, .str, .int .i64, .int .u64, .int .u64]) t23 t40 ⟨t3, t9, t9, t9, t3, t36, t36, trivial⟩
  obtain rfl := h5.nil
  obtain ⟨ss, rfl, ht⟩ := svs_of e1
  obtain ⟨cs, rfl⟩ := cks_of y2
  exact ⟨⟨th, nd, ad, ss, cs⟩, v1, v2, rfl, s1, s2, ht, by simpa using l1, by simpa using l2⟩
theorem diffTells_wf (B : Nat → List AV) (args : List AV) (h : ArgIs Try.prog B Try.f3.params.toList args) : WF B tab (.func 3) args [] fun v _ => v = .bool true := by
  rw [show Try.f3.params.toList = [25, 25] from by kernel_rfl] at h
  match args, h with
  | [a, b], ⟨⟨n, cs, h, ha⟩, ⟨n2, ds, k, hb⟩, _⟩ =>
    rw [show (shapeOf Try.prog 25).1 = true from by kernel_rfl] at ha hb
    simp only at ha hb
    subst ha
    subst hb
    obtain ⟨o1, v1, w1, rfl, a1, a2, a3, a4, a5⟩ := own_of h
    obtain ⟨o2, v2, w2, rfl, b1, b2, b3, b4, b5⟩ := own_of k
    exact tells_ok a1 a2 a3 a4 a5 b1 b2 b3 b4 b5
end Go.Proofs.Ytfahfccbiolheaa.DT
