/- What the functions do, shown by the logic. -/
import Derived.Test.YtgpnpcahcegadaaGreatRoY
set_option linter.unusedSimpArgs false
set_option linter.unusedVariables false
set_option linter.unusedSectionVars false
set_option maxRecDepth 20000
namespace Go.Proofs.YtgpnpcahcegadaaGreat.RO
open Go.Proofs.YtgpnpcahcegadaaGreat.Abs
variable {B : Nat → List AV}
/-! ### How many stand at the nodes -/
def near1 (ns : List (TE KN)) (i : Nat) (m : Int) : Bool := (ns.take i).any fun y => decide (y.v.node = m)
theorem filter_or {V : Type} {es : List V} {p q : V → Bool} (h : ∀ e, e ∈ es → ¬ (p e = true ∧ q e = true)) : (es.filter fun e => p e || q e).length = (es.filter p).length + (es.filter q).length := by
 induction es with
 | nil => rfl
 | cons x r ih =>
  have h1 := h x List.mem_cons_self
  have h2 := ih fun e he => h e (List.mem_cons_of_mem _ he)
  rw [List.filter_cons, List.filter_cons, List.filter_cons]
  cases hp : p x <;> cases hq : q x
  ·simpa using h2
  ·simp only [Bool.or_true, if_true, Bool.false_eq_true, if_false, List.length_cons]; omega
  ·simp only [Bool.or_false, if_true, Bool.false_eq_true, if_false, List.length_cons]; omega
  ·exact absurd ⟨hp, hq⟩ h1
theorem near_next {s : RS} {i : Nat} (hI : Inv 64 s) (h : i < s.ns.length) {V : Type} {es : List V} {nd : V → Int} : (es.filter fun e => near1 s.ns (i + 1) (nd e)).length = (es.filter fun e => near1 s.ns i (nd e)).length + (es.filter fun e => decide (nd e = s.ns[i].v.node)).length := by
 rw [← filter_or]
 ·congr 1
  refine List.filter_congr fun e he => ?_
  unfold near1
  rw [any_take h]
  congr 1
  exact decide_eq_decide.2 ⟨Eq.symm, Eq.symm⟩
 ·rintro e he ⟨h1, h2⟩
  unfold near1 at h1
  rw [List.any_eq_true] at h1
  obtain ⟨y, hy, hk⟩ := h1
  rw [decide_eq_true_iff] at h2 hk
  rw [h2] at hk
  obtain ⟨j, hj, rfl⟩ := List.getElem_of_mem hy
  rw [List.length_take] at hj
  rw [List.getElem_take] at hk
  have so := sorted_of hI.ok.r1 j i (by omega) h (by omega)
  obtain ⟨m1, q1, q2, q3⟩ := hI.ks.kn s.ns[j] (List.getElem_mem _)
  obtain ⟨m2, q4, q5, q6⟩ := hI.ks.kn s.ns[i] (List.getElem_mem _)
  rw [q2, q5] at hk
  have : m1 = m2 := by simp only [Int.ofNat_eq_natCast] at hk; omega
  rw [q3, q6, this, less_irr] at so
  cases so
theorem near_all {s : RS} {V : Type} {es : List V} {nd : V → Int} (h : ∀ e, e ∈ es → ∃ y, y ∈ s.ns ∧ y.v.node = nd e) : (es.filter fun e => near1 s.ns s.ns.length (nd e)).length = es.length := by
 congr 1
 rw [List.filter_eq_self]
 intro e he
 unfold near1
 rw [List.take_length, List.any_eq_true]
 obtain ⟨y, hy, h1⟩ := h e he
 exact ⟨y, hy, decide_eq_true h1⟩
theorem near_none {s : RS} {V : Type} {es : List V} {nd : V → Int} : (es.filter fun e => near1 s.ns 0 (nd e)).length = 0 := by
 have : es.filter (fun e => near1 s.ns 0 (nd e)) = [] := by
  rw [List.filter_eq_nil_iff]
  intro e he
  simp [near1]
 rw [this]; rfl
theorem svc_there {s : RS} {ps : List (TE KS × AV)} {e : TE KC} (hI : Inv 64 s) (hg : Good s) (he : e ∈ s.cs) (hps : ps.map (·.1) = s.ss.map (fun e => (⟨[], e.v, e.mke, e.ix⟩ : TE KS))) : e.v.svc = [] ∨ ∃ p, p ∈ ofP e.v.node ps ∧ p.1.v.id = e.v.svc := by
 by_cases h0 : e.v.svc = []
 ·exact .inl h0
 ·right
  have h1 := (wrongC_iff.1 (hg.gc e he)).2.2.2.2.2.2.2 h0
  rw [ne_eq, find_none] at h1
  simp only [Classical.not_forall, Classical.not_not] at h1
  obtain ⟨y, hy, hk⟩ := h1
  obtain ⟨m, hm, q1, q2⟩ := hI.ks.ks y hy
  obtain ⟨m2, hm2, q3, q4⟩ := hI.ks.kc e he
  rw [q2, q3] at hk
  obtain ⟨q5, q6⟩ := keyS_inj hk
  have h2 : (⟨[], y.v, y.mke, y.ix⟩ : TE KS) ∈ ps.map (·.1) := by rw [hps]; exact List.mem_map.2 ⟨y, hy, rfl⟩
  obtain ⟨p, hp, h3⟩ := List.mem_map.1 h2
  have h4 : p.1.v = y.v := by rw [h3]
  refine ⟨p, ?_, by rw [h4]; exact q6⟩
  unfold ofP
  rw [List.mem_filter]
  refine ⟨hp, decide_eq_true ?_⟩
  rw [h4, q1, q3, q5]; rfl
theorem ofP_len {s : RS} {node : Int} {ps : List (TE KS × AV)} (hps : ps.map (·.1) = s.ss.map (fun e => (⟨[], e.v, e.mke, e.ix⟩ : TE KS))) : (ofP node ps).length = (s.ss.filter fun e => decide (e.v.node = node)).length := by
 have h1 : (ofP node ps).length = ((ps.map (·.1)).filter fun e => decide (e.v.node = node)).length := by
  rw [List.filter_map, List.length_map]; rfl
 rw [h1, hps, List.filter_map, List.length_map]; rfl
set_option maxHeartbeats 8000000 in
theorem whole_ok {wl : AV} {l : List St} (hw : ∀ H : HL, SlIs B H wl 18 (l.map stepC)) (hlen : l.length ≤ 9223372036854775807) (hst : ∀ (i : Nat) (h : i < l.length), StIs B l[i]) :
  WF B tab (.func 4) [wl] [] fun r _ => r = .bool true := by
 refine WF.fn g4 rfl ?_
 have hm : 1 ≤ 64 := by decide
 have h64 : 64 ≤ 64 := by decide
 have hM : mostOf (Int.ofNat 64) = 64 := by decide
 have hM1 : mostOf (Int.ofNat 1) = 1 := by decide
 refine zE (zD ?_)
 repeat' (first
  | apply zC | (apply zB; rfl; (intro _; rfl)))
 refine zE (zD ?_)
 repeat' (first
  | apply zC | (apply WOps.clA; rfl; rfl; exact new7_ok _; rw [hM]; rintro _ H1 ⟨rp, a1, a2, a3, rfl, h1⟩) | (apply zB; rfl; (intro _; rfl)))
 refine WC.cut2 (X := HL × RS × HL) (fun x => [(3, .ptr ⟨false, rp, 0⟩)]) (fun x => x.1) (fun x => (Inv 64 x.2.1 ∧ Good x.2.1) ∧ RosAt B x.1 rp a1 a2 a3 64 x.2.1 x.2.2) ?_ ?_
 ·refine zE (zD ?_)
  repeat' (first
   | apply zC | apply zK | (apply zB; rfl; (intro _; rfl)))
  refine yG ?_
  obtain ⟨i, hi⟩ : ∃ i : Nat, i = 0 := ⟨0, rfl⟩
  obtain ⟨s, hs⟩ : ∃ s : RS, s = rs0 := ⟨_, rfl⟩
  obtain ⟨R, hR⟩ : ∃ h : HL, h = [] := ⟨_, rfl⟩
  refine WL.le (t' := [(0, wl), (3, .ptr ⟨false, rp, 0⟩), (4, .int .i64 (.ofNat i))]) (by subst hi; exact zA rfl (zA rfl (zA rfl zH))) ?_
  have b : RosAt B H1 rp a1 a2 a3 64 s R := by subst hs hR; exact h1
  have hI : Inv 64 s ∧ Good s := by subst hs; exact ⟨Inv.zero hm h64, good_zero⟩
  have hle : i ≤ l.length := by omega
  clear hi hs hR h1
  induction hk : l.length - i using Nat.strongRecOn generalizing i s H1 R with | _ k ih => ?_
  apply WL.step
  repeat' (first
   | apply zC | apply zE | apply zD | apply zJ | apply zZ | (apply zO; rfl) | apply zK | apply zT | (apply zU; rfl; rfl; exact hw _) | (apply zM; rfl; rfl; rfl; rfl; intro _ _) | (apply zB; rfl; (intro _; rfl)) | (apply zV; rfl) | (apply WOps.ask; rfl; all_goals (intro hb; first | subst hb | fail_if_success (cases hb))) | (apply zN; rfl; all_goals (intro hb; try subst hb)))
  ·have hlt : i < l.length := by
    have h0 := ‹true = true ↔ cmpP BinOp.lss (Int.ofNat i) (Int.ofNat (List.map stepC l).length)›
    rw [List.length_map] at h0
    simp [cmpP] at h0; omega
   have hcm : (l.map stepC)[i]? = some (stepC l[i]) := by rw [List.getElem?_map, List.getElem?_eq_getElem hlt]; rfl
   have hI1 : Inv 64 (stepS 64 s l[i]) ∧ Good (stepS 64 s l[i]) := ⟨hI.1.step, good_step hI.1 hI.2⟩
   repeat' (first
    | apply zC | apply zD | apply zW | (apply yI; rfl; rfl; exact new8_ok _; rw [hM1]; rintro _ H2 ⟨wp, rfl, h2⟩) | (apply WD.ixSl; rfl; rfl; rfl; exact hw _; exact hcm; intro ax hax) | (apply zI; rfl; · repeat' (first | refine at1 ?_ rfl | apply at2 | exact same0 | refine same1 ?_ rfl | apply same2 | exact rd_ld rfl (hax _ (hw _)) rfl)) | (apply yI; rfl; rfl; exact step9_ok (t := l[i]) hI.1 (Inv.zero (M := 1) (by decide) (by decide)) (.inr rfl) (hst i hlt) (Both.mk0 b h2); rintro _ H3 ⟨c, rfl, hc, b1⟩) | (apply zR; rfl; rfl; rfl; omega) | (apply zB; rfl; (intro _; rfl)) | (apply zQ; rfl; (intro _; rfl)))
   obtain ⟨X, b2, _⟩ := b1.ros
   exact WL.le (zA rfl (zA rfl (zA rfl zH))) (ih _ (by omega) _ (i + 1) _ _ b2 hI1 (by omega) rfl)
  all_goals exact ⟨(H1, s, R), zA rfl zH, SubP.refl, hI, b⟩
 rintro ⟨H, s, R⟩ ⟨⟨hI, hg⟩, b⟩
 simp only at hI hg b ⊢
 have n1 := hI.ok.n1
 have n2 := hI.ok.n2
 have n3 := hI.ok.n3
 refine zE (zD ?_)
 repeat' (first
  | apply zC | (apply WOps.clA; rfl; rfl; exact told14_at hI.ok b; rintro t5 _ ⟨h9, o9, rfl⟩) | (apply WOps.clA; rfl; rfl; exact told15_at hI.ok (b.add h9); rintro t6 _ ⟨h11, G11, qs, hqs, o11, hin, rfl⟩) | (apply WOps.clA; rfl; rfl; exact told16_at hI.ok (((b.add h9).add G11).add h11); rintro t7 _ ⟨h13, o13, rfl⟩) | (apply zB; rfl; (intro _; rfl)))
 have hR : RosAt B (h13 ++ (h11 ++ (G11 ++ (h9 ++ H)))) rp a1 a2 a3 64 s (h13 ++ (h11 ++ (G11 ++ (h9 ++ R)))) := (((b.add h9).add G11).add h11).add h13
 have sN : SlIs B (h13 ++ (h11 ++ (G11 ++ (h9 ++ H)))) t5 4 (s.ns.map entN) := SlIs.right (SlIs.right (SlIs.right (SlIs.left (entsN_sl o9))))
 have hql : qs.length = s.ss.length := by
  have := congrArg List.length hqs
  rw [List.length_map, List.length_map] at this; exact this
 generalize hH0 : h13 ++ (h11 ++ (G11 ++ (h9 ++ H))) = H0 at hR sN ⊢
 refine zE (zD ?_)
 repeat' (first
  | apply zC | (apply zB; rfl; (intro _; rfl)))
 refine zE (zE (zD ?_))
 repeat' (first
  | apply zC | apply zK | (apply zB; rfl; (intro _; rfl)))
 refine yG ?_
 obtain ⟨i, hi⟩ : ∃ i : Nat, i = 0 := ⟨0, rfl⟩
 obtain ⟨n, hn⟩ : ∃ i : Nat, i = 0 := ⟨0, rfl⟩
 obtain ⟨m, hm⟩ : ∃ i : Nat, i = 0 := ⟨0, rfl⟩
 refine WL.le (t' := [(3, .ptr ⟨false, rp, 0⟩), (5, t5), (6, t6), (7, t7), (8, .int .i64 (.ofNat n)), (9, .int .i64 (.ofNat m)), (10, .int .i64 (.ofNat i))]) (by subst hi hn hm; exact zA rfl (zA rfl (zA rfl (zA rfl (zA rfl (zA rfl (zA rfl zH))))))) ?_
 have hn2 : n = (s.ss.filter fun e => near1 s.ns i e.v.node).length := by subst hi hn; exact near_none.symm
 have hm2 : m = (s.cs.filter fun e => near1 s.ns i e.v.node).length := by subst hi hm; exact near_none.symm
 have hle : i ≤ s.ns.length := by omega
 clear hi hn hm
 induction hk : s.ns.length - i using Nat.strongRecOn generalizing i n m with | _ k ih => ?_
 apply WL.step
 refine zE (zE (zD ?_))
 repeat' (first
  | apply zC | apply zJ | apply zZ | (apply zU; rfl; rfl; exact sN) | (apply zM; rfl; rfl; rfl; rfl; intro _ _) | (apply zB; rfl; (intro _; rfl)) | (apply zN; rfl; all_goals (intro hb; try subst hb)))
 all_goals rw [List.length_map] at *
 ·have hlt : i < s.ns.length := by
   have h0 := ‹true = true ↔ cmpP BinOp.lss (Int.ofNat i) (Int.ofNat s.ns.length)›.1 rfl
   simp [cmpP] at h0; omega
  have hcm : (s.ns.map entN)[i]? = some (entN s.ns[i]) := by rw [List.getElem?_map, List.getElem?_eq_getElem hlt]; rfl
  have hi9 : i + 1 ≤ 9223372036854775807 := by omega
  have nnS := near_next (es := s.ss) (nd := fun e => e.v.node) hI hlt
  have nnC := near_next (es := s.cs) (nd := fun e => e.v.node) hI hlt
  have hn3 : n ≤ 64 := by rw [hn2]; exact Nat.le_trans (List.length_filter_le _ _) n2
  have hm3 : m ≤ 64 := by rw [hm2]; exact Nat.le_trans (List.length_filter_le _ _) n3
  have nx : ∀ n' m' H', SubP H0 H' → n' = (s.ss.filter fun e => near1 s.ns (i + 1) e.v.node).length → m' = (s.cs.filter fun e => near1 s.ns (i + 1) e.v.node).length → WL B tab c4.nt none _ [(3, .ptr ⟨false, rp, 0⟩), (5, t5), (6, t6), (7, t7), (8, .int .i64 (.ofNat n')), (9, .int .i64 (.ofNat m')), (10, .int .i64 (.ofNat (i + 1)))] H' _ := fun n' m' H' q1 q2 q3 => yB q1 (ih _ (by omega) (i + 1) n' m' q2 q3 (by omega) rfl)
  refine zE (zK (zE (zD ?_)))
  repeat' (first
   | apply zC | (apply yA; rfl; rfl; rfl; exact sN; exact hcm; intro ax hax) | (apply zF; rfl; rfl; exact Ld.part hax 0 1 (by omega); rfl) | (apply WOps.clA; rfl; rfl; exact of17_ok hI.ok hR; rintro _ _ ⟨va, vb, x1, x2, G, ps, rfl, hps, oa, hin2, ob, rfl⟩) | (apply zB; rfl; (intro _; rfl)))
  have hA : (ofP s.ns[i].v.node ps).length = (s.ss.filter fun e => decide (e.v.node = s.ns[i].v.node)).length := ofP_len hps
  have hB : (ofE (fun v : KC => decide (v.node = s.ns[i].v.node)) s.cs).length = (s.cs.filter fun e => decide (e.v.node = s.ns[i].v.node)).length := rfl
  have hA64 : (ofP s.ns[i].v.node ps).length ≤ 64 := by rw [hA]; exact Nat.le_trans (List.length_filter_le _ _) n2
  have hB64 : (ofE (fun v : KC => decide (v.node = s.ns[i].v.node)) s.cs).length ≤ 64 := by rw [hB]; exact Nat.le_trans (List.length_filter_le _ _) n3
  have hBm : ∀ e, e ∈ ofE (fun v : KC => decide (v.node = s.ns[i].v.node)) s.cs → e ∈ s.cs ∧ e.v.node = s.ns[i].v.node := fun e he => by
   unfold ofE at he
   rw [List.mem_filter, decide_eq_true_iff] at he
   exact he
  rw [← hA] at nnS
  rw [← hB] at nnC
  generalize ofE (fun v : KC => decide (v.node = s.ns[i].v.node)) s.cs = L2 at *
  have sB : SlIs B (x2 ++ (x1 ++ (G ++ H0))) vb 7 (L2.map entC) := SlIs.left (entsC_sl ob)
  have sA : SlIs B (x2 ++ (x1 ++ (G ++ H0))) va 7 ((ofP s.ns[i].v.node ps).map fun p => entS p.1 p.2) := SlIs.right (SlIs.left (entP_sl oa))
  have sN2 : SlIs B (x2 ++ (x1 ++ (G ++ H0))) t5 4 (s.ns.map entN) := SlIs.right (SlIs.right (SlIs.right sN))
  have subH : SubP H0 (x2 ++ (x1 ++ (G ++ H0))) := subF (by intro f; simp only [AV.cells, pm] <;> omega)
  refine zE (zD ?_)
  repeat' (first
   | apply zC | (apply WOps.lenO; rfl; rfl; exact oa) | (apply zR; rfl; rfl; rfl; omega) | (apply zB; rfl; (intro _; rfl)))
  refine zE (zD ?_)
  repeat' (first
   | apply zC | (apply WOps.lenO; rfl; rfl; exact ob) | (apply zR; rfl; rfl; rfl; omega) | (apply zB; rfl; (intro _; rfl)))
  refine zE (zD ?_)
  repeat' (first
   | apply zC | apply zK | (apply zB; rfl; (intro _; rfl)))
  refine yG ?_
  obtain ⟨j, hj⟩ : ∃ i : Nat, i = 0 := ⟨0, rfl⟩
  refine WL.le (t' := [(3, .ptr ⟨false, rp, 0⟩), (5, t5), (6, t6), (7, t7), (8, .int .i64 (.ofNat (n + (ofP s.ns[i].v.node ps).length))), (9, .int .i64 (.ofNat (m + L2.length))), (10, .int .i64 (.ofNat i)), (11, va), (12, vb), (13, .int .i64 (.ofNat j))]) (by subst hj; exact zA rfl (zA rfl (zA rfl (zA rfl (zA rfl (zA rfl (zA rfl (zA rfl (zA rfl (zA rfl zH)))))))))) ?_
  have hle2 : j ≤ L2.length := by omega
  clear hj
  induction hk2 : L2.length - j using Nat.strongRecOn generalizing j with | _ k2 ih2 => ?_
  apply WL.step
  refine zE (zE (zD ?_))
  repeat' (first
   | apply zC | apply zD | apply zJ | apply zZ | (apply zU; rfl; rfl; exact sB) | (apply zM; rfl; rfl; rfl; rfl; intro _ _) | (apply zB; rfl; (intro _; rfl)) | (apply zN; rfl; all_goals (intro hb; try subst hb)))
  all_goals rw [List.length_map] at *
  ·have hlt2 : j < L2.length := by
    have h0 := ‹true = true ↔ cmpP BinOp.lss (Int.ofNat j) (Int.ofNat L2.length)›.1 rfl
    simp [cmpP] at h0; omega
   have hcm2 : (L2.map entC)[j]? = some (entC L2[j]) := by rw [List.getElem?_map, List.getElem?_eq_getElem hlt2]; rfl
   obtain ⟨hm4, hm5⟩ := hBm L2[j] (List.getElem_mem hlt2)
   have hth := svc_there hI hg hm4 hps
   rw [hm5] at hth
   have nx2 := ih2 (L2.length - (j + 1)) (by omega) (j + 1) (by omega) rfl
   generalize L2[j] = ec at *
   refine zE (zK (zE (zD ?_)))
   repeat' (first
    | apply zC | (apply yA; rfl; rfl; rfl; exact sB; exact hcm2; intro ay hay) | (apply zF; rfl; rfl; exact Ld.part hay 2 1 (by omega); rfl) | (apply yH; rfl; rfl; rfl; rfl; intro _ _) | (apply zB; rfl; (intro _; rfl)))
   rename_i is0 his0
   refine zE (zE (zD ?_))
   repeat' (first
    | apply zC | apply zK | (apply zB; rfl; (intro _; rfl)))
   refine yG ?_
   obtain ⟨q, hq⟩ : ∃ i : Nat, i = 0 := ⟨0, rfl⟩
   obtain ⟨is, his⟩ : ∃ c : Bool, c = is0 := ⟨_, rfl⟩
   refine WL.le (t' := [(3, .ptr ⟨false, rp, 0⟩), (5, t5), (6, t6), (7, t7), (8, .int .i64 (.ofNat (n + (ofP s.ns[i].v.node ps).length))), (9, .int .i64 (.ofNat (m + L2.length))), (10, .int .i64 (.ofNat i)), (11, va), (12, vb), (13, .int .i64 (.ofNat j)), (14, .bool is), (15, .int .i64 (.ofNat q))]) (by subst hq his; exact zA rfl (zA rfl (zA rfl (zA rfl (zA rfl (zA rfl (zA rfl (zA rfl (zA rfl (zA rfl (zA rfl (zA rfl zH)))))))))))) ?_
   have hs2 : is = true ↔ (ec.v.svc = [] ∨ ∃ p, p ∈ (ofP s.ns[i].v.node ps).take q ∧ p.1.v.id = ec.v.svc) := by
    subst hq his
    rw [his0]
    simp [cmpS]
   have hle3 : q ≤ (ofP s.ns[i].v.node ps).length := by omega
   clear hq his his0
   induction hk3 : (ofP s.ns[i].v.node ps).length - q using Nat.strongRecOn generalizing q is with | _ k3 ih3 => ?_
   apply WL.step
   refine zE (zE (zD ?_))
   repeat' (first
    | apply zC | apply zJ | apply zZ | (apply zU; rfl; rfl; exact sA) | (apply zM; rfl; rfl; rfl; rfl; intro _ _) | (apply zB; rfl; (intro _; rfl)) | (apply zN; rfl; all_goals (intro hb; try subst hb)))
   all_goals rw [List.length_map] at *
   ·have hlt3 : q < (ofP s.ns[i].v.node ps).length := by
     have h0 := ‹true = true ↔ cmpP BinOp.lss (Int.ofNat q) (Int.ofNat (ofP s.ns[i].v.node ps).length)›.1 rfl
     simp [cmpP] at h0; omega
    have hcm3 : ((ofP s.ns[i].v.node ps).map fun p => entS p.1 p.2)[q]? = some (entS (ofP s.ns[i].v.node ps)[q].1 (ofP s.ns[i].v.node ps)[q].2) := by rw [List.getElem?_map, List.getElem?_eq_getElem hlt3]; rfl
    have nx3 : ∀ is' : Bool, (is' = true ↔ (is = true ∨ (ofP s.ns[i].v.node ps)[q].1.v.id = ec.v.svc)) → WL B tab c4.nt none _ [(3, .ptr ⟨false, rp, 0⟩), (5, t5), (6, t6), (7, t7), (8, .int .i64 (.ofNat (n + (ofP s.ns[i].v.node ps).length))), (9, .int .i64 (.ofNat (m + L2.length))), (10, .int .i64 (.ofNat i)), (11, va), (12, vb), (13, .int .i64 (.ofNat j)), (14, .bool is'), (15, .int .i64 (.ofNat (q + 1)))] (x2 ++ (x1 ++ (G ++ H0))) _ := fun is' hi' => ih3 _ (by omega) (q + 1) is' (by
     rw [hi', hs2, List.take_succ_eq_append_getElem hlt3]
     constructor
     ·rintro ((h | ⟨p, hp, h⟩) | h)
      ·exact .inl h
      ·exact .inr ⟨p, List.mem_append_left _ hp, h⟩
      ·exact .inr ⟨_, List.mem_append_right _ List.mem_cons_self, h⟩
     ·rintro (h | ⟨p, hp, h⟩)
      ·exact .inl (.inl h)
      ·rcases List.mem_append.1 hp with hp | hp
       ·exact .inl (.inr ⟨p, hp, h⟩)
       ·rw [List.mem_singleton] at hp
        exact .inr (by rw [← hp]; exact h)) (by omega) rfl
    clear hs2
    cases is
    ·repeat' (first
      | apply zC | apply zE | apply zD | apply zK | apply zT | apply zW | (apply WD.ixSl; rfl; rfl; rfl; exact sA; exact hcm3; intro az haz) | (apply zI; rfl; · repeat' (first | refine at1 ?_ rfl | apply at2 | exact same0 | refine same1 ?_ rfl | apply same2 | exact rd_ld rfl (Ld.part (haz _ sA) 1 1 (by omega)) rfl)) | (apply WD.ixSl; rfl; rfl; rfl; exact sB; exact hcm2; intro au hau) | (apply zI; rfl; · repeat' (first | refine at1 ?_ rfl | apply at2 | exact same0 | refine same1 ?_ rfl | apply same2 | exact rd_ld rfl (Ld.part (hau _ sB) 2 1 (by omega)) rfl)) | (apply zR; rfl; rfl; rfl; omega) | (apply zB; rfl; (intro _; rfl)) | (apply WD.cmpT; rfl; rfl; rfl; rfl; intro _ _) | (apply zQ; rfl; (intro _; rfl)))
     rename_i v hv
     exact WL.le (zA rfl (zA rfl (zA rfl (zA rfl (zA rfl (zA rfl (zA rfl (zA rfl (zA rfl (zA rfl (zA rfl (zA rfl zH)))))))))))) (nx3 v (by rw [hv]; simp [cmpS]))
    ·repeat' (first
      | apply zC | apply zE | apply zD | apply zK | apply zT | apply zW | (apply zR; rfl; rfl; rfl; omega) | (apply zB; rfl; (intro _; rfl)) | (apply zQ; rfl; (intro _; rfl)) | (apply WD.skp; rfl) | (apply WD.skpL; rfl))
     exact WL.le (zA rfl (zA rfl (zA rfl (zA rfl (zA rfl (zA rfl (zA rfl (zA rfl (zA rfl (zA rfl (zA rfl (zA rfl zH)))))))))))) (nx3 true (by simp))
   ·have hge3 : q = (ofP s.ns[i].v.node ps).length := by
     have h0 := eq_of_ff ‹false = true ↔ cmpP BinOp.lss (Int.ofNat q) (Int.ofNat (ofP s.ns[i].v.node ps).length)›
     simp [cmpP] at h0; omega
    rw [hge3, List.take_length] at hs2
    obtain rfl : is = true := hs2.2 hth
    repeat' (first
     | apply zC | apply zE | apply zD | apply zJ | apply zL | apply zT | apply zW | (apply WD.ixSl; rfl; rfl; rfl; exact sB; exact hcm2; intro au hau) | (apply zI; rfl; · repeat' (first | refine at1 ?_ rfl | apply at2 | exact same0 | refine same1 ?_ rfl | apply same2 | exact rd_ld rfl (Ld.part (hau _ sB) 0 1 (by omega)) rfl)) | (apply WD.ixSl; rfl; rfl; rfl; exact sN2; exact hcm; intro av hav) | (apply zI; rfl; · repeat' (first | refine at1 ?_ rfl | apply at2 | exact same0 | refine same1 ?_ rfl | apply same2 | exact rd_ld rfl (Ld.part (hav _ sN2) 0 1 (by omega)) rfl)) | (apply zR; rfl; rfl; rfl; omega) | (apply zB; rfl; (intro _; rfl)) | (apply WD.cmp; rfl; rfl; rfl; rfl; intro _ _) | (apply zQ; rfl; (intro _; rfl)) | (apply zN; rfl; all_goals (intro hb; try subst hb)))
    ·exfalso
     have h0 := ‹true = true ↔ cmpP BinOp.neq _ _›.1 rfl
     exact h0 hm5
    ·exact WL.le (zA rfl (zA rfl (zA rfl (zA rfl (zA rfl (zA rfl (zA rfl (zA rfl (zA rfl (zA rfl zH)))))))))) nx2
  ·repeat' (first
    | apply zC | apply zE | apply zD | apply zJ | apply zL | apply zZ | (apply zS; rfl) | (apply zO; rfl) | apply zK | apply zT | apply zW | (apply zF; rfl; rfl; (first | exact ld0 rfl | exact ld1 rfl | exact ld2 rfl); rfl) | (apply zM; rfl; rfl; rfl; rfl; intro _ _) | (apply yH; rfl; rfl; rfl; rfl; intro _ _) | (apply zB; rfl; (intro _; rfl)) | (apply zV; rfl) | (apply zI; rfl; · repeat' (first | refine at1 ?_ rfl | apply at2 | exact same0 | refine same1 ?_ rfl | apply same2 | (first | exact rd0 rfl rfl rfl | exact rd1 rfl rfl rfl | exact rd2 rfl rfl rfl))) | (apply WD.cmp; rfl; rfl; rfl; rfl; intro _ _) | (apply WD.cmpT; rfl; rfl; rfl; rfl; intro _ _) | (apply zQ; rfl; (intro _; rfl)) | (apply WD.skp; rfl) | (apply WD.skpL; rfl) | (apply WD.skpX; rfl) | (apply WOps.ask; rfl; all_goals (intro hb; first | subst hb | fail_if_success (cases hb))) | (apply zN; rfl; all_goals (intro hb; try subst hb)) | (apply WD.ask; rfl; all_goals (intro hb; first | subst hb | fail_if_success (cases hb))))
   rw [wrapN hi9]
   exact WL.le (zA rfl (zA rfl (zA rfl (zA rfl (zA rfl (zA rfl (zA rfl zH))))))) (nx _ _ _ subH (by rw [nnS, hn2]) (by rw [nnC, hm2]))
 ·have hge : i = s.ns.length := by
   have h0 := eq_of_ff ‹false = true ↔ cmpP BinOp.lss (Int.ofNat i) (Int.ofNat s.ns.length)›
   simp [cmpP] at h0; omega
  have hnode : ∀ m : Int, thereK s.ns m → ∃ y, y ∈ s.ns ∧ y.v.node = m := fun m h => (there_iff hI.ks).1 h
  rw [hge, near_all (fun e he => hnode _ (wrongS_iff.1 (hg.gs e he)).2.2.2.2.2.2)] at hn2
  rw [hge, near_all (fun e he => hnode _ (wrongC_iff.1 (hg.gc e he)).2.2.2.2.2.2.1)] at hm2
  rw [← hql] at hn2
  subst hn2 hm2
  repeat' (first
   | apply zC | apply zE | apply zD | apply zL | (apply WOps.lenO; rfl; rfl; exact o11) | (apply WOps.lenO; rfl; rfl; exact o13) | (apply WOps.eqlI; rfl; rfl; rfl) | (apply WOps.clG1; rfl; rfl; exact WF.const g13) | (apply zB; rfl; (intro _; rfl)))
  exact ⟨trivial, [_], ⟨_, [], rfl, rfl, rfl⟩, rfl⟩
theorem rosterWhole_wf (B : Nat → List AV) (args : List AV) (h : ArgIs Tryz.prog B Tryz.f4.params.toList args) : WF B tab (.func 4) args [] fun v _ => v = .bool true := by
  rw [show Tryz.f4.params.toList = [22] from by kernel_rfl] at h
  match args, h with
  | [a], ⟨⟨n, cs, h, ha⟩, _⟩ =>
    rw [show (shapeOf Tryz.prog 22).1 = false from by kernel_rfl] at ha
    simp only at ha
    obtain ⟨w, l, e, k1, k2, k3⟩ := steps_of h
    subst e
    cases ha
    exact whole_ok k1 k2 k3
end Go.Proofs.YtgpnpcahcegadaaGreat.RO
