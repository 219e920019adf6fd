/- What the functions do, shown by the logic. -/
import Derived.Test.YtgpnpcahcegadaaGreatRoX
set_option linter.unusedSimpArgs false
set_option linter.unusedVariables false
set_option linter.unusedSectionVars false
set_option maxRecDepth 20000
namespace Go.Proofs.YtgpnpcahcegadaaGreat.RO
open Go.Proofs.YtgpnpcahcegadaaGreat.Abs
variable {B : Nat → List AV}
def ofE {V : Type} (p : V → Bool) (es : List (TE V)) : List (TE V) := es.filter fun e => p e.v
def ofP (node : Int) (ps : List (TE KS × AV)) : List (TE KS × AV) := ps.filter fun p => decide (p.1.v.node = node)
set_option maxHeartbeats 4000000 in
theorem of17_ok {H R : HL} {rp a1 a2 a3 M : Nat} {s : RS} {node : Int} (ok : RsOk M s) (h : RosAt B H rp a1 a2 a3 M s R) :
  WF B tab (.func 17) [.ptr ⟨false, rp, 0⟩, .int .i64 node] H fun r H' => ∃ v1 v2 x1 x2 G ps, r = .tup [v1, v2] ∧ ps.map (·.1) = s.ss.map (fun e => (⟨[], e.v, e.mke, e.ix⟩ : TE KS)) ∧ OwnSl v1 (entP (ofP node ps)) (ofP node ps).length 7 x1 ∧ PsIn B G ps ∧
   OwnSl v2 ((ofE (fun v : KC => decide (v.node = node)) s.cs).map entC).flatten (ofE (fun v : KC => decide (v.node = node)) s.cs).length 7 x2 ∧ H' = x2 ++ (x1 ++ (G ++ H)) := by
 refine zY ?_
 have n2 := ok.n2
 have n3 := ok.n3
 have m2 := ok.m2
 refine WF.fn g17 rfl ?_
 refine zE (zD ?_)
 repeat' (first
  | apply zC | (apply zB; rfl; (intro _; rfl)))
 refine zE (zD ?_)
 repeat' (first
  | apply zC | (apply zB; rfl; (intro _; rfl)))
 refine WC.cut2 (X := AV × HL × HL × List (TE KS × AV)) (fun x => [(0, .ptr ⟨false, rp, 0⟩), (1, .int .i64 node), (6, x.1)]) (fun x => x.2.1 ++ (x.2.2.1 ++ H)) (fun x => x.2.2.2.map (·.1) = s.ss.map (fun e => (⟨[], e.v, e.mke, e.ix⟩ : TE KS)) ∧ PsIn B x.2.2.1 x.2.2.2 ∧ OwnSl x.1 (entP (ofP node x.2.2.2)) (ofP node x.2.2.2).length 7 x.2.1) ?_ ?_
 ·refine zE (zD ?_)
  repeat' (first
   | apply zC | apply zK | (apply WOps.clA; rfl; rfl; exact told15_at ok h; rintro t15 _ ⟨h11, G, ps, hps, o11, hin, rfl⟩) | (apply WOps.lenO; rfl; rfl; exact o11) | (apply zB; rfl; (intro _; rfl)))
  have hl : ps.length ≤ 64 := by
   have := congrArg List.length hps
   rw [List.length_map, List.length_map] at this; omega
  refine yG ?_
  obtain ⟨i, hi⟩ : ∃ i : Nat, i = 0 := ⟨0, rfl⟩
  obtain ⟨w, hw⟩ : ∃ v, v = AV.nilsl := ⟨_, rfl⟩
  obtain ⟨us, hus⟩ : ∃ u : List (TE KS × AV), u = [] := ⟨_, rfl⟩
  obtain ⟨hv, hhv⟩ : ∃ h : HL, h = [] := ⟨_, rfl⟩
  refine WL.le (t' := [(0, .ptr ⟨false, rp, 0⟩), (1, .int .i64 node), (6, w), (13, t15), (14, .int .i64 (.ofNat ps.length)), (15, .int .i64 (.ofNat i))]) (by subst hi hw; exact zA rfl (zA rfl (zA rfl (zA rfl (zA rfl (zA rfl zH)))))) ?_
  refine WL.heq (H' := hv ++ (h11 ++ (G ++ H))) (by subst hhv; rfl) ?_
  have o9 : OwnSl w (entP us) us.length 7 hv := by subst hus; exact .inl ⟨hw, rfl, rfl, hhv⟩
  have hu2 : us = ofP node (ps.take i) := by subst hi hus; rfl
  have hle : i ≤ ps.length := by omega
  clear hi hw hus hhv
  induction hm : ps.length - i using Nat.strongRecOn generalizing i w us hv with | _ k ih => ?_
  apply WL.step
  repeat' (first
   | apply zC | apply zE | apply zD | apply zJ | apply zZ | apply zK | (apply zM; rfl; rfl; rfl; rfl; intro _ _) | (apply zN; rfl; all_goals (intro hb; try subst hb)))
  ·have hlt : i < ps.length := by
    have h0 := ‹true = true ↔ cmpP BinOp.lss (Int.ofNat i) (Int.ofNat ps.length)›.1 rfl
    simp [cmpP] at h0; omega
   have hcm : (ps.map fun p => entS p.1 p.2)[i]? = some (entS ps[i].1 ps[i].2) := by rw [List.getElem?_map, List.getElem?_eq_getElem hlt]; rfl
   have ct := (hin ps[i] (List.getElem_mem hlt)).1.cell
   have hul : us.length ≤ 64 := by rw [hu2]; exact Nat.le_trans (List.length_filter_le _ _) (by rw [List.length_take]; omega)
   have hin2 : PsIn B G us := fun p hp => by rw [hu2] at hp; exact hin p (List.mem_of_mem_take (List.mem_filter.1 hp).1)
   have eF : ¬ ps[i].1.v.node = node → us = ofP node (ps.take (i + 1)) := by
    intro hb
    rw [hu2]; unfold ofP; rw [List.take_succ_eq_append_getElem hlt, List.filter_append]; simp only [List.filter_cons, decide_eq_false hb, List.filter_nil, Bool.false_eq_true, if_false, List.append_nil]
   have eT : ps[i].1.v.node = node → us ++ [ps[i]] = ofP node (ps.take (i + 1)) := by
    intro hb
    rw [hu2]; unfold ofP; rw [List.take_succ_eq_append_getElem hlt, List.filter_append]; simp only [List.filter_cons, decide_eq_true hb, List.filter_nil, if_true]
   have nx : ∀ w' us' hv', OwnSl w' (entP us') us'.length 7 hv' → us' = ofP node (ps.take (i + 1)) → WL B tab c17.nt none _ [(0, .ptr ⟨false, rp, 0⟩), (1, .int .i64 node), (6, w'), (13, t15), (14, .int .i64 (.ofNat ps.length)), (15, .int .i64 (.ofNat (i + 1)))] (hv' ++ (h11 ++ (G ++ H))) _ := fun w' us' hv' a1 a2 => ih _ (by omega) (i + 1) w' us' hv' a1 a2 (by omega) rfl
   repeat' (first
    | apply zC | apply zE | apply zD | apply zJ | (apply zF; rfl; rfl; (first | exact ld0 rfl | exact ld1 rfl | exact ld2 rfl); rfl) | (apply zP; rfl; rfl; (first | exact tk0 | exact tk1 | exact tk2); rfl; (· repeat' (first | rfl | assumption | apply ac1)); rfl) | (apply yE; rfl; intro _) | (apply yF; rfl; (· repeat' (first | rfl | assumption | apply ac1)); intro _) | (apply yA; rfl; rfl; rfl; exact SlIs.right (SlIs.left (entP_sl o11)); exact hcm; intro ax hax) | (apply zF; rfl; rfl; exact hax; rfl) | (apply zR; rfl; rfl; rfl; omega) | (apply zM; rfl; rfl; rfl; rfl; intro _ _) | (apply zB; rfl; (intro _; rfl)) | (apply zN; rfl; all_goals (intro hb; try subst hb)))
   ·rename_i p8 q
    have f1 := eT (‹true = true ↔ cmpP BinOp.eql ps[i].1.v.node node›.1 rfl)
    refine yD (n := us.length) rfl rfl rfl o9 (List.perm_append_comm_assoc [_, _] hv _) (src_one zG rfl) (entP_cell hin2) ?_ rfl (by omega) ?_
    ·repeat' (first | exact ac0 | apply ac1)
     all_goals first | rfl | assumption
    intro v4 h4 o4
    repeat' (first
     | apply zC | apply zD | (apply zR; rfl; rfl; rfl; omega) | (apply zB; rfl; (intro _; rfl)))
    refine WL.le (zA rfl (zA rfl (zA rfl (zA rfl (zA rfl (zA rfl zH)))))) (yB (H1 := h4 ++ (h11 ++ (G ++ H))) (subF (by intro f; simp only [AV.cells, pm] <;> omega)) (nx v4 (us ++ [ps[i]]) h4 ?_ f1))
    rw [entP_app, List.length_append]
    exact o4
   ·have f1 := eF (eq_of_ff ‹false = true ↔ cmpP BinOp.eql ps[i].1.v.node node›)
    refine WL.le (zA rfl (zA rfl (zA rfl (zA rfl (zA rfl (zA rfl zH)))))) (yB (H1 := hv ++ (h11 ++ (G ++ H))) (subF (by intro f; simp only [AV.cells, pm] <;> omega)) (nx w us hv o9 f1))
  ·have hge : i = ps.length := by
    have h0 := eq_of_ff ‹false = true ↔ cmpP BinOp.lss (Int.ofNat i) (Int.ofNat ps.length)›
    simp [cmpP] at h0; omega
   subst hge
   rw [List.take_length] at hu2
   subst hu2
   exact ⟨(w, hv, G, ps), zA rfl (zA rfl (zA rfl zH)), subF (by intro f; simp only [AV.cells, pm] <;> omega), hps, hin, o9⟩
 ·rintro ⟨v6, x1, G, ps⟩ ⟨hps, hin, o6⟩
  simp only at hps hin o6 ⊢
  refine zE (zD ?_)
  repeat' (first
   | apply zC | (apply zB; rfl; (intro _; rfl)))
  refine WC.cut2 (X := AV × HL) (fun x => [(6, v6), (9, x.1)]) (fun x => x.2 ++ (x1 ++ (G ++ H))) (fun x => OwnSl x.1 ((ofE (fun v : KC => decide (v.node = node)) s.cs).map entC).flatten (ofE (fun v : KC => decide (v.node = node)) s.cs).length 7 x.2) ?_ ?_
  ·refine zE (zD ?_)
   repeat' (first
    | apply zC | apply zK | (apply WOps.clA; rfl; rfl; exact told16_at ok ((h.add G).add x1); rintro t16 _ ⟨h13, o13, rfl⟩) | (apply WOps.lenO; rfl; rfl; exact o13) | (apply zB; rfl; (intro _; rfl)))
   refine yG ?_
   obtain ⟨i, hi⟩ : ∃ i : Nat, i = 0 := ⟨0, rfl⟩
   obtain ⟨w, hw⟩ : ∃ v, v = AV.nilsl := ⟨_, rfl⟩
   obtain ⟨us, hus⟩ : ∃ u : List (TE KC), u = [] := ⟨_, rfl⟩
   obtain ⟨hv, hhv⟩ : ∃ h : HL, h = [] := ⟨_, rfl⟩
   refine WL.le (t' := [(1, .int .i64 node), (6, v6), (9, w), (29, t16), (30, .int .i64 (.ofNat s.cs.length)), (31, .int .i64 (.ofNat i))]) (by subst hi hw; exact zA rfl (zA rfl (zA rfl (zA rfl (zA rfl (zA rfl zH)))))) ?_
   refine WL.heq (H' := hv ++ (h13 ++ (x1 ++ (G ++ H)))) (by subst hhv; rfl) ?_
   have o9 : OwnSl w (us.map entC).flatten us.length 7 hv := by subst hus; exact .inl ⟨hw, rfl, rfl, hhv⟩
   have hu2 : us = ofE (fun v : KC => decide (v.node = node)) (s.cs.take i) := by subst hi hus; rfl
   have hle : i ≤ s.cs.length := by omega
   clear hi hw hus hhv
   induction hm : s.cs.length - i using Nat.strongRecOn generalizing i w us hv with | _ k ih => ?_
   apply WL.step
   repeat' (first
    | apply zC | apply zE | apply zD | apply zJ | apply zZ | apply zK | (apply zM; rfl; rfl; rfl; rfl; intro _ _) | (apply zN; rfl; all_goals (intro hb; try subst hb)))
   ·have hlt : i < s.cs.length := by
     have h0 := ‹true = true ↔ cmpP BinOp.lss (Int.ofNat i) (Int.ofNat s.cs.length)›.1 rfl
     simp [cmpP] at h0; omega
    have hcm : (s.cs.map entC)[i]? = some (entC s.cs[i]) := by rw [List.getElem?_map, List.getElem?_eq_getElem hlt]; rfl
    have hul : us.length ≤ 64 := by rw [hu2]; exact Nat.le_trans (List.length_filter_le _ _) (by rw [List.length_take]; omega)
    have eF : ¬ s.cs[i].v.node = node → us = ofE (fun v : KC => decide (v.node = node)) (s.cs.take (i + 1)) := by
     intro hb
     rw [hu2]; unfold ofE; rw [List.take_succ_eq_append_getElem hlt, List.filter_append]; simp only [List.filter_cons, decide_eq_false hb, List.filter_nil, Bool.false_eq_true, if_false, List.append_nil]
    have eT : s.cs[i].v.node = node → us ++ [s.cs[i]] = ofE (fun v : KC => decide (v.node = node)) (s.cs.take (i + 1)) := by
     intro hb
     rw [hu2]; unfold ofE; rw [List.take_succ_eq_append_getElem hlt, List.filter_append]; simp only [List.filter_cons, decide_eq_true hb, List.filter_nil, if_true]
    have nx : ∀ w' us' hv', OwnSl w' (us'.map entC).flatten us'.length 7 hv' → us' = ofE (fun v : KC => decide (v.node = node)) (s.cs.take (i + 1)) → WL B tab c17.nt none _ [(1, .int .i64 node), (6, v6), (9, w'), (29, t16), (30, .int .i64 (.ofNat s.cs.length)), (31, .int .i64 (.ofNat (i + 1)))] (hv' ++ (h13 ++ (x1 ++ (G ++ H)))) _ := fun w' us' hv' a1 a2 => ih _ (by omega) (i + 1) w' us' hv' a1 a2 (by omega) rfl
    repeat' (first
     | apply zC | apply zE | apply zD | apply zJ | (apply zF; rfl; rfl; (first | exact ld0 rfl | exact ld1 rfl | exact ld2 rfl); rfl) | (apply zP; rfl; rfl; (first | exact tk0 | exact tk1 | exact tk2); rfl; (· repeat' (first | rfl | assumption | apply ac1)); rfl) | (apply yE; rfl; intro _) | (apply yF; rfl; (· repeat' (first | rfl | assumption | apply ac1)); intro _) | (apply yA; rfl; rfl; rfl; exact SlIs.right (SlIs.left (entsC_sl o13)); exact hcm; intro ax hax) | (apply zF; rfl; rfl; exact hax; rfl) | (apply zR; rfl; rfl; rfl; omega) | (apply zM; rfl; rfl; rfl; rfl; intro _ _) | (apply zB; rfl; (intro _; rfl)) | (apply zN; rfl; all_goals (intro hb; try subst hb)))
    ·have f1 := eT (‹true = true ↔ cmpP BinOp.eql s.cs[i].v.node node›.1 rfl)
     refine yD (n := us.length) rfl rfl rfl o9 (List.perm_append_comm_assoc [_, _] hv _) (src_one zG rfl) (entsC_cell _) rfl rfl (by omega) ?_
     intro v4 h4 o4
     repeat' (first
      | apply zC | apply zD | (apply zR; rfl; rfl; rfl; omega) | (apply zB; rfl; (intro _; rfl)))
     refine WL.le (zA rfl (zA rfl (zA rfl (zA rfl (zA rfl (zA rfl zH)))))) (yB (H1 := h4 ++ (h13 ++ (x1 ++ (G ++ H)))) (subF (by intro f; simp only [AV.cells, pm] <;> omega)) (nx v4 (us ++ [s.cs[i]]) h4 ?_ f1))
     rw [List.map_append, List.flatten_append, List.length_append]
     exact o4
    ·have f1 := eF (eq_of_ff ‹false = true ↔ cmpP BinOp.eql s.cs[i].v.node node›)
     refine WL.le (zA rfl (zA rfl (zA rfl (zA rfl (zA rfl (zA rfl zH)))))) (yB (H1 := hv ++ (h13 ++ (x1 ++ (G ++ H)))) (subF (by intro f; simp only [AV.cells, pm] <;> omega)) (nx w us hv o9 f1))
   ·have hge : i = s.cs.length := by
     have h0 := eq_of_ff ‹false = true ↔ cmpP BinOp.lss (Int.ofNat i) (Int.ofNat s.cs.length)›
     simp [cmpP] at h0; omega
    subst hge
    rw [List.take_length] at hu2
    subst hu2
    exact ⟨(w, hv), zA rfl (zA rfl zH), subF (by intro f; simp only [AV.cells, pm] <;> omega), o9⟩
  ·rintro ⟨v9, x2⟩ o9
   simp only at o9 ⊢
   repeat' (first
    | apply zC | apply zE | apply zD | apply zL | (apply zB; rfl; (intro _; rfl)))
   exact ⟨trivial, [_, _], ⟨_, _, rfl, rfl, _, _, rfl, rfl, rfl⟩, _, ⟨v6, v9, x1, x2, G, ps, rfl, hps, o6, hin, o9, rfl⟩, SubP.refl⟩
noncomputable def healthS (s : RS) (node : Int) (svc : List Nat) : Int := hL svc (ofE (fun v : KC => decide (v.node = node)) s.cs)
theorem hL_snoc {svc : List Nat} {es : List (TE KC)} {e : TE KC} : hL svc (es ++ [e]) = hStep svc (hL svc es) e := by
 unfold hL; rw [List.foldl_append]; rfl
theorem hL_take {svc : List Nat} {es : List (TE KC)} {i : Nat} (h : i < es.length) : hL svc (es.take (i + 1)) = hStep svc (hL svc (es.take i)) es[i] := by
 rw [List.take_succ_eq_append_getElem h, hL_snoc]
set_option maxHeartbeats 2000000 in
theorem health11_ok {H R : HL} {rp a1 a2 a3 M : Nat} {s : RS} {node : Int} {svc : List Nat} (ok : RsOk M s) (h : RosAt B H rp a1 a2 a3 M s R) :
  WF B tab (.func 11) [.ptr ⟨false, rp, 0⟩, .int .i64 node, .str svc] H fun r H' => H' = H ∧ r = .int .i64 (healthS s node svc) := by
 refine WF.fnR g11 rfl ?_
 have n3 := ok.n3
 have m2 := ok.m2
 unfold healthS
 repeat' (first
  | apply zC | apply zE | apply zD | apply zK | (apply WOps.clA; rfl; rfl; exact of17_ok ok h; rintro _ _ ⟨w1, w2, x1, x2, G, ps, rfl, hps, o1, hin, o2, rfl⟩) | (apply WOps.lenO; rfl; rfl; exact o2) | (apply zB; rfl; (intro _; rfl)))
 generalize hL0 : ofE (fun v : KC => decide (v.node = node)) s.cs = L at o2
 have hl : L.length ≤ 64 := by rw [← hL0]; exact Nat.le_trans (List.length_filter_le _ _) (by omega)
 refine yG ?_
 obtain ⟨i, hi⟩ : ∃ i : Nat, i = 0 := ⟨0, rfl⟩
 obtain ⟨m, hm0⟩ : ∃ m : Int, m = .ofNat 0 := ⟨_, rfl⟩
 refine WL.le (t' := [(2, .str svc), (7, .int .i64 m), (18, w2), (19, .int .i64 (.ofNat L.length)), (20, .int .i64 (.ofNat i))]) (by subst hi hm0; exact zA rfl (zA rfl (zA rfl (zA rfl (zA rfl zH))))) ?_
 have hm2 : m = hL svc (L.take i) := by subst hi hm0; rfl
 have hle : i ≤ L.length := by omega
 clear hi hm0
 induction hk : L.length - i using Nat.strongRecOn generalizing i m with | _ k ih => ?_
 apply WL.step
 repeat' (first
  | apply zC | apply zE | apply zD | apply zJ | apply zL | apply zZ | apply zK | (apply zM; rfl; rfl; rfl; rfl; intro _ _) | (apply zB; rfl; (intro _; rfl)) | (apply zN; rfl; all_goals (intro hb; try subst hb)))
 ·have hlt : i < L.length := by
   have h0 := ‹true = true ↔ cmpP BinOp.lss (Int.ofNat i) (Int.ofNat L.length)›.1 rfl
   simp [cmpP] at h0; omega
  have hcm : (L.map entC)[i]? = some (entC L[i]) := by rw [List.getElem?_map, List.getElem?_eq_getElem hlt]; rfl
  have nx : hStep svc m L[i] = hL svc (L.take (i + 1)) := by rw [hL_take hlt, hm2]
  repeat' (first
   | apply zC | apply zE | apply zD | apply zJ | (apply zS; rfl) | (apply zF; rfl; rfl; (first | exact ld0 rfl | exact ld1 rfl | exact ld2 rfl); rfl) | (apply zP; rfl; rfl; (first | exact tk0 | exact tk1 | exact tk2); rfl; (· repeat' (first | rfl | assumption | apply ac1)); rfl) | (apply yE; rfl; intro _) | (apply yA; rfl; rfl; rfl; exact SlIs.left (entsC_sl o2); exact hcm; intro ax hax) | (apply zF; rfl; rfl; exact hax; rfl) | (apply zR; rfl; rfl; rfl; omega) | (apply yH; rfl; rfl; rfl; rfl; intro _ _) | (apply zB; rfl; (intro _; rfl)) | (apply zV; rfl) | (apply WOps.ask; rfl; all_goals (intro hb; first | subst hb | fail_if_success (cases hb))) | (apply zN; rfl; all_goals (intro hb; try subst hb)))
  ·have e : hStep svc m L[i] = maxI m L[i].v.st := if_pos (.inl (‹true = true ↔ cmpS BinOp.eql L[i].v.svc []›.1 rfl))
   rw [e] at nx
   refine WL.le (t' := [(2, .str svc), (7, .int .i64 (maxI m L[i].v.st)), (18, w2), (19, .int .i64 (.ofNat L.length)), (20, .int .i64 (.ofNat (i + 1)))]) (zA rfl (zA rfl (zA rfl (zA rfl (zA rfl zH))))) (yB (H1 := x2 ++ (x1 ++ (G ++ H))) (subF (by intro f; simp only [AV.cells, pm] <;> omega)) (ih _ (by omega) (i + 1) _ nx (by omega) rfl))
  ·have e : hStep svc m L[i] = maxI m L[i].v.st := if_pos (.inr (‹true = true ↔ cmpS BinOp.eql L[i].v.svc svc›.1 rfl))
   rw [e] at nx
   refine WL.le (t' := [(2, .str svc), (7, .int .i64 (maxI m L[i].v.st)), (18, w2), (19, .int .i64 (.ofNat L.length)), (20, .int .i64 (.ofNat (i + 1)))]) (zA rfl (zA rfl (zA rfl (zA rfl (zA rfl zH))))) (yB (H1 := x2 ++ (x1 ++ (G ++ H))) (subF (by intro f; simp only [AV.cells, pm] <;> omega)) (ih _ (by omega) (i + 1) _ nx (by omega) rfl))
  ·have e : hStep svc m L[i] = m := if_neg (fun k => k.elim (eq_of_ff ‹false = true ↔ cmpS BinOp.eql L[i].v.svc []›) (eq_of_ff ‹false = true ↔ cmpS BinOp.eql L[i].v.svc svc›))
   rw [e] at nx
   refine WL.le (t' := [(2, .str svc), (7, .int .i64 m), (18, w2), (19, .int .i64 (.ofNat L.length)), (20, .int .i64 (.ofNat (i + 1)))]) (zA rfl (zA rfl (zA rfl (zA rfl (zA rfl zH))))) (yB (H1 := x2 ++ (x1 ++ (G ++ H))) (subF (by intro f; simp only [AV.cells, pm] <;> omega)) (ih _ (by omega) (i + 1) _ nx (by omega) rfl))
 ·have hge : i = L.length := by
   have h0 := eq_of_ff ‹false = true ↔ cmpP BinOp.lss (Int.ofNat i) (Int.ofNat L.length)›
   simp [cmpP] at h0; omega
  subst hge
  rw [List.take_length] at hm2
  subst hm2
  repeat' (first
   | apply zC | apply zE | apply zD | apply zJ | apply zL | apply zZ | (apply zS; rfl) | (apply zO; rfl) | apply zK | (apply zF; rfl; rfl; (first | exact ld0 rfl | exact ld1 rfl | exact ld2 rfl); rfl) | (apply zP; rfl; rfl; (first | exact tk0 | exact tk1 | exact tk2); rfl; (· repeat' (first | rfl | assumption | apply ac1)); rfl) | (apply yE; rfl; intro _) | (apply zM; rfl; rfl; rfl; rfl; intro _ _) | (apply yH; rfl; rfl; rfl; rfl; intro _ _) | (apply zB; rfl; (intro _; rfl)) | (apply zV; rfl) | (apply WOps.ask; rfl; all_goals (intro hb; first | subst hb | fail_if_success (cases hb))) | (apply zN; rfl; all_goals (intro hb; try subst hb)))
  exact ⟨trivial, (List.sublist_append_right _ _).trans ((List.sublist_append_right _ _).trans (List.sublist_append_right _ _)), [_], ⟨_, [], rfl, rfl, rfl⟩, rfl⟩
section both
variable {H R : HL} {rp a1 a2 a3 wp M M2 : Nat} {sk sr s2 : RS} {f : AFn} {args : List AV}
theorem onK0 {P : AV → Prop} (h : ∀ X, RosAt B H rp a1 a2 a3 M sk X → WF B tab f args H fun r H' => H' = H ∧ P r) (b : Both B H rp a1 a2 a3 wp M M2 sk sr R) : WF B tab f args H fun r H' => H' = H ∧ P r := by
 obtain ⟨X, k, g⟩ := b.ros
 exact h X k
end both
theorem WOps.eqlI {T : Tr FnI} {t : EL} {H : HL} {Q : EL → HL → Prop} {os : List AOper} {k : Nat} {g : Option (Nat × Bool)} {x y : AO} {ki : IntKind} {m : Int} (hg : wantedL g t = some true) (hx : gl t x = some (.int ki m)) (hy : gl t y = some (.int ki m))
  (w : WOps B T os ((k, .bool true) :: t) H Q) : WOps B T (⟨some k, .bin .eql x y, g⟩ :: os) t H Q := by
 refine zM (op := .eql) rfl hg hx hy fun v hv => ?_
 have : v = true := hv.2 rfl
 rw [this]; exact w
theorem any_take {V : Type} {es : List V} {p : V → Bool} {i : Nat} (h : i < es.length) : (es.take (i + 1)).any p = ((es.take i).any p || p es[i]) := by
 rw [List.take_succ_eq_append_getElem h, List.any_append]; simp
end Go.Proofs.YtgpnpcahcegadaaGreat.RO
