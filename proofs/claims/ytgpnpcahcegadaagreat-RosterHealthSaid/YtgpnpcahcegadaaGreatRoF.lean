/- What the functions do, shown by the logic. -/
import Derived.Test.YtgpnpcahcegadaaGreatRoE3
import Derived.Test.YtgpnpcahcegadaaGreatRoC
set_option linter.unusedSimpArgs false
set_option linter.unusedVariables false
set_option linter.unusedSectionVars false
set_option maxRecDepth 20000
namespace Go.Proofs.YtgpnpcahcegadaaGreat.RO
open Go.Proofs.YtgpnpcahcegadaaGreat.Abs
variable {B : Nat → List AV}
def pC (node : Int) (all : Bool) (id : List Nat) (v : KC) : Bool := decide (v.node = node ∧ (all = true ∨ v.svc = id))
def pS (node : Int) (all : Bool) (id : List Nat) (v : KS) : Bool := decide (v.node = node ∧ (all = true ∨ v.id = id))
set_option maxHeartbeats 4000000 in
theorem drop71_ok {H R : HL} {wp M : Nat} {s : RS} {node ix : Int} {all : Bool} {id : List Nat} (ok : RsOk M s) (h : RefAt B H wp M s R) :
    WF B tab (.func 71) [.ptr ⟨false, wp, 0⟩, .int .i64 node, .bool all, .str id, .int .u64 ix] H fun r H' => RefAt B H' wp M { s with ss := cutE (pS node all id) s.ss, l2 := lastX (pS node all id) s.ss s.l2 ix } R := by
  refine zY ?_
  obtain ⟨qs0, v1, v2, v3, h1, h2, h3, e1, hp, o1, o2, o3, q⟩ := h.toQ
  have c1 := o1.cell
  have c2 := o2.cell
  have c3 := o3.cell
  have hl : qs0.length ≤ 64 := by have h1 := ok.n2; have h2 := ok.m2; rw [← e1, List.length_map] at h1; omega
  have e9 : lastX (fun q : KS × AV => pS node all id q.1) qs0 s.l2 ix = lastX (pS node all id) s.ss s.l2 ix := by
    unfold lastX
    rw [← e1, List.any_map]; rfl
  have hp0 := hp
  refine WF.perm q ?_
  refine WF.fn g71 rfl ?_
  repeat' (first
    | apply zC | apply zE | apply zD | apply zK | (apply zB; rfl; (intro _; rfl)))
  refine yG ?_
  obtain ⟨i, hi⟩ : ∃ i : Nat, i = 0 := ⟨0, rfl⟩
  obtain ⟨w, hw⟩ : ∃ v, v = AV.nilsl := ⟨_, rfl⟩
  obtain ⟨us, hus⟩ : ∃ u : List (TE (KS × AV)), u = [] := ⟨_, rfl⟩
  obtain ⟨hv, hhv⟩ : ∃ h : HL, h = [] := ⟨_, rfl⟩
  obtain ⟨lx, hlx⟩ : ∃ m : Int, m = s.l2 := ⟨_, rfl⟩
  refine WL.le (t' := [(0, .ptr ⟨false, wp, 0⟩), (1, .int .i64 node), (2, .bool all), (3, .str id), (4, .int .u64 ix), (10, w), (11, .int .i64 (.ofNat i))]) (by subst hi hw; exact zA rfl (zA rfl (zA rfl (zA rfl (zA rfl (zA rfl (zA rfl zH))))))) ?_
  refine WL.heq (H' := (wp, .row (refC M v1 v2 v3 { s with l2 := lx })) :: (hv ++ (h1 ++ (h2 ++ (h3 ++ R))))) (by subst hhv hlx; rfl) ?_
  have o9 : OwnSl w (us.map entQ).flatten us.length 7 hv := by subst hus; exact .inl ⟨hw, rfl, rfl, hhv⟩
  have hu2 : us = cutE (fun q : KS × AV => pS node all id q.1) (qs0.take i) := by subst hi hus; simp [cutE]
  have hx2 : lx = lastX (fun q : KS × AV => pS node all id q.1) (qs0.take i) s.l2 ix := by subst hi hlx; rfl
  have hle : i ≤ qs0.length := by omega
  have hin : QsIn B us := by subst hus; intro q hq; cases hq
  clear hi hw hus hhv hlx
  induction hm : qs0.length - i using Nat.strongRecOn generalizing i w us hv lx with | _ k ih => ?_
  apply WL.step
  have sA : SlIs B ((wp, .row (refC M v1 v2 v3 { s with l2 := lx })) :: (hv ++ (h1 ++ (h2 ++ (h3 ++ R))))) v2 7 (qs0.map entQ) := SlIs.cons (SlIs.right (SlIs.right (SlIs.left (entQ_sl o2))))
  repeat' (first
    | apply zC | apply zE | apply zD | apply zJ | apply zZ | apply zK | (apply zF; rfl; rfl; (first | exact ld0 rfl | exact ld1 rfl | exact ld2 rfl); rfl) | (apply zU; rfl; rfl; exact sA) | (apply zM; rfl; rfl; rfl; rfl; intro _ _) | (apply zB; rfl; (intro _; rfl)) | (apply zN; rfl; all_goals (intro hb; try subst hb)))
  · rw [List.length_map] at *
    have hlt : i < qs0.length := by
      have h0 := ‹true = true ↔ cmpP BinOp.lss (Int.ofNat i) (Int.ofNat qs0.length)›.1 rfl
      simp [cmpP] at h0; omega
    have hcm : (qs0.map entQ)[i]? = some (entQ qs0[i]) := by rw [List.getElem?_map, List.getElem?_eq_getElem hlt]; rfl
    have hul : us.length ≤ 64 := by rw [hu2]; exact Nat.le_trans (cut_len) (by rw [List.length_take]; omega)
    have ct : qs0[i].v.2.isCell = true := (hp _ (List.getElem_mem hlt)).1.cell
    have eA : ∀ b : Bool, (fun q : KS × AV => pS node all id q.1) qs0[i].v = b → (b = false → cutE (fun q : KS × AV => pS node all id q.1) (qs0.take (i + 1)) = us ++ [qs0[i]] ∧ lastX (fun q : KS × AV => pS node all id q.1) (qs0.take (i + 1)) s.l2 ix = lx) ∧ (b = true → cutE (fun q : KS × AV => pS node all id q.1) (qs0.take (i + 1)) = us ∧ lastX (fun q : KS × AV => pS node all id q.1) (qs0.take (i + 1)) s.l2 ix = maxI lx ix) := by
      intro b hb
      refine ⟨fun h => ⟨?_, ?_⟩, fun h => ⟨?_, ?_⟩⟩
      · rw [hu2]; unfold cutE; rw [List.take_succ_eq_append_getElem hlt, List.filter_append]; simp [List.filter_cons, hb, h]
      · rw [hx2]; exact lastX_keep hlt (hb.trans h)
      · rw [hu2]; unfold cutE; rw [List.take_succ_eq_append_getElem hlt, List.filter_append]; simp [List.filter_cons, hb, h]
      · rw [hx2]; exact lastX_hit hlt (hb.trans h)
    have nx : ∀ w' us' hv' lx', OwnSl w' (us'.map entQ).flatten us'.length 7 hv' → us' = cutE (fun q : KS × AV => pS node all id q.1) (qs0.take (i + 1)) → lx' = lastX (fun q : KS × AV => pS node all id q.1) (qs0.take (i + 1)) s.l2 ix → QsIn B us' → WL B tab c71.nt none _ [(0, .ptr ⟨false, wp, 0⟩), (1, .int .i64 node), (2, .bool all), (3, .str id), (4, .int .u64 ix), (10, w'), (11, .int .i64 (.ofNat (i + 1)))] ((wp, .row (refC M v1 v2 v3 { s with l2 := lx' })) :: (hv' ++ (h1 ++ (h2 ++ (h3 ++ R))))) _ := fun w' us' hv' lx' a1 a2 a3 a4 => ih _ (by omega) (i + 1) w' us' hv' lx' a1 a2 a3 (by omega) a4 rfl
    repeat' (first
      | apply zC | apply zD | (apply zS; rfl) | (apply zO; rfl) | (apply zF; rfl; rfl; (first | exact ld0 rfl | exact ld1 rfl | exact ld2 rfl); rfl) | (apply yF; rfl; (· repeat' (first | rfl | assumption | apply ac1)); intro _) | (apply yA; rfl; rfl; rfl; exact sA; exact hcm; intro ax hax) | (apply zF; rfl; rfl; exact Ld.part hax 0 1 (by omega); rfl) | (apply zF; rfl; rfl; exact Ld.part hax 1 1 (by omega); rfl) | (apply zF; rfl; rfl; exact hax; rfl) | (apply WOps.clA; rfl; rfl; exact raise64_1 (s := { s with l2 := lx }) c1 c2 c3; rintro _ _ rfl) | (apply zR; rfl; rfl; rfl; omega) | (apply zM; rfl; rfl; rfl; rfl; intro _ _) | (apply yH; rfl; rfl; rfl; rfl; intro _ _) | (apply zB; rfl; (intro _; rfl)) | (apply zV; rfl) | (apply WOps.ask; rfl; all_goals (intro hb; first | subst hb | fail_if_success (cases hb))) | (apply zN; rfl; all_goals (intro hb; try subst hb)))
    · have hp : (fun q : KS × AV => pS node true id q.1) qs0[i].v = true := decide_eq_true ⟨‹true = true ↔ cmpP BinOp.eql qs0[i].v.1.node node›.1 rfl, .inl rfl⟩
      obtain ⟨f1, f2⟩ := (eA true hp).2 rfl
      exact WL.le (zA rfl (zA rfl (zA rfl (zA rfl (zA rfl (zA rfl (zA rfl zH))))))) (nx w us hv _ o9 f1.symm f2.symm hin)
    · have hp : (fun q : KS × AV => pS node false id q.1) qs0[i].v = true := decide_eq_true ⟨‹true = true ↔ cmpP BinOp.eql qs0[i].v.1.node node›.1 rfl, .inr (‹true = true ↔ cmpS BinOp.eql qs0[i].v.1.id id›.1 rfl)⟩
      obtain ⟨f1, f2⟩ := (eA true hp).2 rfl
      exact WL.le (zA rfl (zA rfl (zA rfl (zA rfl (zA rfl (zA rfl (zA rfl zH))))))) (nx w us hv _ o9 f1.symm f2.symm hin)
    · have hp : (fun q : KS × AV => pS node false id q.1) qs0[i].v = false := by
        refine decide_eq_false ?_
        first
          | exact fun h => (eq_of_ff ‹false = true ↔ cmpP BinOp.eql qs0[i].v.1.node node›) h.1
          | (rintro ⟨_, h | h⟩
             · cases h
             · exact (eq_of_ff ‹false = true ↔ cmpS BinOp.eql qs0[i].v.1.id id›) h)
      obtain ⟨f1, f2⟩ := (eA false hp).1 rfl
      refine yD (n := us.length) rfl rfl rfl o9 (List.perm_append_comm_assoc [_, _] hv _) (src_one zG rfl) (QsIn.cell hin) (by (repeat' (first | exact ac0 | apply ac1)) <;> (first | rfl | assumption)) rfl (by omega) ?_
      intro v4 h4 o4
      repeat' (first
        | apply zC | apply zD | (apply zR; rfl; rfl; rfl; omega) | (apply zB; rfl; (intro _; rfl)))
      refine WL.le (zA rfl (zA rfl (zA rfl (zA rfl (zA rfl (zA rfl (zA rfl zH))))))) (yB (H1 := (wp, .row (refC M v1 v2 v3 { s with l2 := lx })) :: (h4 ++ (h1 ++ (h2 ++ (h3 ++ R))))) (subF (by intro f; simp only [AV.cells, pm] <;> omega)) (nx v4 (us ++ [qs0[i]]) h4 lx ?_ f1.symm f2.symm (fun q hq => by rcases List.mem_append.1 hq with h | h; exact hin q h; (cases List.mem_singleton.1 h; exact hp0 _ (List.getElem_mem hlt)))))
      rw [List.map_append, List.flatten_append, List.length_append]
      exact o4
    · have hp : (fun q : KS × AV => pS node all id q.1) qs0[i].v = false := by
        refine decide_eq_false ?_
        first
          | exact fun h => (eq_of_ff ‹false = true ↔ cmpP BinOp.eql qs0[i].v.1.node node›) h.1
          | (rintro ⟨_, h | h⟩
             · cases h
             · exact (eq_of_ff ‹false = true ↔ cmpS BinOp.eql qs0[i].v.1.id id›) h)
      obtain ⟨f1, f2⟩ := (eA false hp).1 rfl
      refine yD (n := us.length) rfl rfl rfl o9 (List.perm_append_comm_assoc [_, _] hv _) (src_one zG rfl) (QsIn.cell hin) (by (repeat' (first | exact ac0 | apply ac1)) <;> (first | rfl | assumption)) rfl (by omega) ?_
      intro v4 h4 o4
      repeat' (first
        | apply zC | apply zD | (apply zR; rfl; rfl; rfl; omega) | (apply zB; rfl; (intro _; rfl)))
      refine WL.le (zA rfl (zA rfl (zA rfl (zA rfl (zA rfl (zA rfl (zA rfl zH))))))) (yB (H1 := (wp, .row (refC M v1 v2 v3 { s with l2 := lx })) :: (h4 ++ (h1 ++ (h2 ++ (h3 ++ R))))) (subF (by intro f; simp only [AV.cells, pm] <;> omega)) (nx v4 (us ++ [qs0[i]]) h4 lx ?_ f1.symm f2.symm (fun q hq => by rcases List.mem_append.1 hq with h | h; exact hin q h; (cases List.mem_singleton.1 h; exact hp0 _ (List.getElem_mem hlt)))))
      rw [List.map_append, List.flatten_append, List.length_append]
      exact o4
  · rw [List.length_map] at *
    have hge : i = qs0.length := by
      have h0 := eq_of_ff ‹false = true ↔ cmpP BinOp.lss (Int.ofNat i) (Int.ofNat qs0.length)›
      simp [cmpP] at h0; omega
    subst hge
    rw [List.take_length] at hu2 hx2
    subst hu2 hx2
    repeat' (first
      | apply zC | apply zE | apply zD | apply zJ | apply zL | apply zZ | (apply zS; rfl) | (apply zO; rfl) | apply zK | (apply zF; rfl; rfl; (first | exact ld0 rfl | exact ld1 rfl | exact ld2 rfl); rfl) | (apply zP; rfl; rfl; (first | exact tk0 | exact tk1 | exact tk2); rfl; (· repeat' (first | rfl | assumption | apply ac1)); rfl) | (apply yF; rfl; (· repeat' (first | rfl | assumption | apply ac1)); intro _) | (apply zM; rfl; rfl; rfl; rfl; intro _ _) | (apply yH; rfl; rfl; rfl; rfl; intro _ _) | (apply zB; rfl; (intro _; rfl)) | (apply zV; rfl) | (apply WOps.ask; rfl; all_goals (intro hb; first | subst hb | fail_if_success (cases hb))) | (apply zN; rfl; all_goals (intro hb; try subst hb)))
    refine zP (cs := refC M v1 v2 v3 { s with l2 := lastX (fun q : KS × AV => pS node all id q.1) qs0 s.l2 ix }) (cs' := refC M v1 w v3 { s with l2 := lastX (fun q : KS × AV => pS node all id q.1) qs0 s.l2 ix }) rfl rfl zG (by rw [o9.cells]; rfl) (by rw [o9.cells]; exact allCell_cons o9.cell allCell_nil) (by rw [o9.cells]; rfl) ?_
    repeat' (first
      | apply zC)
    refine ⟨trivial, [], rfl, (wp, .row (refC M v1 w v3 { s with l2 := lastX (fun q : KS × AV => pS node all id q.1) qs0 s.l2 ix })) :: (h1 ++ (hv ++ (h3 ++ R))), RefAt.ofQ (qs := cutE (fun q : KS × AV => pS node all id q.1) qs0) (by rw [cut_mp (f := Prod.fst) (p := pS node all id), e1]) hin o1 o9 o3 (by rw [e9]; exact List.Perm.refl _), subF (by intro f; simp only [AV.cells, pm] <;> omega)⟩
set_option maxHeartbeats 4000000 in
theorem drop72_ok {H R : HL} {wp M : Nat} {s : RS} {node ix : Int} {all : Bool} {id : List Nat} (ok : RsOk M s) (h : RefAt B H wp M s R) :
    WF B tab (.func 72) [.ptr ⟨false, wp, 0⟩, .int .i64 node, .bool all, .str id, .int .u64 ix] H fun r H' => RefAt B H' wp M { s with cs := cutE (pC node all id) s.cs, l3 := lastX (pC node all id) s.cs s.l3 ix } R := by
  refine zY ?_
  obtain ⟨qs0, v1, v2, v3, h1, h2, h3, e1, hp, o1, o2, o3, q⟩ := h.toQ
  have c1 := o1.cell
  have c2 := o2.cell
  have c3 := o3.cell
  have hl : s.cs.length ≤ 64 := by have h1 := ok.n3; have h2 := ok.m2; omega
  refine WF.perm q ?_
  refine WF.fn g72 rfl ?_
  repeat' (first
    | apply zC | apply zE | apply zD | apply zK | (apply zB; rfl; (intro _; rfl)))
  refine yG ?_
  obtain ⟨i, hi⟩ : ∃ i : Nat, i = 0 := ⟨0, rfl⟩
  obtain ⟨w, hw⟩ : ∃ v, v = AV.nilsl := ⟨_, rfl⟩
  obtain ⟨us, hus⟩ : ∃ u : List (TE KC), u = [] := ⟨_, rfl⟩
  obtain ⟨hv, hhv⟩ : ∃ h : HL, h = [] := ⟨_, rfl⟩
  obtain ⟨lx, hlx⟩ : ∃ m : Int, m = s.l3 := ⟨_, rfl⟩
  refine WL.le (t' := [(0, .ptr ⟨false, wp, 0⟩), (1, .int .i64 node), (2, .bool all), (3, .str id), (4, .int .u64 ix), (10, w), (11, .int .i64 (.ofNat i))]) (by subst hi hw; exact zA rfl (zA rfl (zA rfl (zA rfl (zA rfl (zA rfl (zA rfl zH))))))) ?_
  refine WL.heq (H' := (wp, .row (refC M v1 v2 v3 { s with l3 := lx })) :: (hv ++ (h1 ++ (h2 ++ (h3 ++ R))))) (by subst hhv hlx; rfl) ?_
  have o9 : OwnSl w (us.map entC).flatten us.length 7 hv := by subst hus; exact .inl ⟨hw, rfl, rfl, hhv⟩
  have hu2 : us = cutE (pC node all id) (s.cs.take i) := by subst hi hus; simp [cutE]
  have hx2 : lx = lastX (pC node all id) (s.cs.take i) s.l3 ix := by subst hi hlx; rfl
  have hle : i ≤ s.cs.length := by omega
  clear hi hw hus hhv hlx
  induction hm : s.cs.length - i using Nat.strongRecOn generalizing i w us hv lx with | _ k ih => ?_
  apply WL.step
  have sA : SlIs B ((wp, .row (refC M v1 v2 v3 { s with l3 := lx })) :: (hv ++ (h1 ++ (h2 ++ (h3 ++ R))))) v3 7 (s.cs.map entC) := SlIs.cons (SlIs.right (SlIs.right (SlIs.right (SlIs.left (entsC_sl o3)))))
  repeat' (first
    | apply zC | apply zE | apply zD | apply zJ | apply zZ | apply zK | (apply zF; rfl; rfl; (first | exact ld0 rfl | exact ld1 rfl | exact ld2 rfl); rfl) | (apply zU; rfl; rfl; exact sA) | (apply zM; rfl; rfl; rfl; rfl; intro _ _) | (apply zB; rfl; (intro _; rfl)) | (apply zN; rfl; all_goals (intro hb; try subst hb)))
  · rw [List.length_map] at *
    have hlt : i < s.cs.length := by
      have h0 := ‹true = true ↔ cmpP BinOp.lss (Int.ofNat i) (Int.ofNat s.cs.length)›.1 rfl
      simp [cmpP] at h0; omega
    have hcm : (s.cs.map entC)[i]? = some (entC s.cs[i]) := by rw [List.getElem?_map, List.getElem?_eq_getElem hlt]; rfl
    have hul : us.length ≤ 64 := by rw [hu2]; exact Nat.le_trans (cut_len) (by rw [List.length_take]; omega)
    have eA : ∀ b : Bool, (pC node all id) s.cs[i].v = b → (b = false → cutE (pC node all id) (s.cs.take (i + 1)) = us ++ [s.cs[i]] ∧ lastX (pC node all id) (s.cs.take (i + 1)) s.l3 ix = lx) ∧ (b = true → cutE (pC node all id) (s.cs.take (i + 1)) = us ∧ lastX (pC node all id) (s.cs.take (i + 1)) s.l3 ix = maxI lx ix) := by
      intro b hb
      refine ⟨fun h => ⟨?_, ?_⟩, fun h => ⟨?_, ?_⟩⟩
      · rw [hu2]; unfold cutE; rw [List.take_succ_eq_append_getElem hlt, List.filter_append]; simp [List.filter_cons, hb, h]
      · rw [hx2]; exact lastX_keep hlt (hb.trans h)
      · rw [hu2]; unfold cutE; rw [List.take_succ_eq_append_getElem hlt, List.filter_append]; simp [List.filter_cons, hb, h]
      · rw [hx2]; exact lastX_hit hlt (hb.trans h)
    have nx : ∀ w' us' hv' lx', OwnSl w' (us'.map entC).flatten us'.length 7 hv' → us' = cutE (pC node all id) (s.cs.take (i + 1)) → lx' = lastX (pC node all id) (s.cs.take (i + 1)) s.l3 ix → WL B tab c72.nt none _ [(0, .ptr ⟨false, wp, 0⟩), (1, .int .i64 node), (2, .bool all), (3, .str id), (4, .int .u64 ix), (10, w'), (11, .int .i64 (.ofNat (i + 1)))] ((wp, .row (refC M v1 v2 v3 { s with l3 := lx' })) :: (hv' ++ (h1 ++ (h2 ++ (h3 ++ R))))) _ := fun w' us' hv' lx' a1 a2 a3 => ih _ (by omega) (i + 1) w' us' hv' lx' a1 a2 a3 (by omega) rfl
    repeat' (first
      | apply zC | apply zD | (apply zS; rfl) | (apply zO; rfl) | (apply zF; rfl; rfl; (first | exact ld0 rfl | exact ld1 rfl | exact ld2 rfl); rfl) | (apply yF; rfl; (· repeat' (first | rfl | assumption | apply ac1)); intro _) | (apply yA; rfl; rfl; rfl; exact sA; exact hcm; intro ax hax) | (apply zF; rfl; rfl; exact Ld.part hax 0 1 (by omega); rfl) | (apply zF; rfl; rfl; exact Ld.part hax 2 1 (by omega); rfl) | (apply zF; rfl; rfl; exact hax; rfl) | (apply WOps.clA; rfl; rfl; exact raise64_2 (s := { s with l3 := lx }) c1 c2 c3; rintro _ _ rfl) | (apply zR; rfl; rfl; rfl; omega) | (apply zM; rfl; rfl; rfl; rfl; intro _ _) | (apply yH; rfl; rfl; rfl; rfl; intro _ _) | (apply zB; rfl; (intro _; rfl)) | (apply zV; rfl) | (apply WOps.ask; rfl; all_goals (intro hb; first | subst hb | fail_if_success (cases hb))) | (apply zN; rfl; all_goals (intro hb; try subst hb)))
    · have hp : (pC node true id) s.cs[i].v = true := decide_eq_true ⟨‹true = true ↔ cmpP BinOp.eql s.cs[i].v.node node›.1 rfl, .inl rfl⟩
      obtain ⟨f1, f2⟩ := (eA true hp).2 rfl
      exact WL.le (zA rfl (zA rfl (zA rfl (zA rfl (zA rfl (zA rfl (zA rfl zH))))))) (nx w us hv _ o9 f1.symm f2.symm)
    · have hp : (pC node false id) s.cs[i].v = true := decide_eq_true ⟨‹true = true ↔ cmpP BinOp.eql s.cs[i].v.node node›.1 rfl, .inr (‹true = true ↔ cmpS BinOp.eql s.cs[i].v.svc id›.1 rfl)⟩
      obtain ⟨f1, f2⟩ := (eA true hp).2 rfl
      exact WL.le (zA rfl (zA rfl (zA rfl (zA rfl (zA rfl (zA rfl (zA rfl zH))))))) (nx w us hv _ o9 f1.symm f2.symm)
    · have hp : (pC node false id) s.cs[i].v = false := by
        refine decide_eq_false ?_
        first
          | exact fun h => (eq_of_ff ‹false = true ↔ cmpP BinOp.eql s.cs[i].v.node node›) h.1
          | (rintro ⟨_, h | h⟩
             · cases h
             · exact (eq_of_ff ‹false = true ↔ cmpS BinOp.eql s.cs[i].v.svc id›) h)
      obtain ⟨f1, f2⟩ := (eA false hp).1 rfl
      refine yD (n := us.length) rfl rfl rfl o9 (List.perm_append_comm_assoc [_, _] hv _) (src_one zG rfl) (entsC_cell _) rfl rfl (by omega) ?_
      intro v4 h4 o4
      repeat' (first
        | apply zC | apply zD | (apply zR; rfl; rfl; rfl; omega) | (apply zB; rfl; (intro _; rfl)))
      refine WL.le (zA rfl (zA rfl (zA rfl (zA rfl (zA rfl (zA rfl (zA rfl zH))))))) (yB (H1 := (wp, .row (refC M v1 v2 v3 { s with l3 := lx })) :: (h4 ++ (h1 ++ (h2 ++ (h3 ++ R))))) (subF (by intro f; simp only [AV.cells, pm] <;> omega)) (nx v4 (us ++ [s.cs[i]]) h4 lx ?_ f1.symm f2.symm))
      rw [List.map_append, List.flatten_append, List.length_append]
      exact o4
    · have hp : (pC node all id) s.cs[i].v = false := by
        refine decide_eq_false ?_
        first
          | exact fun h => (eq_of_ff ‹false = true ↔ cmpP BinOp.eql s.cs[i].v.node node›) h.1
          | (rintro ⟨_, h | h⟩
             · cases h
             · exact (eq_of_ff ‹false = true ↔ cmpS BinOp.eql s.cs[i].v.svc id›) h)
      obtain ⟨f1, f2⟩ := (eA false hp).1 rfl
      refine yD (n := us.length) rfl rfl rfl o9 (List.perm_append_comm_assoc [_, _] hv _) (src_one zG rfl) (entsC_cell _) rfl rfl (by omega) ?_
      intro v4 h4 o4
      repeat' (first
        | apply zC | apply zD | (apply zR; rfl; rfl; rfl; omega) | (apply zB; rfl; (intro _; rfl)))
      refine WL.le (zA rfl (zA rfl (zA rfl (zA rfl (zA rfl (zA rfl (zA rfl zH))))))) (yB (H1 := (wp, .row (refC M v1 v2 v3 { s with l3 := lx })) :: (h4 ++ (h1 ++ (h2 ++ (h3 ++ R))))) (subF (by intro f; simp only [AV.cells, pm] <;> omega)) (nx v4 (us ++ [s.cs[i]]) h4 lx ?_ f1.symm f2.symm))
      rw [List.map_append, List.flatten_append, List.length_append]
      exact o4
  · rw [List.length_map] at *
    have hge : i = s.cs.length := by
      have h0 := eq_of_ff ‹false = true ↔ cmpP BinOp.lss (Int.ofNat i) (Int.ofNat s.cs.length)›
      simp [cmpP] at h0; omega
    subst hge
    rw [List.take_length] at hu2 hx2
    subst hu2 hx2
    repeat' (first
      | apply zC | apply zE | apply zD | apply zJ | apply zL | apply zZ | (apply zS; rfl) | (apply zO; rfl) | apply zK | (apply zF; rfl; rfl; (first | exact ld0 rfl | exact ld1 rfl | exact ld2 rfl); rfl) | (apply zP; rfl; rfl; (first | exact tk0 | exact tk1 | exact tk2); rfl; (· repeat' (first | rfl | assumption | apply ac1)); rfl) | (apply yF; rfl; (· repeat' (first | rfl | assumption | apply ac1)); intro _) | (apply zM; rfl; rfl; rfl; rfl; intro _ _) | (apply yH; rfl; rfl; rfl; rfl; intro _ _) | (apply zB; rfl; (intro _; rfl)) | (apply zV; rfl) | (apply WOps.ask; rfl; all_goals (intro hb; first | subst hb | fail_if_success (cases hb))) | (apply zN; rfl; all_goals (intro hb; try subst hb)))
    refine zP (cs := refC M v1 v2 v3 { s with l3 := lastX (pC node all id) s.cs s.l3 ix }) (cs' := refC M v1 v2 w { s with l3 := lastX (pC node all id) s.cs s.l3 ix }) rfl rfl zG (by rw [o9.cells]; rfl) (by rw [o9.cells]; exact allCell_cons o9.cell allCell_nil) (by rw [o9.cells]; rfl) ?_
    repeat' (first
      | apply zC)
    refine ⟨trivial, [], rfl, (wp, .row (refC M v1 v2 w { s with l3 := lastX (pC node all id) s.cs s.l3 ix })) :: (h1 ++ (h2 ++ (hv ++ R))), RefAt.ofQ (qs := qs0) e1 hp o1 o2 o9 (List.Perm.refl _), subF (by intro f; simp only [AV.cells, pm] <;> omega)⟩
theorem cut_key {V : Type} {p : V → Bool} {es : List (TE V)} {key : List Nat} (h : ∀ e, e ∈ es → (p e.v = true ↔ e.key = key)) : cutE p es = dropE es key := by
 rw [drop_is]
 unfold cutE
 refine List.filter_congr fun e he => ?_
 have := h e he
 cases hp : p e.v
 ·rw [hp] at this
  simp only [Bool.not_false]
  symm
  rw [decide_eq_true_iff]
  exact fun k => by have := this.2 k; cases this
 ·rw [hp] at this
  simp only [Bool.not_true]
  symm
  rw [decide_eq_false_iff_not]
  exact fun k => k (this.1 rfl)
theorem any_key {V : Type} {p : V → Bool} {es : List (TE V)} {key : List Nat} (h : ∀ e, e ∈ es → (p e.v = true ↔ e.key = key)) : (es.any (fun e => p e.v) = true ↔ findE es key ≠ none) := by
 rw [List.any_eq_true, ne_eq, find_none]
 constructor
 ·rintro ⟨e, he, hp⟩ k
  exact k e he ((h e he).1 hp)
 ·intro k
  simp only [Classical.not_forall, Classical.not_not] at k
  obtain ⟨e, he, hk⟩ := k
  exact ⟨e, he, (h e he).2 hk⟩
theorem cut_none {V : Type} {p : V → Bool} {es : List (TE V)} (h : es.any (fun e => p e.v) = false) : cutE p es = es := by
 unfold cutE
 rw [List.filter_eq_self]
 intro e he
 rw [List.any_eq_false] at h
 simp [h e he]
theorem last_some {V : Type} {p : V → Bool} {es : List (TE V)} {l ix : Int} (h : es.any (fun e => p e.v) = true) : lastX p es l ix = maxI l ix := by unfold lastX; rw [h]; rfl
theorem KsOk.keyC {s : RS} (ks : KsOk s) {n : Nat} {id : List Nat} : ∀ e, e ∈ s.cs → (decide (e.v.node = .ofNat n ∧ e.v.id = id) = true ↔ e.key = keyS n id) := by
 intro e he
 obtain ⟨m, hm, h1, h2⟩ := ks.kc e he
 rw [decide_eq_true_iff, h1, h2, key_eq]
theorem KsOk.keyS {s : RS} (ks : KsOk s) {n : Nat} {id : List Nat} : ∀ e, e ∈ s.ss → (pS (.ofNat n) false id e.v = true ↔ e.key = keyS n id) := by
 intro e he
 obtain ⟨m, hm, h1, h2⟩ := ks.ks e he
 unfold pS
 rw [decide_eq_true_iff, h1, h2, ← key_eq]
 simp
theorem KsOk.keyN {s : RS} (ks : KsOk s) {n : Nat} : ∀ e, e ∈ s.ns → (decide (e.v.node = .ofNat n) = true ↔ e.key = keyN n) := by
 intro e he
 obtain ⟨m, hm, h1, h2⟩ := ks.kn e he
 rw [decide_eq_true_iff, h1, h2]
 constructor
 ·intro h
  have : m = n := by simp only [Int.ofNat_eq_natCast] at h; omega
  rw [this]
 ·intro h
  rw [keyN_inj h]
theorem far {s : RS} (ks : KsOk s) {node : Int} (h : ¬ (0 ≤ node ∧ node < 8)) : (∀ e, e ∈ s.ns → ¬ e.v.node = node) ∧ (∀ e, e ∈ s.ss → ¬ e.v.node = node) ∧ (∀ e, e ∈ s.cs → ¬ e.v.node = node) := by
 refine ⟨fun e he q => ?_, fun e he q => ?_, fun e he q => ?_⟩
 ·obtain ⟨m, hm, h1, h2⟩ := ks.kn e he
  rw [q] at h1; simp only [Int.ofNat_eq_natCast] at h1; omega
 ·obtain ⟨m, hm, h1, h2⟩ := ks.ks e he
  rw [q] at h1; simp only [Int.ofNat_eq_natCast] at h1; omega
 ·obtain ⟨m, hm, h1, h2⟩ := ks.kc e he
  rw [q] at h1; simp only [Int.ofNat_eq_natCast] at h1; omega
theorem near {node : Int} (h : 0 ≤ node ∧ node < 8) : ∃ n : Nat, n < 8 ∧ node = .ofNat n := ⟨node.toNat, by omega, by simp only [Int.ofNat_eq_natCast]; omega⟩
theorem dropCheckS_is {s : RS} {node ix : Int} {id : List Nat} (ks : KsOk s) : dropCheckS s node id ix = (if s.cs.any (fun e => decide (e.v.node = node ∧ e.v.id = id)) = true then ({ s with cs := cutE (fun v : KC => decide (v.node = node ∧ v.id = id)) s.cs, l3 := maxI s.l3 ix }, 0) else (s, 4)) := by
 unfold dropCheckS
 by_cases hn : 0 ≤ node ∧ node < 8
 ·obtain ⟨n, hn8, rfl⟩ := near hn
  have h1 := any_key (p := fun v : KC => decide (v.node = .ofNat n ∧ v.id = id)) ks.keyC
  have h2 := cut_key (p := fun v : KC => decide (v.node = .ofNat n ∧ v.id = id)) ks.keyC
  by_cases hf : findE s.cs (RO.keyS n id) = none
  ·rw [if_neg (fun k => k.2 hf), if_neg (fun k => h1.1 k hf)]
  ·rw [if_pos ⟨hn, hf⟩, if_pos (h1.2 hf), h2]; rfl
 ·rw [if_neg (fun k => hn k.1), if_neg]
  rw [Bool.not_eq_true, List.any_eq_false]
  intro e he
  rw [decide_eq_true_iff]
  exact fun k => (far ks hn).2.2 e he k.1
set_option maxHeartbeats 4000000 in
theorem dropCheck34_ok {H R : HL} {wp M : Nat} {s : RS} {node ix : Int} {id : List Nat} (ok : RsOk M s) (ks : KsOk s) (h : RefAt B H wp M s R) :
  WF B tab (.func 34) [.ptr ⟨false, wp, 0⟩, .int .i64 node, .str id, .int .u64 ix] H fun r H' => r = .int .i64 (.ofNat (dropCheckS s node id ix).2) ∧ RefAt B H' wp M (dropCheckS s node id ix).1 R := by
 rw [dropCheckS_is ks]
 refine zY ?_
 obtain ⟨qs0, v1, v2, v3, h1, h2, h3, e1, hp, o1, o2, o3, q⟩ := h.toQ
 have c1 := o1.cell
 have c2 := o2.cell
 have c3 := o3.cell
 have hl : s.cs.length ≤ 64 := by have h1 := ok.n3; have h2 := ok.m2; omega
 refine WF.perm q ?_
 refine WF.fn g34 rfl ?_
 repeat' (first
  | apply zC | apply zE | apply zD | apply zK | (apply zB; rfl; (intro _; rfl)))
 refine yG ?_
 obtain ⟨i, hi⟩ : ∃ i : Nat, i = 0 := ⟨0, rfl⟩
 obtain ⟨w, hw⟩ : ∃ v, v = AV.nilsl := ⟨_, rfl⟩
 obtain ⟨us, hus⟩ : ∃ u : List (TE KC), u = [] := ⟨_, rfl⟩
 obtain ⟨hv, hhv⟩ : ∃ h : HL, h = [] := ⟨_, rfl⟩
 obtain ⟨is, his⟩ : ∃ b : Bool, b = false := ⟨_, rfl⟩
 refine WL.le (t' := [(0, .ptr ⟨false, wp, 0⟩), (1, .int .i64 node), (2, .str id), (3, .int .u64 ix), (9, w), (10, .bool is), (11, .int .i64 (.ofNat i))]) (by subst hi hw his; exact zA rfl (zA rfl (zA rfl (zA rfl (zA rfl (zA rfl (zA rfl zH))))))) ?_
 refine WL.heq (H' := (wp, .row (refC M v1 v2 v3 s)) :: (hv ++ (h1 ++ (h2 ++ (h3 ++ R))))) (by subst hhv; rfl) ?_
 have o9 : OwnSl w (us.map entC).flatten us.length 7 hv := by subst hus; exact .inl ⟨hw, rfl, rfl, hhv⟩
 have hu2 : us = cutE (fun v : KC => decide (v.node = node ∧ v.id = id)) (s.cs.take i) := by subst hi hus; simp [cutE]
 have hi2 : is = (s.cs.take i).any (fun e => decide (e.v.node = node ∧ e.v.id = id)) := by subst hi his; rfl
 have hle : i ≤ s.cs.length := by omega
 clear hi hw hus hhv his
 induction hm : s.cs.length - i using Nat.strongRecOn generalizing i w us hv is with | _ k ih => ?_
 apply WL.step
 have sA : SlIs B ((wp, .row (refC M v1 v2 v3 s)) :: (hv ++ (h1 ++ (h2 ++ (h3 ++ R))))) v3 7 (s.cs.map entC) := SlIs.cons (SlIs.right (SlIs.right (SlIs.right (SlIs.left (entsC_sl o3)))))
 repeat' (first
  | apply zC | apply zE | apply zD | apply zJ | apply zZ | apply zK | (apply zF; rfl; rfl; (first | exact ld0 rfl | exact ld1 rfl | exact ld2 rfl); rfl) | (apply zU; rfl; rfl; exact sA) | (apply zM; rfl; rfl; rfl; rfl; intro _ _) | (apply zB; rfl; (intro _; rfl)) | (apply zN; rfl; all_goals (intro hb; try subst hb)))
 ·rw [List.length_map] at *
  have hlt : i < s.cs.length := by
   have h0 := ‹true = true ↔ cmpP BinOp.lss (Int.ofNat i) (Int.ofNat s.cs.length)›.1 rfl
   simp [cmpP] at h0; omega
  have hcm : (s.cs.map entC)[i]? = some (entC s.cs[i]) := by rw [List.getElem?_map, List.getElem?_eq_getElem hlt]; rfl
  have hul : us.length ≤ 64 := by rw [hu2]; exact Nat.le_trans (cut_len) (by rw [List.length_take]; omega)
  have eF : ¬ (s.cs[i].v.node = node ∧ s.cs[i].v.id = id) → us ++ [s.cs[i]] = cutE (fun v : KC => decide (v.node = node ∧ v.id = id)) (s.cs.take (i + 1)) ∧ is = (s.cs.take (i + 1)).any (fun e => decide (e.v.node = node ∧ e.v.id = id)) := by
   intro hb
   constructor
   ·rw [hu2]; unfold cutE; rw [List.take_succ_eq_append_getElem hlt, List.filter_append]; simp only [List.filter_cons, decide_eq_false hb, List.filter_nil, Bool.not_false, if_true]
   ·rw [hi2, List.take_succ_eq_append_getElem hlt, List.any_append]; simp only [List.any_cons, decide_eq_false hb, List.any_nil, Bool.or_false]
  have eT : (s.cs[i].v.node = node ∧ s.cs[i].v.id = id) → us = cutE (fun v : KC => decide (v.node = node ∧ v.id = id)) (s.cs.take (i + 1)) ∧ true = (s.cs.take (i + 1)).any (fun e => decide (e.v.node = node ∧ e.v.id = id)) := by
   intro hb
   constructor
   ·rw [hu2]; unfold cutE; rw [List.take_succ_eq_append_getElem hlt, List.filter_append]; simp only [List.filter_cons, decide_eq_true hb, List.filter_nil, Bool.not_true, Bool.false_eq_true, if_false, List.append_nil]
   ·rw [List.take_succ_eq_append_getElem hlt, List.any_append]; simp only [List.any_cons, decide_eq_true hb, List.any_nil, Bool.or_false, Bool.or_true]
  have nx : ∀ w' us' hv' is', OwnSl w' (us'.map entC).flatten us'.length 7 hv' → us' = cutE (fun v : KC => decide (v.node = node ∧ v.id = id)) (s.cs.take (i + 1)) → is' = (s.cs.take (i + 1)).any (fun e => decide (e.v.node = node ∧ e.v.id = id)) → WL B tab c34.nt none _ [(0, .ptr ⟨false, wp, 0⟩), (1, .int .i64 node), (2, .str id), (3, .int .u64 ix), (9, w'), (10, .bool is'), (11, .int .i64 (.ofNat (i + 1)))] ((wp, .row (refC M v1 v2 v3 s)) :: (hv' ++ (h1 ++ (h2 ++ (h3 ++ R))))) _ := fun w' us' hv' is' a1 a2 a3 => ih _ (by omega) (i + 1) w' us' hv' is' a1 a2 a3 (by omega) rfl
  repeat' (first
   | apply zC | apply zD | (apply zO; rfl) | (apply zF; rfl; rfl; (first | exact ld0 rfl | exact ld1 rfl | exact ld2 rfl); rfl) | (apply yF; rfl; (· repeat' (first | rfl | assumption | apply ac1)); intro _) | (apply yA; rfl; rfl; rfl; exact sA; exact hcm; intro ax hax) | (apply zF; rfl; rfl; exact Ld.part hax 0 1 (by omega); rfl) | (apply zF; rfl; rfl; exact Ld.part hax 1 1 (by omega); rfl) | (apply zF; rfl; rfl; exact hax; rfl) | (apply zR; rfl; rfl; rfl; omega) | (apply zM; rfl; rfl; rfl; rfl; intro _ _) | (apply yH; rfl; rfl; rfl; rfl; intro _ _) | (apply zB; rfl; (intro _; rfl)) | (apply zV; rfl) | (apply WOps.ask; rfl; all_goals (intro hb; first | subst hb | fail_if_success (cases hb))) | (apply zN; rfl; all_goals (intro hb; try subst hb)))
  ·obtain ⟨f1, f2⟩ := eT ⟨‹true = true ↔ cmpP BinOp.eql s.cs[i].v.node node›.1 rfl, ‹true = true ↔ cmpS BinOp.eql s.cs[i].v.id id›.1 rfl⟩
   exact WL.le (zA rfl (zA rfl (zA rfl (zA rfl (zA rfl (zA rfl (zA rfl zH))))))) (nx w us hv _ o9 f1 f2)
  all_goals
   obtain ⟨f1, f2⟩ := eF (by
    first
     | exact fun h => (eq_of_ff ‹false = true ↔ cmpP BinOp.eql s.cs[i].v.node node›) h.1
     | exact fun h => (eq_of_ff ‹false = true ↔ cmpS BinOp.eql s.cs[i].v.id id›) h.2)
   refine yD (n := us.length) rfl rfl rfl o9 (List.perm_append_comm_assoc [_, _] hv _) (src_one zG rfl) (entsC_cell _) rfl rfl (by omega) ?_
   intro v4 h4 o4
  ·repeat' (first
    | apply zC | apply zD | (apply zR; rfl; rfl; rfl; omega) | (apply zB; rfl; (intro _; rfl)))
   refine WL.le (zA rfl (zA rfl (zA rfl (zA rfl (zA rfl (zA rfl (zA rfl zH))))))) (yB (H1 := (wp, .row (refC M v1 v2 v3 s)) :: (h4 ++ (h1 ++ (h2 ++ (h3 ++ R))))) (subF (by intro f; simp only [AV.cells, pm] <;> omega)) (nx v4 (us ++ [s.cs[i]]) h4 is ?_ f1 f2))
   rw [List.map_append, List.flatten_append, List.length_append]
   exact o4
  ·repeat' (first
    | apply zC | apply zD | (apply zR; rfl; rfl; rfl; omega) | (apply zB; rfl; (intro _; rfl)))
   refine WL.le (zA rfl (zA rfl (zA rfl (zA rfl (zA rfl (zA rfl (zA rfl zH))))))) (yB (H1 := (wp, .row (refC M v1 v2 v3 s)) :: (h4 ++ (h1 ++ (h2 ++ (h3 ++ R))))) (subF (by intro f; simp only [AV.cells, pm] <;> omega)) (nx v4 (us ++ [s.cs[i]]) h4 is ?_ f1 f2))
   rw [List.map_append, List.flatten_append, List.length_append]
   exact o4
 ·rw [List.length_map] at *
  have hge : i = s.cs.length := by
   have h0 := eq_of_ff ‹false = true ↔ cmpP BinOp.lss (Int.ofNat i) (Int.ofNat s.cs.length)›
   simp [cmpP] at h0; omega
  subst hge
  rw [List.take_length] at hu2 hi2
  repeat' (first
   | apply zC | apply zE | apply zD | apply zJ | apply zL | apply zZ | (apply zS; rfl) | (apply zO; rfl) | apply zK | (apply zF; rfl; rfl; (first | exact ld0 rfl | exact ld1 rfl | exact ld2 rfl); rfl) | (apply zP; rfl; rfl; (first | exact tk0 | exact tk1 | exact tk2); rfl; (· repeat' (first | rfl | assumption | apply ac1)); rfl) | (apply yF; rfl; (· repeat' (first | rfl | assumption | apply ac1)); intro _) | (apply zM; rfl; rfl; rfl; rfl; intro _ _) | (apply yH; rfl; rfl; rfl; rfl; intro _ _) | (apply zB; rfl; (intro _; rfl)) | (apply zV; rfl) | (apply WOps.ask; rfl; all_goals (intro hb; first | subst hb | fail_if_success (cases hb))) | (apply zN; rfl; all_goals (intro hb; try subst hb)))
  refine zP (cs := refC M v1 v2 v3 s) (cs' := refC M v1 v2 w s) rfl rfl zG (by rw [o9.cells]; rfl) (by rw [o9.cells]; exact allCell_cons o9.cell allCell_nil) (by rw [o9.cells]; rfl) ?_
  have c9 := o9.cell
  cases is
  ·repeat' (first
    | apply zC | apply zE | apply zD | apply zL | (apply zS; rfl) | (apply zB; rfl; (intro _; rfl)))
   rw [if_neg (by rw [← hi2]; simp)]
   rw [cut_none hi2.symm] at hu2
   subst hu2
   exact ⟨trivial, [_], ⟨_, [], rfl, rfl, rfl⟩, (wp, .row (refC M v1 v2 w s)) :: (h1 ++ (h2 ++ (hv ++ R))), ⟨rfl, RefAt.ofQ (qs := qs0) (h3 := hv) (R := R) e1 hp o1 o2 o9 (List.Perm.refl _)⟩, subF (by intro f; simp only [AV.cells, pm] <;> omega)⟩
  ·repeat' (first
    | apply zC | apply zE | apply zD | apply zJ | apply zL | (apply zO; rfl) | (apply WOps.clA; rfl; rfl; exact raise64_2 (s := s) c1 c2 c9; rintro _ _ rfl) | (apply zB; rfl; (intro _; rfl)))
   rw [if_pos hi2.symm]
   subst hu2
   exact ⟨trivial, [_], ⟨_, [], rfl, rfl, rfl⟩, (wp, .row (refC M v1 v2 w { s with l3 := maxI s.l3 ix })) :: (h1 ++ (h2 ++ (hv ++ R))), ⟨rfl, RefAt.ofQ (qs := qs0) e1 hp o1 o2 o9 (List.Perm.refl _)⟩, subF (by intro f; simp only [AV.cells, pm] <;> omega)⟩
theorem pS_all {node : Int} {id : List Nat} : pS node true id = fun v => decide (v.node = node) := by funext v; simp [pS]
theorem pC_all {node : Int} {id : List Nat} : pC node true id = fun v => decide (v.node = node) := by funext v; simp [pC]
theorem pC_svc {node : Int} {id : List Nat} : pC node false id = fun v => decide (v.node = node ∧ v.svc = id) := by funext v; simp [pC]
set_option maxHeartbeats 4000000 in
theorem dropNode28_ok {H R : HL} {wp M : Nat} {s : RS} {node ix : Int} (ok : RsOk M s) (ks : KsOk s) (h : RefAt B H wp M s R) :
  WF B tab (.func 28) [.ptr ⟨false, wp, 0⟩, .int .i64 node, .int .u64 ix] H fun r H' => r = .int .i64 (.ofNat (dropNodeS s node ix).2) ∧ RefAt B H' wp M (dropNodeS s node ix).1 R := by
 refine zY ?_
 have hh := h
 obtain ⟨qs0, v1, v2, v3, h1, h2, h3, e1, hp, o1, o2, o3, q⟩ := h.toQ
 have c1 := o1.cell
 have c2 := o2.cell
 have c3 := o3.cell
 have hl : s.ns.length ≤ 64 := by have h1 := ok.n1; have h2 := ok.m2; omega
 by_cases hth : thereK s.ns node
 ·obtain ⟨n, hn8, rfl, hf⟩ := id hth
  have e : dropNodeS s (.ofNat n) ix = ({ s with ns := cutE (fun v => decide (v.node = .ofNat n)) s.ns, ss := cutE (pS (.ofNat n) true []) s.ss, cs := cutE (pC (.ofNat n) true []) s.cs, l1 := maxI s.l1 ix, l2 := lastX (pS (.ofNat n) true []) s.ss s.l2 ix, l3 := lastX (pC (.ofNat n) true []) s.cs s.l3 ix }, 0) := by
   unfold dropNodeS
   rw [if_pos hth, cut_key (es := s.ns) (p := fun v : KN => decide (v.node = .ofNat n)) ks.keyN, pS_all, pC_all]; rfl
  rw [e]
  refine WF.fn g28 rfl ?_
  repeat' (first
   | apply zC | apply zE | apply zD | apply zJ | (apply zO; rfl) | apply zK | (apply WOps.clR; rfl; rfl; exact RefAt.there ok ks hh; rintro _ ⟨b, rfl, hb⟩; obtain rfl : b = true := hb.2 hth) | (apply zB; rfl; (intro _; rfl)))
  refine yG ?_
  obtain ⟨i, hi⟩ : ∃ i : Nat, i = 0 := ⟨0, rfl⟩
  obtain ⟨w, hw⟩ : ∃ v, v = AV.nilsl := ⟨_, rfl⟩
  obtain ⟨us, hus⟩ : ∃ u : List (TE KN), u = [] := ⟨_, rfl⟩
  obtain ⟨hv, hhv⟩ : ∃ h : HL, h = [] := ⟨_, rfl⟩
  refine WL.le (t' := [(0, .ptr ⟨false, wp, 0⟩), (1, .int .i64 (.ofNat n)), (2, .int .u64 ix), (7, w), (8, .int .i64 (.ofNat i))]) (by subst hi hw; exact zA rfl (zA rfl (zA rfl (zA rfl (zA rfl zH))))) ?_
  refine WL.perm q ?_
  refine WL.heq (H' := (wp, .row (refC M v1 v2 v3 s)) :: (hv ++ (h1 ++ (h2 ++ (h3 ++ R))))) (by subst hhv; rfl) ?_
  have o9 : OwnSl w (us.map entN).flatten us.length 4 hv := by subst hus; exact .inl ⟨hw, rfl, rfl, hhv⟩
  have hu2 : us = cutE (fun v : KN => decide (v.node = .ofNat n)) (s.ns.take i) := by subst hi hus; simp [cutE]
  have hle : i ≤ s.ns.length := by omega
  clear hi hw hus hhv
  induction hm : s.ns.length - i using Nat.strongRecOn generalizing i w us hv with | _ k ih => ?_
  apply WL.step
  have sA : SlIs B ((wp, .row (refC M v1 v2 v3 s)) :: (hv ++ (h1 ++ (h2 ++ (h3 ++ R))))) v1 4 (s.ns.map entN) := SlIs.cons (SlIs.right (SlIs.left (entsN_sl o1)))
  repeat' (first
   | apply zC | apply zE | apply zD | apply zJ | apply zZ | apply zK | (apply zF; rfl; rfl; (first | exact ld0 rfl | exact ld1 rfl | exact ld2 rfl); rfl) | (apply zU; rfl; rfl; exact sA) | (apply zM; rfl; rfl; rfl; rfl; intro _ _) | (apply zB; rfl; (intro _; rfl)) | (apply zN; rfl; all_goals (intro hb; try subst hb)))
  ·rw [List.length_map] at *
   have hlt : i < s.ns.length := by
    have h0 := ‹true = true ↔ cmpP BinOp.lss (Int.ofNat i) (Int.ofNat s.ns.length)›.1 rfl
    simp [cmpP] at h0; omega
   have hcm : (s.ns.map entN)[i]? = some (entN s.ns[i]) := by rw [List.getElem?_map, List.getElem?_eq_getElem hlt]; rfl
   have hul : us.length ≤ 64 := by rw [hu2]; exact Nat.le_trans (cut_len) (by rw [List.length_take]; omega)
   have eF : ¬ s.ns[i].v.node = .ofNat n → us ++ [s.ns[i]] = cutE (fun v : KN => decide (v.node = .ofNat n)) (s.ns.take (i + 1)) := by
    intro hb
    rw [hu2]; unfold cutE; rw [List.take_succ_eq_append_getElem hlt, List.filter_append]; simp only [List.filter_cons, decide_eq_false hb, List.filter_nil, Bool.not_false, if_true]
   have eT : s.ns[i].v.node = .ofNat n → us = cutE (fun v : KN => decide (v.node = .ofNat n)) (s.ns.take (i + 1)) := by
    intro hb
    rw [hu2]; unfold cutE; rw [List.take_succ_eq_append_getElem hlt, List.filter_append]; simp only [List.filter_cons, decide_eq_true hb, List.filter_nil, Bool.not_true, Bool.false_eq_true, if_false, List.append_nil]
   have nx : ∀ w' us' hv', OwnSl w' (us'.map entN).flatten us'.length 4 hv' → us' = cutE (fun v : KN => decide (v.node = .ofNat n)) (s.ns.take (i + 1)) → WL B tab c28.nt none _ [(0, .ptr ⟨false, wp, 0⟩), (1, .int .i64 (.ofNat n)), (2, .int .u64 ix), (7, w'), (8, .int .i64 (.ofNat (i + 1)))] ((wp, .row (refC M v1 v2 v3 s)) :: (hv' ++ (h1 ++ (h2 ++ (h3 ++ R))))) _ := fun w' us' hv' a1 a2 => ih _ (by omega) (i + 1) w' us' hv' a1 a2 (by omega) rfl
   repeat' (first
    | apply zC | apply zD | apply zJ | (apply zF; rfl; rfl; (first | exact ld0 rfl | exact ld1 rfl | exact ld2 rfl); rfl) | (apply yF; rfl; (· repeat' (first | rfl | assumption | apply ac1)); intro _) | (apply yA; rfl; rfl; rfl; exact sA; exact hcm; intro ax hax) | (apply zF; rfl; rfl; exact Ld.part hax 0 1 (by omega); rfl) | (apply zF; rfl; rfl; exact hax; rfl) | (apply zR; rfl; rfl; rfl; omega) | (apply zM; rfl; rfl; rfl; rfl; intro _ _) | (apply zB; rfl; (intro _; rfl)) | (apply zN; rfl; all_goals (intro hb; try subst hb)))
   ·have f1 := eF (‹true = true ↔ cmpP BinOp.neq s.ns[i].v.node _›.1 rfl)
    refine yD (n := us.length) rfl rfl rfl o9 (List.perm_append_comm_assoc [_, _] hv _) (src_one zG rfl) (entsN_cell _) rfl rfl (by omega) ?_
    intro v4 h4 o4
    repeat' (first
     | apply zC | apply zD | (apply zR; rfl; rfl; rfl; omega) | (apply zB; rfl; (intro _; rfl)))
    refine WL.le (zA rfl (zA rfl (zA rfl (zA rfl (zA rfl zH))))) (yB (H1 := (wp, .row (refC M v1 v2 v3 s)) :: (h4 ++ (h1 ++ (h2 ++ (h3 ++ R))))) (subF (by intro f; simp only [AV.cells, pm] <;> omega)) (nx v4 (us ++ [s.ns[i]]) h4 ?_ f1))
    rw [List.map_append, List.flatten_append, List.length_append]
    exact o4
   ·have f1 := eT (Classical.not_not.1 (eq_of_ff ‹false = true ↔ cmpP BinOp.neq s.ns[i].v.node _›))
    exact WL.le (zA rfl (zA rfl (zA rfl (zA rfl (zA rfl zH))))) (nx w us hv o9 f1)
  ·rw [List.length_map] at *
   have hge : i = s.ns.length := by
    have h0 := eq_of_ff ‹false = true ↔ cmpP BinOp.lss (Int.ofNat i) (Int.ofNat s.ns.length)›
    simp [cmpP] at h0; omega
   subst hge
   rw [List.take_length] at hu2
   repeat' (first
    | apply zC | apply zE | apply zD | apply zJ | apply zL | apply zZ | (apply zS; rfl) | (apply zO; rfl) | apply zK | (apply zF; rfl; rfl; (first | exact ld0 rfl | exact ld1 rfl | exact ld2 rfl); rfl) | (apply zP; rfl; rfl; (first | exact tk0 | exact tk1 | exact tk2); rfl; (· repeat' (first | rfl | assumption | apply ac1)); rfl) | (apply yF; rfl; (· repeat' (first | rfl | assumption | apply ac1)); intro _) | (apply zM; rfl; rfl; rfl; rfl; intro _ _) | (apply yH; rfl; rfl; rfl; rfl; intro _ _) | (apply zB; rfl; (intro _; rfl)) | (apply zN; rfl; all_goals (intro hb; try subst hb)))
   refine zP (cs := refC M v1 v2 v3 s) (cs' := refC M w v2 v3 s) rfl rfl zG (by rw [o9.cells]; rfl) (by rw [o9.cells]; exact allCell_cons o9.cell allCell_nil) (by rw [o9.cells]; rfl) ?_
   have c9 := o9.cell
   subst hu2
   repeat' (first
    | apply zC)
   refine zE (zD ?_)
   repeat' (first
    | apply zC | (apply WOps.clA; rfl; rfl; exact raise64_0 (s := s) c9 c2 c3; rintro _ _ rfl) | (apply zB; rfl; (intro _; rfl)))
   have hr : RefAt B ((wp, .row (refC M w v2 v3 { s with l1 := maxI s.l1 ix })) :: (hv ++ (h1 ++ (h2 ++ (h3 ++ R))))) wp M { s with ns := cutE (fun v => decide (v.node = .ofNat n)) s.ns, l1 := maxI s.l1 ix } (h1 ++ R) := RefAt.ofQ (qs := qs0) e1 hp o9 o2 o3 (permF (by intro f; simp only [refC, List.map_cons, List.map_append, List.sum_cons, List.sum_append]; omega))
   have ok2 : RsOk M { s with ns := cutE (fun v => decide (v.node = .ofNat n)) s.ns, l1 := maxI s.l1 ix } := ok.subN _ List.filter_sublist
   repeat' (first
    | apply zC | apply zE | apply zD | apply zL | (apply WOps.clA; rfl; rfl; exact drop71_ok (all := true) (id := []) ok2 hr; intro r7 H7 h7) | (apply WOps.clA; rfl; rfl; exact drop72_ok (all := true) (id := []) (ok2.subS _ List.filter_sublist) h7; intro r8 H8 h8) | (apply zB; rfl; (intro _; rfl)))
   obtain ⟨H3, b3, s3⟩ := h8.less (R1 := R) (subF (by intro f; simp only [AV.cells, pm] <;> omega))
   exact ⟨trivial, [_], ⟨_, [], rfl, rfl, rfl⟩, H3, ⟨rfl, b3⟩, s3⟩
 ·have e : dropNodeS s node ix = (s, 4) := by unfold dropNodeS; rw [if_neg hth]
  rw [e]
  refine WF.fn g28 rfl ?_
  repeat' (first
   | apply zC | apply zE | apply zD | apply zL | (apply zS; rfl) | (apply WOps.clR; rfl; rfl; exact RefAt.there ok ks hh; rintro _ ⟨b, rfl, hb⟩; obtain rfl : b = false := by rw [Bool.eq_false_iff]; exact fun q => hth (hb.1 q)) | (apply zB; rfl; (intro _; rfl)))
  exact ⟨trivial, [_], ⟨_, [], rfl, rfl, rfl⟩, H, ⟨rfl, hh⟩, SubP.refl⟩
theorem has76_any {H R : HL} {wp M : Nat} {s : RS} {node : Int} {id : List Nat} (ok : RsOk M s) (ks : KsOk s) (h : RefAt B H wp M s R) : WF B tab (.func 76) [.ptr ⟨false, wp, 0⟩, .int .i64 node, .str id] H fun r H' => H' = H ∧ ∃ b : Bool, r = .bool b ∧ (b = true ↔ (0 ≤ node ∧ node < 8) ∧ findE s.ss (keyS node.toNat id) ≠ none) := by
 by_cases hn : 0 ≤ node ∧ node < 8
 ·obtain ⟨n, hn8, rfl⟩ := near hn
  refine (RefAt.has (n := n) ok ks h).mono ?_
  rintro r _ ⟨rfl, b, rfl, hb⟩
  exact ⟨rfl, b, rfl, hb.trans ⟨fun k => ⟨hn, k⟩, fun k => k.2⟩⟩
 ·obtain ⟨ps, v1, v2, v3, e1, hp, l, q1, q2, q3⟩ := h.rd
  have hl : ps.length ≤ 1000 := by have h1 := ok.n2; have := ok.m2; rw [← e1, List.length_map] at h1; omega
  refine WF.mono (has76_ok (l.part 2 1 (by omega)) q2 hl) ?_
  rintro r _ ⟨rfl, b, rfl, hb⟩
  refine ⟨rfl, b, rfl, hb.trans ⟨?_, fun k => absurd k.1 hn⟩⟩
  rintro ⟨p, hp, k1, k2⟩
  exact absurd k1 ((far ks hn).2.1 p.1 (by rw [← e1]; exact List.mem_map_of_mem hp))
set_option maxHeartbeats 2000000 in
theorem dropService32_ok {H R : HL} {wp M : Nat} {s : RS} {node ix : Int} {id : List Nat} (ok : RsOk M s) (ks : KsOk s) (h : RefAt B H wp M s R) :
  WF B tab (.func 32) [.ptr ⟨false, wp, 0⟩, .int .i64 node, .str id, .int .u64 ix] H fun r H' => r = .int .i64 (.ofNat (dropServiceS s node id ix).2) ∧ RefAt B H' wp M (dropServiceS s node id ix).1 R := by
 refine zY ?_
 refine WF.fn g32 rfl ?_
 repeat' (first
  | apply zC | apply zE | apply zD | apply zJ | apply zL | (apply zS; rfl) | (apply zO; rfl) | (apply WOps.clR; rfl; rfl; exact has76_any ok ks h; rintro _ ⟨b, rfl, hb⟩; cases b) | (apply WOps.clA; rfl; rfl; exact drop71_ok (all := false) ok h; intro r7 H7 h7) | (apply WOps.clA; rfl; rfl; exact drop72_ok (all := false) (ok.subS _ List.filter_sublist) h7; intro r8 H8 h8) | (apply zB; rfl; (intro _; rfl)))
 ·have e : dropServiceS s node id ix = (s, 4) := by
   unfold dropServiceS
   rw [if_neg (eq_of_ff hb)]
  exact ⟨trivial, [_], ⟨_, [], rfl, rfl, rfl⟩, H, ⟨by rw [e]; rfl, by rw [e]; exact h⟩, SubP.refl⟩
 ·have hq := hb.1 rfl
  obtain ⟨n, hn8, rfl⟩ := near hq.1
  have hf : findE s.ss (keyS n id) ≠ none := hq.2
  have e : dropServiceS s (.ofNat n) id ix = ({ s with ss := cutE (pS (.ofNat n) false id) s.ss, l2 := lastX (pS (.ofNat n) false id) s.ss s.l2 ix, cs := cutE (pC (.ofNat n) false id) s.cs, l3 := lastX (pC (.ofNat n) false id) s.cs s.l3 ix }, 0) := by
   unfold dropServiceS
   rw [if_pos hq, cut_key ks.keyS, last_some ((any_key ks.keyS).2 hf), pC_svc]; rfl
  exact ⟨trivial, [_], ⟨_, [], rfl, rfl, rfl⟩, H8, ⟨by rw [e]; rfl, by rw [e]; exact h8⟩, SubP.refl⟩
end Go.Proofs.YtgpnpcahcegadaaGreat.RO
