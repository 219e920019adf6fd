/- What the functions do, shown by the logic. -/
import Derived.Test.YtgpnpcahcegadaaGreatRoB
set_option linter.unusedSimpArgs false
set_option linter.unusedVariables false
set_option linter.unusedSectionVars false
set_option maxRecDepth 20000
namespace Go.Proofs.YtgpnpcahcegadaaGreat.RO
open Go.Proofs.YtgpnpcahcegadaaGreat.Abs
variable {B : Nat → List AV}
def rs0 : RS := ⟨[], [], [], .ofNat 0, .ofNat 0, .ofNat 0⟩
theorem new7_ok {H : HL} (m : Int) : WF B tab (.func 7) [.int .i64 m] H fun r H' => ∃ rp a1 a2 a3, r = .ptr ⟨false, rp, 0⟩ ∧ RosAt B H' rp a1 a2 a3 (mostOf m) rs0 H := by
 refine WF.fn g7 rfl ?_
 repeat' (first
  | apply zC | apply zE | apply zD | apply zL | (apply yC; rfl; rfl; (· repeat' (first | rfl | assumption | apply ac1)); intro _) | (apply WOps.clA; rfl; rfl; exact new22_ok _; rintro _ _ ⟨a1, rfl, rfl⟩) | (apply WOps.clA; rfl; rfl; exact new23_ok _; rintro _ _ ⟨a2, rfl, rfl⟩) | (apply WOps.clA; rfl; rfl; exact new24_ok _; rintro _ _ ⟨a3, rfl, rfl⟩) | (apply zB; rfl; (intro _; rfl)))
 rename_i rp
 refine ⟨trivial, [_], ⟨_, [], rfl, rfl, rfl⟩, rp, a1, a2, a3, rfl, [], [], [], .nilsl, .nilsl, .nilsl, [], [], [], [], rfl, rfl, rfl, .inl ⟨rfl, rfl, rfl, rfl⟩, .inl ⟨rfl, rfl, rfl, rfl⟩, .inl ⟨rfl, rfl, rfl, rfl⟩, (by intro e he; cases he), ?_⟩
 exact permF (by intro f; simp only [List.map_cons, List.map_append, List.sum_cons, List.sum_append, List.map_nil, List.sum_nil, AV.cells, tblC, rosC, rs0]; omega)
def lastC (s : RS) : List AV := [.int .u64 s.l1, .int .u64 s.l2, .int .u64 s.l3]
theorem last21_ok {H R : HL} {rp a1 a2 a3 M : Nat} {s : RS} (ok : RsOk M s) (h : RosAt B H rp a1 a2 a3 M s R) : WF B tab (.func 21) [.ptr ⟨false, rp, 0⟩] H fun r H' => H' = H ∧ r = .agg (lastC s) := by
 refine zY ?_
 refine WF.fn g21 rfl ?_
 obtain ⟨xn, R1, e1, t1, _⟩ := h.n
 obtain ⟨xs, G, R2, e2, tg, t2, _⟩ := h.s
 obtain ⟨xc, R3, e3, t3, _⟩ := h.c
 obtain ⟨v1, p0, p1, p2, _⟩ := t1.rd (B := B)
 obtain ⟨v2, q0, q1, q2, _⟩ := t2.rd (B := B)
 obtain ⟨v3, r0, r1, r2, _⟩ := t3.rd (B := B)
 have f1 := h.r1
 have f2 := h.r2
 have f3 := h.r3
 repeat' (first
  | apply zC | apply zE | apply zD | apply zJ | apply zL | (apply zO; rfl) | apply zT | apply zW | (apply yE; rfl; intro _) | (apply WD.st; rfl; rfl; rfl; (first | exact tk0 | exact tk1 | exact tk2); rfl; (· repeat' (first | rfl | assumption | apply ac1)); rfl) | (apply WOps.clR; rfl; rfl; exact none39_ok f1.cons; rintro _ rfl) | (apply zI; rfl; · repeat' (first | refine at1 ?_ rfl | apply at2 | exact same0 | refine same1 ?_ rfl | apply same2 | exact rd_ld rfl (f1.cons) rfl)) | (apply zI; rfl; · repeat' (first | refine at1 ?_ rfl | apply at2 | exact same0 | refine same1 ?_ rfl | apply same2 | exact rd_ld rfl (f2.cons) rfl)) | (apply zI; rfl; · repeat' (first | refine at1 ?_ rfl | apply at2 | exact same0 | refine same1 ?_ rfl | apply same2 | exact rd_ld rfl (f3.cons) rfl)) | (apply WD.clR; rfl; rfl; exact last59_ok p0.cons ok.m1 p2.cons; rintro _ rfl) | (apply WD.clR; rfl; rfl; exact last60_ok q0.cons ok.m1 q2.cons; rintro _ rfl) | (apply WD.clR; rfl; rfl; exact last61_ok r0.cons ok.m1 r2.cons; rintro _ rfl) | (apply zB; rfl; (intro _; rfl)) | (apply zQ; rfl; (intro _; rfl)))
 exact ⟨trivial, [_], ⟨_, [], rfl, ⟨_, _, rfl, Ld.own zG rfl, rfl⟩, rfl⟩, H, ⟨rfl, rfl⟩, SubP.of (List.sublist_cons_self _ _)⟩
def entN (e : TE KN) : List AV := [.int .i64 e.v.node, .str e.v.addr, .int .u64 e.mke, .int .u64 e.ix]
def entS (e : TE KS) (tv : AV) : List AV := svC e.v tv e.mke e.ix
def entC (e : TE KC) : List AV := ckC e.v e.mke e.ix
theorem told41_ok {H : HL} {v : NV} {mk ix : Int} : WF B tab (.func 41) [.agg (valN v), .int .u64 mk, .int .u64 ix] H fun r H' => H' = H ∧ r = .agg (entN ⟨[], coN v, mk, ix⟩) := by
 refine WF.fnR g41 rfl ?_
 repeat' (first
  | apply zC | apply zE | apply zD | apply zL | (apply zF; rfl; rfl; (first | exact ld0 rfl | exact ld1 rfl | exact ld2 rfl); rfl) | (apply zP; rfl; rfl; (first | exact tk0 | exact tk1 | exact tk2); rfl; (· repeat' (first | rfl | assumption | apply ac1)); rfl) | (apply yE; rfl; intro _) | (apply yC; rfl; rfl; (· repeat' (first | rfl | assumption | apply ac1)); intro _) | (apply zB; rfl; (intro _; rfl)))
 exact ⟨trivial, (List.sublist_cons_self _ _).trans (List.sublist_cons_self _ _), [_], ⟨_, [], rfl, ⟨_, _, rfl, Ld.own zG rfl, rfl⟩, rfl⟩, rfl⟩
theorem told45_ok {H : HL} {v : CV} {mk ix : Int} : WF B tab (.func 45) [.agg (valC v), .int .u64 mk, .int .u64 ix] H fun r H' => H' = H ∧ r = .agg (entC ⟨[], coC v, mk, ix⟩) := by
 refine WF.fnR g45 rfl ?_
 repeat' (first
  | apply zC | apply zE | apply zD | apply zL | (apply zF; rfl; rfl; (first | exact ld0 rfl | exact ld1 rfl | exact ld2 rfl); rfl) | (apply zP; rfl; rfl; (first | exact tk0 | exact tk1 | exact tk2); rfl; (· repeat' (first | rfl | assumption | apply ac1)); rfl) | (apply yE; rfl; intro _) | (apply yC; rfl; rfl; (· repeat' (first | rfl | assumption | apply ac1)); intro _) | (apply zB; rfl; (intro _; rfl)))
 exact ⟨trivial, (List.sublist_cons_self _ _).trans (List.sublist_cons_self _ _), [_], ⟨_, [], rfl, ⟨_, _, rfl, Ld.own zG rfl, rfl⟩, rfl⟩, rfl⟩
theorem entsN_cell : ∀ (es : List (TE KN)), allCell (es.map entN).flatten = true := by
 intro es
 rw [allCell_iff]
 intro v hv
 simp only [List.mem_flatten, List.mem_map] at hv
 obtain ⟨_, ⟨e, _, rfl⟩, hv⟩ := hv
 exact (allCell_iff (entN e)).1 rfl v hv
theorem entsN_sl {v : AV} {es : List (TE KN)} {h : HL} (o : OwnSl v (es.map entN).flatten es.length 4 h) : SlIs B h v 4 (es.map entN) := by
 have o2 : OwnSl v (es.map entN).flatten (es.map entN).length 4 h := by simpa using o
 exact OwnSl.sl o2 (by intro c hc; simp only [List.mem_map] at hc; obtain ⟨e, _, rfl⟩ := hc; rfl)
set_option maxHeartbeats 1000000 in
theorem all40_ok {H R : HL} {a M : Nat} {last : Int} {us : List (TE NV)} (hm : 1 ≤ M) (hn : us.length ≤ 1000) (t : TbN H a M us last R) :
  WF B tab (.func 40) [.ptr ⟨false, a, 0⟩, .agg [.fn (.func 41) [] []]] H fun r H' => ∃ h', OwnSl r ((us.map (TE.mp coN)).map entN).flatten us.length 4 h' ∧ H' = h' ++ H := by
 obtain ⟨v, h0, h1, h2, h3, h4⟩ := t.rd (B := B)
 refine zY ?_
 refine WF.fn g40 rfl ?_
 repeat' (first
  | apply zC | apply zE | apply zD | apply zK | (apply yC; rfl; rfl; (· repeat' (first | rfl | assumption | apply ac1)); intro _) | (apply WOps.clA; rfl; rfl; exact list83_ok h0.cons hm h1.cons h3.cons hn; rintro r _ ⟨h', o', rfl⟩) | (apply WOps.lenO; rfl; rfl; exact o') | (apply zB; rfl; (intro _; rfl)))
 rename_i p3
 refine yG ?_
 obtain ⟨i, hi⟩ : ∃ i : Nat, i = 0 := ⟨0, rfl⟩
 obtain ⟨w5, hw5⟩ : ∃ v, v = AV.nilsl := ⟨_, rfl⟩
 obtain ⟨hw, hhw⟩ : ∃ h : HL, h = [] := ⟨_, rfl⟩
 refine WL.le (t' := [(3, .ptr ⟨false, p3, 0⟩), (5, w5), (9, r), (10, .int .i64 (.ofNat us.length)), (11, .int .i64 (.ofNat i))]) (by subst hi; subst hw5; exact zA rfl (zA rfl (zA rfl (zA rfl (zA rfl zH))))) ?_
 refine yB (H1 := (p3, .row [.fn (.func 41) [] []]) :: (hw ++ (h' ++ H))) (by subst hhw; exact subF (by intro f; simp only [AV.cells, List.map_cons, List.map_append, List.sum_cons, List.sum_append, List.map_nil, List.sum_nil]; omega)) ?_
 have o5 : OwnSl w5 (((us.take i).map (TE.mp coN)).map entN).flatten i 4 hw := by subst hi; exact .inl ⟨hw5, rfl, rfl, hhw⟩
 have hle : i ≤ us.length := by omega
 clear hi hw5 hhw
 induction hk : us.length - i using Nat.strongRecOn generalizing i w5 hw with | _ k ih => ?_
 apply WL.step
 repeat' (first
  | apply zC | apply zE | apply zD | apply zJ | apply zL | apply zZ | apply zK | (apply zM; rfl; rfl; rfl; rfl; intro _ _) | (apply zB; rfl; (intro _; rfl)) | (apply zN; rfl; all_goals (intro hb; try subst hb)))
 ·have hlt : i < us.length := by
   have h0 := ‹true = true ↔ cmpP BinOp.lss (Int.ofNat i) (Int.ofNat us.length)›
   simp [cmpP] at h0; omega
  have hcm : (us.map rowN)[i]? = some (rowN us[i]) := by rw [List.getElem?_map, List.getElem?_eq_getElem hlt]; rfl
  repeat' (first
   | apply zC | apply zD | (apply zF; rfl; rfl; (first | exact ld0 rfl | exact ld1 rfl | exact ld2 rfl); rfl) | (apply zP; rfl; rfl; (first | exact tk0 | exact tk1 | exact tk2); rfl; (· repeat' (first | rfl | assumption | apply ac1)); rfl) | (apply yE; rfl; intro _) | (apply yF; rfl; (· repeat' (first | rfl | assumption | apply ac1)); intro _) | (apply yA; rfl; rfl; rfl; exact SlIs.cons (SlIs.right (SlIs.left (rows_slN o'))); exact hcm; intro ax hax) | (apply zF; rfl; rfl; exact hax; rfl) | (apply WOps.cvR; rfl; rfl; rfl; exact told41_ok; rintro _ rfl) | (apply zB; rfl; (intro _; rfl)))
  rename_i p7 q
  refine yD (n := i) rfl rfl rfl o5 (List.perm_append_comm_assoc [_, _, _] hw (h' ++ H)) (src_one zG rfl) (entsN_cell _) rfl rfl (by omega) ?_
  intro v2 h2 o2
  repeat' (first
   | apply zC | apply zD | (apply zR; rfl; rfl; rfl; omega) | (apply zB; rfl; (intro _; rfl)))
  refine WL.le (t' := [(3, .ptr ⟨false, p3, 0⟩), (5, v2), (9, r), (10, .int .i64 (.ofNat us.length)), (11, .int .i64 (.ofNat (i + 1)))]) (zA rfl (zA rfl (zA rfl (zA rfl (zA rfl zH))))) ?_
  refine yB (H1 := (p3, .row [.fn (.func 41) [] []]) :: (h2 ++ (h' ++ H))) (subF (by intro f; simp only [AV.cells, pm] <;> omega)) ?_
  refine ih _ (by omega) (i + 1) v2 h2 ?_ (by omega) rfl
  rw [List.take_succ_eq_append_getElem hlt, List.map_append, List.map_append, List.flatten_append]
  exact o2
 ·have hge : ¬ i < us.length := by
   have h0 := ‹false = true ↔ cmpP BinOp.lss (Int.ofNat i) (Int.ofNat us.length)›
   simp [cmpP] at h0; omega
  obtain rfl : i = us.length := by omega
  rw [List.take_length] at o5
  exact ⟨trivial, [_], ⟨_, [], rfl, rfl, rfl⟩, _, ⟨hw, o5, rfl⟩, subF (by intro f; simp only [AV.cells, pm] <;> omega)⟩
theorem entsC_cell : ∀ (es : List (TE KC)), allCell (es.map entC).flatten = true := by
 intro es
 rw [allCell_iff]
 intro v hv
 simp only [List.mem_flatten, List.mem_map] at hv
 obtain ⟨_, ⟨e, _, rfl⟩, hv⟩ := hv
 exact (allCell_iff (entC e)).1 rfl v hv
theorem entsC_sl {v : AV} {es : List (TE KC)} {h : HL} (o : OwnSl v (es.map entC).flatten es.length 7 h) : SlIs B h v 7 (es.map entC) := by
 have o2 : OwnSl v (es.map entC).flatten (es.map entC).length 7 h := by simpa using o
 exact OwnSl.sl o2 (by intro c hc; simp only [List.mem_map] at hc; obtain ⟨e, _, rfl⟩ := hc; rfl)
set_option maxHeartbeats 1000000 in
theorem all44_ok {H R : HL} {a M : Nat} {last : Int} {us : List (TE CV)} (hm : 1 ≤ M) (hn : us.length ≤ 1000) (t : TbC H a M us last R) :
  WF B tab (.func 44) [.ptr ⟨false, a, 0⟩, .agg [.fn (.func 45) [] []]] H fun r H' => ∃ h', OwnSl r ((us.map (TE.mp coC)).map entC).flatten us.length 7 h' ∧ H' = h' ++ H := by
 obtain ⟨v, h0, h1, h2, h3, h4⟩ := t.rd (B := B)
 refine zY ?_
 refine WF.fn g44 rfl ?_
 repeat' (first
  | apply zC | apply zE | apply zD | apply zK | (apply yC; rfl; rfl; (· repeat' (first | rfl | assumption | apply ac1)); intro _) | (apply WOps.clA; rfl; rfl; exact list85_ok h0.cons hm h1.cons h3.cons hn; rintro r _ ⟨h', o', rfl⟩) | (apply WOps.lenO; rfl; rfl; exact o') | (apply zB; rfl; (intro _; rfl)))
 rename_i p3
 refine yG ?_
 obtain ⟨i, hi⟩ : ∃ i : Nat, i = 0 := ⟨0, rfl⟩
 obtain ⟨w5, hw5⟩ : ∃ v, v = AV.nilsl := ⟨_, rfl⟩
 obtain ⟨hw, hhw⟩ : ∃ h : HL, h = [] := ⟨_, rfl⟩
 refine WL.le (t' := [(3, .ptr ⟨false, p3, 0⟩), (5, w5), (9, r), (10, .int .i64 (.ofNat us.length)), (11, .int .i64 (.ofNat i))]) (by subst hi; subst hw5; exact zA rfl (zA rfl (zA rfl (zA rfl (zA rfl zH))))) ?_
 refine yB (H1 := (p3, .row [.fn (.func 45) [] []]) :: (hw ++ (h' ++ H))) (by subst hhw; exact subF (by intro f; simp only [AV.cells, List.map_cons, List.map_append, List.sum_cons, List.sum_append, List.map_nil, List.sum_nil]; omega)) ?_
 have o5 : OwnSl w5 (((us.take i).map (TE.mp coC)).map entC).flatten i 7 hw := by subst hi; exact .inl ⟨hw5, rfl, rfl, hhw⟩
 have hle : i ≤ us.length := by omega
 clear hi hw5 hhw
 induction hk : us.length - i using Nat.strongRecOn generalizing i w5 hw with | _ k ih => ?_
 apply WL.step
 repeat' (first
  | apply zC | apply zE | apply zD | apply zJ | apply zL | apply zZ | apply zK | (apply zM; rfl; rfl; rfl; rfl; intro _ _) | (apply zB; rfl; (intro _; rfl)) | (apply zN; rfl; all_goals (intro hb; try subst hb)))
 ·have hlt : i < us.length := by
   have h0 := ‹true = true ↔ cmpP BinOp.lss (Int.ofNat i) (Int.ofNat us.length)›
   simp [cmpP] at h0; omega
  have hcm : (us.map rowC)[i]? = some (rowC us[i]) := by rw [List.getElem?_map, List.getElem?_eq_getElem hlt]; rfl
  repeat' (first
   | apply zC | apply zD | (apply zF; rfl; rfl; (first | exact ld0 rfl | exact ld1 rfl | exact ld2 rfl); rfl) | (apply zP; rfl; rfl; (first | exact tk0 | exact tk1 | exact tk2); rfl; (· repeat' (first | rfl | assumption | apply ac1)); rfl) | (apply yE; rfl; intro _) | (apply yF; rfl; (· repeat' (first | rfl | assumption | apply ac1)); intro _) | (apply yA; rfl; rfl; rfl; exact SlIs.cons (SlIs.right (SlIs.left (rows_slC o'))); exact hcm; intro ax hax) | (apply zF; rfl; rfl; exact hax; rfl) | (apply WOps.cvR; rfl; rfl; rfl; exact told45_ok; rintro _ rfl) | (apply zB; rfl; (intro _; rfl)))
  rename_i p7 q
  refine yD (n := i) rfl rfl rfl o5 (List.perm_append_comm_assoc [_, _, _] hw (h' ++ H)) (src_one zG rfl) (entsC_cell _) rfl rfl (by omega) ?_
  intro v2 h2 o2
  repeat' (first
   | apply zC | apply zD | (apply zR; rfl; rfl; rfl; omega) | (apply zB; rfl; (intro _; rfl)))
  refine WL.le (t' := [(3, .ptr ⟨false, p3, 0⟩), (5, v2), (9, r), (10, .int .i64 (.ofNat us.length)), (11, .int .i64 (.ofNat (i + 1)))]) (zA rfl (zA rfl (zA rfl (zA rfl (zA rfl zH))))) ?_
  refine yB (H1 := (p3, .row [.fn (.func 45) [] []]) :: (h2 ++ (h' ++ H))) (subF (by intro f; simp only [AV.cells, pm] <;> omega)) ?_
  refine ih _ (by omega) (i + 1) v2 h2 ?_ (by omega) rfl
  rw [List.take_succ_eq_append_getElem hlt, List.map_append, List.map_append, List.flatten_append]
  exact o2
 ·have hge : ¬ i < us.length := by
   have h0 := ‹false = true ↔ cmpP BinOp.lss (Int.ofNat i) (Int.ofNat us.length)›
   simp [cmpP] at h0; omega
  obtain rfl : i = us.length := by omega
  rw [List.take_length] at o5
  exact ⟨trivial, [_], ⟨_, [], rfl, rfl, rfl⟩, _, ⟨hw, o5, rfl⟩, subF (by intro f; simp only [AV.cells, pm] <;> omega)⟩
theorem told14_at {H R : HL} {rp a1 a2 a3 M : Nat} {s : RS} (ok : RsOk M s) (h : RosAt B H rp a1 a2 a3 M s R) :
  WF B tab (.func 14) [.ptr ⟨false, rp, 0⟩] H fun r H' => ∃ h', OwnSl r (s.ns.map entN).flatten s.ns.length 4 h' ∧ H' = h' ++ H := by
 obtain ⟨us, R1, e1, t, back⟩ := h.n
 have hl : us.length ≤ 1000 := by
  have h1 := ok.n1
  have h2 := ok.m2
  rw [← e1, List.length_map] at h1; omega
 refine WF.fn g14 rfl ?_
 repeat' (first
  | apply zC | apply zE | apply zD | apply zJ | apply zL | (apply zO; rfl) | (apply WOps.clR; rfl; rfl; exact none39_ok h.r1; rintro _ rfl) | (apply zF; rfl; rfl; exact h.r1; rfl) | (apply WOps.clA; rfl; rfl; exact all40_ok ok.m1 hl t; rintro r _ ⟨h', o', rfl⟩) | (apply zB; rfl; (intro _; rfl)))
 exact ⟨trivial, [_], ⟨_, [], rfl, rfl, rfl⟩, h', by rw [← e1, List.length_map]; exact o', rfl⟩
theorem told16_at {H R : HL} {rp a1 a2 a3 M : Nat} {s : RS} (ok : RsOk M s) (h : RosAt B H rp a1 a2 a3 M s R) :
  WF B tab (.func 16) [.ptr ⟨false, rp, 0⟩] H fun r H' => ∃ h', OwnSl r (s.cs.map entC).flatten s.cs.length 7 h' ∧ H' = h' ++ H := by
 obtain ⟨us, R1, e1, t, back⟩ := h.c
 have hl : us.length ≤ 1000 := by
  have h1 := ok.n3
  have h2 := ok.m2
  rw [← e1, List.length_map] at h1; omega
 refine WF.fn g16 rfl ?_
 repeat' (first
  | apply zC | apply zE | apply zD | apply zJ | apply zL | (apply zO; rfl) | (apply WOps.clR; rfl; rfl; exact none39_ok h.r1; rintro _ rfl) | (apply zF; rfl; rfl; exact h.r3; rfl) | (apply WOps.clA; rfl; rfl; exact all44_ok ok.m1 hl t; rintro r _ ⟨h', o', rfl⟩) | (apply zB; rfl; (intro _; rfl)))
 exact ⟨trivial, [_], ⟨_, [], rfl, rfl, rfl⟩, h', by rw [← e1, List.length_map]; exact o', rfl⟩
theorem perm_back2 {h2 H : HL} {a b : Nat × AObj} : (h2 ++ (a :: b :: H)).Perm (b :: a :: (h2 ++ H)) :=
 permF (by intro f; simp only [pm] <;> omega)
theorem perm_mid3 {h2 hw X : HL} {q a b : Nat × AObj} : (q :: (h2 ++ (a :: b :: (hw ++ X)))).Perm (hw ++ (q :: (h2 ++ (a :: b :: X)))) :=
 permF (by intro f; simp only [pm] <;> omega)
theorem told43_ok {H : HL} {v : SV} {mk ix : Int} (hu : SrcIs B H v.tg.a 1 v.tags.length (v.tags.map strC).flatten) (hl : v.tags.length ≤ 8796093021952) :
  WF B tab (.func 43) [.agg (valS v), .int .u64 mk, .int .u64 ix] H fun r H' => ∃ tv h2, r = .agg (svC (coS v) tv mk ix) ∧ OwnSl tv (v.tags.map strC).flatten v.tags.length 1 h2 ∧ H' = h2 ++ H := by
 refine zY ?_
 refine WF.fn g43 rfl ?_
 have ct := v.tg.c
 repeat' (first
  | apply zC | apply zE | apply zD | (apply zF; rfl; rfl; (first | exact ld0 rfl | exact ld1 rfl | exact ld2 rfl); rfl) | (apply zP; rfl; rfl; (first | exact tk0 | exact tk1 | exact tk2); rfl; (· repeat' (first | rfl | assumption | apply ac1)); rfl) | (apply yE; rfl; intro _) | (apply yC; rfl; rfl; (· repeat' (first | rfl | assumption | apply ac1)); intro _) | (apply yF; rfl; (· repeat' (first | rfl | assumption | apply ac1)); intro _) | (apply zB; rfl; (intro _; rfl)))
 rename_i p3 p6 q
 refine yD (h := [(q, .row [])]) (cells := []) (n := 0) rfl rfl rfl (.inr ⟨q, rfl, rfl, rfl⟩) (List.Perm.refl _) (src_cons (src_cons (src_cons hu))) rfl (strs_cell _) (strs_len _) (by omega) ?_
 intro v2 h2 o2
 have o3 : OwnSl v2 (v.tags.map strC).flatten v.tags.length 1 h2 := by simpa using o2
 have c2 := o3.cell
 repeat' (first
  | (apply zB; rfl; (intro _; rfl)))
 refine zP (cs := svC (coS v) v.tg.a mk ix) (cs' := svC (coS v) v2 mk ix) rfl rfl List.perm_middle (by rw [o3.cells]; rfl) (by rw [o3.cells]; exact allCell_cons o3.cell allCell_nil) (by rw [o3.cells]; rfl) ?_
 repeat' (first
  | apply zC | apply zE | apply zD | (apply zF; rfl; rfl; (first | exact ld0 rfl | exact ld1 rfl | exact ld2 rfl); rfl))
 refine zP (v := .agg (svC (coS v) v2 mk ix)) (cs' := svC (coS v) v2 mk ix) rfl rfl (Tk.tail List.perm_middle) rfl ?_ rfl ?_
 ·repeat' (first | exact ac0 | apply ac1)
  all_goals first | rfl | assumption
 repeat' (first
  | apply zC | apply zL)
 refine ⟨trivial, [_], ⟨_, [], rfl, ⟨_, _, rfl, Ld.own zG rfl, rfl⟩, rfl⟩, h2 ++ H, ⟨v2, h2, rfl, o3, rfl⟩, ?_⟩
 exact SubP.of ((List.sublist_cons_self _ _).trans (List.sublist_cons_self _ _))
def entP (ps : List (TE KS × AV)) : List AV := (ps.map fun p => entS p.1 p.2).flatten
def PsIn (B : Nat → List AV) (G : HL) (ps : List (TE KS × AV)) : Prop := ∀ p, p ∈ ps → TgIn B G p.2 p.1.v.tags
theorem entP_cell {G : HL} {ps : List (TE KS × AV)} (h : PsIn B G ps) : allCell (entP ps) = true := by
 rw [allCell_iff]
 intro v hv
 simp only [entP, List.mem_flatten, List.mem_map] at hv
 obtain ⟨_, ⟨e, he, rfl⟩, hv⟩ := hv
 have c := (h e he).1.cell
 simp only [entS, svC, List.mem_cons, List.not_mem_nil, or_false] at hv
 rcases hv with rfl | rfl | rfl | rfl | rfl | rfl | rfl
 all_goals first | rfl | exact c
theorem entP_sl {v : AV} {ps : List (TE KS × AV)} {h : HL} (o : OwnSl v (entP ps) ps.length 7 h) : SlIs B h v 7 (ps.map fun p => entS p.1 p.2) := by
 refine OwnSl.sl (xs := ps.map fun p => entS p.1 p.2) (by rw [List.length_map]; exact o) ?_
 intro c hc
 obtain ⟨p, _, rfl⟩ := List.mem_map.1 hc
 rfl
theorem entP_app {ps : List (TE KS × AV)} {p : TE KS × AV} : entP (ps ++ [p]) = entP ps ++ entS p.1 p.2 := by simp [entP]
theorem PsIn.right {G X : HL} {ps : List (TE KS × AV)} (h : PsIn B G ps) : PsIn B (X ++ G) ps := fun p hp => (h p hp).right
set_option maxHeartbeats 2000000 in
theorem all42_ok {H R G : HL} {a M : Nat} {last : Int} {us : List (TE SV)} (hm : 1 ≤ M) (hn : us.length ≤ 1000) (t : TbS H a M us last R) (tg : TagsIn B G us) (tR : ∀ a l, TgIn B G a l → TgIn B H a l) (hl : ∀ e, e ∈ us → e.v.tags.length ≤ 4) :
  WF B tab (.func 42) [.ptr ⟨false, a, 0⟩, .agg [.fn (.func 43) [] []]] H fun r H' => ∃ h' G' ps, ps.map (·.1) = us.map (fun e => (⟨[], coS e.v, e.mke, e.ix⟩ : TE KS)) ∧ OwnSl r (entP ps) ps.length 7 h' ∧ PsIn B G' ps ∧ H' = h' ++ (G' ++ H) := by
 obtain ⟨v, h0, h1, h2, h3, h4⟩ := t.rd (B := B)
 refine zY ?_
 refine WF.fn g42 rfl ?_
 repeat' (first
  | apply zC | apply zE | apply zD | apply zK | (apply yC; rfl; rfl; (· repeat' (first | rfl | assumption | apply ac1)); intro _) | (apply WOps.clA; rfl; rfl; exact list84_ok h0.cons hm h1.cons h3.cons hn; rintro r _ ⟨h', o', rfl⟩) | (apply WOps.lenO; rfl; rfl; exact o') | (apply zB; rfl; (intro _; rfl)))
 rename_i p3
 refine yG ?_
 obtain ⟨ps, hps⟩ : ∃ ps : List (TE KS × AV), ps = [] := ⟨[], rfl⟩
 obtain ⟨w5, hw5⟩ : ∃ v, v = AV.nilsl := ⟨_, rfl⟩
 obtain ⟨hw, hhw⟩ : ∃ h : HL, h = [] := ⟨_, rfl⟩
 obtain ⟨G2, hG2⟩ : ∃ h : HL, h = [] := ⟨_, rfl⟩
 refine WL.le (t' := [(3, .ptr ⟨false, p3, 0⟩), (5, w5), (9, r), (10, .int .i64 (.ofNat us.length)), (11, .int .i64 (.ofNat ps.length))]) (by subst hps; subst hw5; exact zA rfl (zA rfl (zA rfl (zA rfl (zA rfl zH))))) ?_
 refine yB (H1 := (p3, .row [.fn (.func 43) [] []]) :: (hw ++ (G2 ++ (h' ++ H)))) (by subst hhw hG2; exact subF (by intro f; simp only [AV.cells, List.map_cons, List.map_append, List.sum_cons, List.sum_append, List.map_nil, List.sum_nil]; omega)) ?_
 have o5 : OwnSl w5 (entP ps) ps.length 7 hw := by subst hps; exact .inl ⟨hw5, rfl, rfl, hhw⟩
 have hin : PsIn B G2 ps := by subst hps; intro p hp; cases hp
 have hle : ps.length ≤ us.length := by subst hps; simp
 have hmap : ps.map (·.1) = (us.take ps.length).map (fun e => (⟨[], coS e.v, e.mke, e.ix⟩ : TE KS)) := by subst hps; rfl
 clear hps hw5 hhw hG2
 induction hk : us.length - ps.length using Nat.strongRecOn generalizing ps w5 hw G2 with | _ k ih => ?_
 apply WL.step
 repeat' (first
  | apply zC | apply zE | apply zD | apply zJ | apply zL | apply zZ | apply zK | (apply zM; rfl; rfl; rfl; rfl; intro _ _) | (apply zB; rfl; (intro _; rfl)) | (apply zN; rfl; all_goals (intro hb; try subst hb)))
 ·have hlt : ps.length < us.length := by
   have h0 := ‹true = true ↔ cmpP BinOp.lss (Int.ofNat ps.length) (Int.ofNat us.length)›
   simp [cmpP] at h0; omega
  have hcm : (us.map rowS)[ps.length]? = some (rowS us[ps.length]) := by rw [List.getElem?_map, List.getElem?_eq_getElem hlt]; rfl
  have ct := us[ps.length].v.tg.c
  have hu := tR _ _ (tg _ (List.getElem_mem hlt))
  have hu4 := hl _ (List.getElem_mem hlt)
  have ht2 : ∀ {z : Nat × AObj}, SrcIs B (z :: (p3, .row [.fn (.func 43) [] []]) :: (hw ++ (G2 ++ (h' ++ H)))) us[ps.length].v.tg.a 1 us[ps.length].v.tags.length (us[ps.length].v.tags.map strC).flatten := src_cons (src_cons (SrcIs.right (SrcIs.right (SrcIs.right hu.2))))
  repeat' (first
   | apply zC | apply zD | (apply zF; rfl; rfl; (first | exact ld0 rfl | exact ld1 rfl | exact ld2 rfl); rfl) | (apply zP; rfl; rfl; (first | exact tk0 | exact tk1 | exact tk2); rfl; (· repeat' (first | rfl | assumption | apply ac1)); rfl) | (apply yE; rfl; intro _) | (apply yF; rfl; (· repeat' (first | rfl | assumption | apply ac1)); intro _) | (apply yA; rfl; rfl; rfl; exact SlIs.cons (SlIs.right (SlIs.right (SlIs.left (rows_slS o')))); exact hcm; intro ax hax) | (apply zF; rfl; rfl; exact hax; rfl) | (apply WOps.cvA; rfl; rfl; rfl; exact told43_ok ht2 (by omega); rintro _ _ ⟨tv, h2, rfl, o2, rfl⟩; have c2 := o2.cell) | (apply zB; rfl; (intro _; rfl)))
  rename_i p7 q
  refine yD (n := ps.length) rfl rfl rfl o5 perm_mid3 (src_one zG rfl) (entP_cell hin) ?_ rfl (by omega) ?_
  ·repeat' (first | exact ac0 | apply ac1)
   all_goals first | rfl | assumption
  intro v2 h3 o3
  repeat' (first
   | apply zC | apply zD | (apply zR; rfl; rfl; rfl; omega) | (apply zB; rfl; (intro _; rfl)))
  have ol : (ps ++ [((⟨[], coS us[ps.length].v, us[ps.length].mke, us[ps.length].ix⟩ : TE KS), tv)]).length = ps.length + 1 := by simp
  refine WL.le (t' := [(3, .ptr ⟨false, p3, 0⟩), (5, v2), (9, r), (10, .int .i64 (.ofNat us.length)), (11, .int .i64 (.ofNat (ps ++ [((⟨[], coS us[ps.length].v, us[ps.length].mke, us[ps.length].ix⟩ : TE KS), tv)]).length))]) (by rw [ol]; exact zA rfl (zA rfl (zA rfl (zA rfl (zA rfl zH))))) ?_
  refine yB (H1 := (p3, .row [.fn (.func 43) [] []]) :: (h3 ++ ((h2 ++ G2) ++ (h' ++ H)))) (subF (by intro f; simp only [AV.cells, pm] <;> omega)) ?_
  refine ih _ (by rw [ol]; omega) (ps ++ [_]) v2 h3 (h2 ++ G2) ?_ ?_ (by rw [ol]; omega) ?_ rfl
  ·rw [ol, entP_app]; exact o3
  ·intro p hp
   rcases List.mem_append.1 hp with hp | hp
   ·exact (hin p hp).right
   ·simp at hp; subst hp; exact (strs_in o2).left
  ·rw [ol, List.map_append, hmap, List.take_succ_eq_append_getElem hlt, List.map_append]; rfl
 ·have hge : ¬ ps.length < us.length := by
   have h0 := ‹false = true ↔ cmpP BinOp.lss (Int.ofNat ps.length) (Int.ofNat us.length)›
   simp [cmpP] at h0; omega
  have e : ps.length = us.length := by omega
  rw [e, List.take_length] at hmap
  exact ⟨trivial, [_], ⟨_, [], rfl, rfl, rfl⟩, _, ⟨hw, G2, ps, hmap, o5, hin, rfl⟩, subF (by intro f; simp only [AV.cells, pm] <;> omega)⟩
theorem told15_at {H R : HL} {rp a1 a2 a3 M : Nat} {s : RS} (ok : RsOk M s) (h : RosAt B H rp a1 a2 a3 M s R) :
  WF B tab (.func 15) [.ptr ⟨false, rp, 0⟩] H fun r H' => ∃ h' G' ps, ps.map (·.1) = s.ss.map (fun e => (⟨[], e.v, e.mke, e.ix⟩ : TE KS)) ∧ OwnSl r (entP ps) ps.length 7 h' ∧ PsIn B G' ps ∧ H' = h' ++ (G' ++ H) := by
 obtain ⟨us, G, R1, e1, tg, t, back⟩ := h.s
 have hl : us.length ≤ 1000 := by
  have h1 := ok.n2
  have h2 := ok.m2
  rw [← e1, List.length_map] at h1; omega
 have hl4 : ∀ e, e ∈ us → e.v.tags.length ≤ 4 := fun e he => ok.t (e.mp coS) (by rw [← e1]; exact List.mem_map_of_mem he)
 have tR : ∀ a l, TgIn B G a l → TgIn B H a l := fun a l q => by
  obtain ⟨v, hs, o, p⟩ := t
  exact TgIn.perm p (TgIn.cons (TgIn.right (TgIn.left q)))
 refine WF.fn g15 rfl ?_
 repeat' (first
  | apply zC | apply zE | apply zD | apply zJ | apply zL | (apply zO; rfl) | (apply WOps.clR; rfl; rfl; exact none39_ok h.r1; rintro _ rfl) | (apply zF; rfl; rfl; exact h.r2; rfl) | (apply WOps.clA; rfl; rfl; exact all42_ok ok.m1 hl t tg tR hl4; rintro r _ ⟨h', G', ps, hp, o', hin, rfl⟩) | (apply zB; rfl; (intro _; rfl)))
 refine ⟨trivial, [_], ⟨_, [], rfl, rfl, rfl⟩, h', G', ps, ?_, o', hin, rfl⟩
 rw [hp, ← e1, List.map_map]
 rfl
theorem RosAt.tk {H R R' : HL} {rp a1 a2 a3 M : Nat} {s : RS} {id : Nat} {o : AObj} (h : RosAt B H rp a1 a2 a3 M s R) (k : Tk R id o R') : ∃ R2, Tk H id o R2 ∧ ∀ o', RosAt B ((id, o') :: R2) rp a1 a2 a3 M s ((id, o') :: R') := by
 obtain ⟨xn, xs, xc, v1, v2, v3, h1, h2, h3, G, e1, e2, e3, o1, o2, o3, tg, q⟩ := h
 refine ⟨(a1, .row (tblC M v1 s.l1)) :: (a2, .row (tblC M v2 s.l2)) :: (a3, .row (tblC M v3 s.l3)) :: (rp, .row (rosC a1 a2 a3)) :: (h1 ++ (h2 ++ (h3 ++ (G ++ R')))), ?_, fun o' => ?_⟩
 ·have hk : R.Perm ((id, o) :: R') := k
  refine q.trans (permF ?_)
  intro f
  have := sum_perm hk f
  simp only [List.map_cons, List.map_append, List.sum_cons, List.sum_append] at this ⊢
  omega
 ·refine ⟨xn, xs, xc, v1, v2, v3, h1, h2, h3, G, e1, e2, e3, o1, o2, o3, tg, permF ?_⟩
  intro f
  simp only [List.map_cons, List.map_append, List.sum_cons, List.sum_append]
  omega
theorem put_le {V : Type} {M : Nat} {es : List (TE V)} {e : TE V} (hl : es.length ≤ M) (hr : Rise es) (hf : ¬ fullP M es e.key) : (putE es e).length ≤ M := by
 rcases put_len (es := es) (e := e) with h | h
 ·rw [h]
  cases hq : findE es e.key with
  | some x => simp only; omega
  | none =>
   simp only
   have : ¬ M ≤ es.length := fun h2 => hf ⟨hq, h2⟩
   omega
 ·exact absurd hr h
theorem rs_node {M : Nat} {s : RS} {node ix : Int} {addr : List Nat} (ok : RsOk M s) : RsOk M (nodeS M s node addr ix).1 := by
 unfold nodeS
 split
 ·exact ok
 ·split
  ·exact ok
  ·split
   ·exact ok
   ·rename_i hf
    exact ⟨ok.m1, ok.m2, put_le ok.n1 ok.r1 hf, ok.n2, ok.n3, rise_put ok.r1, ok.r2, ok.r3, ok.t⟩
theorem rs_service {M : Nat} {s : RS} {x : KS} {ix : Int} (ok : RsOk M s) : RsOk M (serviceS M s x ix).1 := by
 unfold serviceS
 split
 ·exact ok
 ·rename_i hw
  split
  ·exact ok
  ·rename_i hf
   have ht := (wrongS_zero (by simpa using hw)).2.2
   refine ⟨ok.m1, ok.m2, ok.n1, put_le ok.n2 ok.r2 hf, ok.n3, ok.r1, rise_put ok.r2, ok.r3, fun e he => ?_⟩
   rcases mem_put he with h | ⟨_, h⟩
   ·exact ok.t e h
   ·rw [h]; exact ht.1
theorem rs_check {M : Nat} {s : RS} {x : KC} {ix : Int} (ok : RsOk M s) : RsOk M (checkS M s x ix).1 := by
 unfold checkS
 split
 ·exact ok
 ·split
  ·exact ok
  ·rename_i hf
   exact ⟨ok.m1, ok.m2, ok.n1, ok.n2, put_le ok.n3 ok.r3 hf, ok.r1, ok.r2, rise_put ok.r3, ok.t⟩
theorem rs_zero {M : Nat} (h1 : 1 ≤ M) (h2 : M ≤ 64) : RsOk M rs0 := ⟨h1, h2, Nat.zero_le _, Nat.zero_le _, Nat.zero_le _, .nil, .nil, .nil, fun e he => by cases he⟩
theorem not_leq {a b : List Nat} (h : ¬ (strLess a b = true ∨ a = b)) : strLess b a = true := by
 simp only [not_or] at h
 cases hb : strLess b a with
 | true => rfl
 | false => exact absurd (less_total (Bool.eq_false_iff.2 h.1) hb) h.2
theorem WC.cut2 {T : Tr FnI} {nt : Nat} {rdn : Option Nat} {t : EL} {H : HL} {Q : AExit → EL → HL → Prop} {X : Type} {a b : AC} (ts : X → EL) (hs : X → HL) (P : X → Prop)
  (w : WC B T nt rdn a t H fun ex t' H' => match ex with | .normal => ∃ x, Sub1 (ts x) t' ∧ SubP (hs x) H' ∧ P x | .jump j => Q (.jump j) t' H')
  (k : ∀ x, P x → WC B T nt rdn b (ts x) (hs x) Q) : WC B T nt rdn (.seq a b) t H Q := zE (WC.mono w (by
 intro ex t' H' h
 cases ex with
 | normal => obtain ⟨x, h1, h2, h3⟩ := h; exact WC.le h1 (WC.lessP h2 (k x h3))
 | jump j => exact h))
theorem SubP.trans {A C H : HL} (h : SubP A C) (k : SubP C H) : SubP A H := by
 obtain ⟨G, p⟩ := h
 obtain ⟨X, q⟩ := k
 exact ⟨G ++ X, q.trans ((p.append_right X).trans (List.Perm.of_eq (by simp)))⟩
theorem RosAt.sub {H R : HL} {rp a1 a2 a3 M : Nat} {s : RS} (h : RosAt B H rp a1 a2 a3 M s R) : SubP R H := by
 obtain ⟨xn, ys, xc, v1, v2, v3, h1, h2, h3, G, e1, e2, e3, o1, o2, o3, tg, q⟩ := h
 refine ⟨(a1, .row (tblC M v1 s.l1)) :: (a2, .row (tblC M v2 s.l2)) :: (a3, .row (tblC M v3 s.l3)) :: (rp, .row (rosC a1 a2 a3)) :: (h1 ++ (h2 ++ (h3 ++ G))), q.trans (permF ?_)⟩
 intro f
 simp only [List.map_cons, List.map_append, List.sum_cons, List.sum_append]
 omega
def refC (M : Nat) (v1 v2 v3 : AV) (s : RS) : List AV := [.int .i64 (.ofNat M), v1, v2, v3, .int .u64 s.l1, .int .u64 s.l2, .int .u64 s.l3]
def RefAt (B : Nat → List AV) (H : HL) (wp M : Nat) (s : RS) (R : HL) : Prop :=
 ∃ (ps : List (TE KS × AV)) (v1 v2 v3 : AV) (h1 h2 h3 : HL), ps.map (·.1) = s.ss ∧ PsIn B [] ps ∧ OwnSl v1 (s.ns.map entN).flatten s.ns.length 4 h1 ∧ OwnSl v2 (entP ps) ps.length 7 h2 ∧ OwnSl v3 (s.cs.map entC).flatten s.cs.length 7 h3 ∧
  H.Perm ((wp, .row (refC M v1 v2 v3 s)) :: (h1 ++ (h2 ++ (h3 ++ R))))
structure KsOk (s : RS) : Prop where
 kn : ∀ e, e ∈ s.ns → ∃ n : Nat, n < 8 ∧ e.v.node = .ofNat n ∧ e.key = keyN n
 ks : ∀ e, e ∈ s.ss → ∃ n : Nat, n < 8 ∧ e.v.node = .ofNat n ∧ e.key = keyS n e.v.id
 kc : ∀ e, e ∈ s.cs → ∃ n : Nat, n < 8 ∧ e.v.node = .ofNat n ∧ e.key = keyS n e.v.id
theorem find_none {V : Type} {es : List (TE V)} {key : List Nat} : findE es key = none ↔ ∀ e, e ∈ es → e.key ≠ key := by
 induction es with
 | nil => simp [findE]
 | cons x r ih =>
  simp only [findE]
  split
  ·rename_i h
   simp only [reduceCtorEq, List.mem_cons, false_iff]
   exact fun q => q x (.inl rfl) h
  ·rename_i h
   rw [ih]
   simp only [List.mem_cons, forall_eq_or_imp]
   exact ⟨fun q => ⟨h, q⟩, fun q => q.2⟩
theorem keyN_inj {a b : Nat} (h : keyN a = keyN b) : a = b := by simp [keyN] at h; exact h
theorem keyS_inj {a b : Nat} {x y : List Nat} (h : keyS a x = keyS b y) : a = b ∧ x = y := by simp [keyS] at h; exact h
theorem there_iff {s : RS} {m : Int} (ks : KsOk s) : thereK s.ns m ↔ ∃ e, e ∈ s.ns ∧ e.v.node = m := by
 constructor
 ·rintro ⟨n, hn, rfl, h⟩
  cases hf : findE s.ns (keyN n) with
  | none => exact absurd hf h
  | some x =>
   obtain ⟨hx, hk⟩ := find_key hf
   obtain ⟨n2, _, h2, h3⟩ := ks.kn x hx
   refine ⟨x, hx, ?_⟩
   rw [h2, keyN_inj (h3.symm.trans hk)]
 ·rintro ⟨e, he, rfl⟩
  obtain ⟨n, hn, h2, h3⟩ := ks.kn e he
  exact ⟨n, hn, h2, fun q => find_none.1 q e he h3⟩
theorem has_iff {s : RS} {n : Nat} {id : List Nat} (ks : KsOk s) : findE s.ss (keyS n id) ≠ none ↔ ∃ e, e ∈ s.ss ∧ e.v.node = .ofNat n ∧ e.v.id = id := by
 rw [ne_eq, find_none]
 constructor
 ·intro h
  simp only [Classical.not_forall, Classical.not_not] at h
  obtain ⟨e, he, hk⟩ := h
  obtain ⟨n2, _, h2, h3⟩ := ks.ks e he
  obtain ⟨rfl, h5⟩ := keyS_inj (h3.symm.trans hk)
  exact ⟨e, he, h2, h5⟩
 ·rintro ⟨e, he, h2, rfl⟩ h
  obtain ⟨n2, _, h4, h3⟩ := ks.ks e he
  rw [h4] at h2
  have : n2 = n := by simp only [Int.ofNat_eq_natCast] at h2; omega
  subst this
  exact h e he h3
theorem new8_ok {H : HL} (m : Int) : WF B tab (.func 8) [.int .i64 m] H fun r H' => ∃ wp, r = .ptr ⟨false, wp, 0⟩ ∧ RefAt B H' wp (mostOf m) rs0 H := by
 refine WF.fn g8 rfl ?_
 have fin : ∀ wp, RefAt B ((wp, .row (refC (mostOf m) .nilsl .nilsl .nilsl rs0)) :: H) wp (mostOf m) rs0 H := fun wp => ⟨[], .nilsl, .nilsl, .nilsl, [], [], [], rfl, (by intro p hp; cases hp), .inl ⟨rfl, rfl, rfl, rfl⟩, .inl ⟨rfl, rfl, rfl, rfl⟩, .inl ⟨rfl, rfl, rfl, rfl⟩, List.Perm.refl _⟩
 repeat' (first
  | apply zC | apply zE | apply zD | apply zJ | apply zL | (apply yC; rfl; rfl; (· repeat' (first | rfl | assumption | apply ac1)); intro _) | (apply zM; rfl; rfl; rfl; rfl; intro _ _) | (apply zB; rfl; (intro _; rfl)) | (apply zN; rfl; all_goals (intro hb; try subst hb)))
 all_goals rename_i wp
 all_goals refine ⟨trivial, [_], ⟨_, [], rfl, rfl, rfl⟩, _, rfl, ?_⟩
 all_goals simp only [cmpP, true_iff, Bool.false_eq_true, false_iff, Int.ofNat_eq_natCast] at *
 ·omega
 ·have : mostOf m = 1 := by unfold mostOf; split <;> (try split) <;> omega
  have q := fin wp
  rw [this] at q ⊢; exact q
 ·have : mostOf m = 64 := by unfold mostOf; split <;> (try split) <;> omega
  have q := fin wp
  rw [this] at q ⊢; exact q
 ·have : (Int.ofNat (mostOf m)) = m := by simp only [Int.ofNat_eq_natCast]; unfold mostOf; split <;> (try split) <;> omega
  have q := fin wp
  unfold refC at q
  rw [this] at q; exact q
theorem there63_ok {H : HL} {wp : Nat} {v : AV} {es : List (TE KN)} {m : Int} (h1 : Ld B H ⟨false, wp, 1⟩ 1 [v]) (hs : SlIs B H v 4 (es.map entN)) (hl : es.length ≤ 1000) :
  WF B tab (.func 63) [.ptr ⟨false, wp, 0⟩, .int .i64 m] H fun r H' => H' = H ∧ ∃ b : Bool, r = .bool b ∧ (b = true ↔ ∃ e, e ∈ es ∧ e.v.node = m) := by
 refine WF.fnR g63 rfl ?_
 repeat' (first
  | apply zC | apply zE | apply zD | apply zK | (apply zB; rfl; (intro _; rfl)))
 refine yG ?_
 obtain ⟨i, hi⟩ : ∃ i : Nat, i = 0 := ⟨0, rfl⟩
 refine WL.le (t' := [(0, .ptr ⟨false, wp, 0⟩), (1, .int .i64 m), (5, .int .i64 (.ofNat i))]) (by subst hi; exact zA rfl (zA rfl (zA rfl zH))) ?_
 have hle : i ≤ es.length := by omega
 have hpre : ∀ (j : Nat) (h : j < es.length), j < i → es[j].v.node ≠ m := by intro j _ hj; omega
 clear hi
 induction hk : es.length - i using Nat.strongRecOn generalizing i with | _ k ih => ?_
 apply WL.step
 repeat' (first
  | apply zC | apply zE | apply zD | apply zJ | apply zL | apply zZ | apply zK | (apply zF; rfl; rfl; exact h1; rfl) | (apply zU; rfl; rfl; exact hs) | (apply zM; rfl; rfl; rfl; rfl; intro _ _) | (apply zB; rfl; (intro _; rfl)) | (apply zN; rfl; all_goals (intro hb; try subst hb)))
 all_goals rw [List.length_map] at *
 ·have hlt : i < es.length := by
   have h0 := ‹true = true ↔ cmpP BinOp.lss (Int.ofNat i) (Int.ofNat es.length)›.1 rfl
   simp [cmpP] at h0; omega
  have hcm : (es.map entN)[i]? = some (entN es[i]) := by rw [List.getElem?_map, List.getElem?_eq_getElem hlt]; rfl
  repeat' (first
   | apply zC | apply zE | apply zD | apply zJ | apply zL | (apply yA; rfl; rfl; rfl; exact hs; exact hcm; intro ax hax) | (apply zF; rfl; rfl; exact Ld.part hax 0 1 (by omega); rfl) | (apply zR; rfl; rfl; rfl; omega) | (apply zM; rfl; rfl; rfl; rfl; intro _ _) | (apply zB; rfl; (intro _; rfl)) | (apply zN; rfl; all_goals (intro hb; try subst hb)))
  ·have he := ‹true = true ↔ cmpP BinOp.eql es[i].v.node m›.1 rfl
   exact ⟨trivial, List.Sublist.refl _, [_], ⟨_, [], rfl, rfl, rfl⟩, _, rfl, fun _ => ⟨es[i], List.getElem_mem hlt, he⟩, fun _ => rfl⟩
  ·have he := eq_of_ff ‹false = true ↔ cmpP BinOp.eql es[i].v.node m›
   refine WL.le (t' := [(0, .ptr ⟨false, wp, 0⟩), (1, .int .i64 m), (5, .int .i64 (.ofNat (i + 1)))]) (zA rfl (zA rfl (zA rfl zH))) (ih _ (by omega) (i + 1) (by omega) ?_ rfl)
   intro j h hj
   rcases Nat.lt_or_ge j i with h1 | h1
   ·exact hpre j h h1
   ·obtain rfl : j = i := by omega
    exact he
 ·have hge : es.length ≤ i := by
   have h0 := eq_of_ff ‹false = true ↔ cmpP BinOp.lss (Int.ofNat i) (Int.ofNat es.length)›
   simp [cmpP] at h0; omega
  refine ⟨trivial, List.Sublist.refl _, [_], ⟨_, [], rfl, rfl, rfl⟩, _, rfl, (fun h => by cases h), ?_⟩
  rintro ⟨e, he, hn⟩
  obtain ⟨j, hj, rfl⟩ := List.getElem_of_mem he
  exact absurd hn (hpre j hj (by omega))
theorem has76_ok {H : HL} {wp : Nat} {v : AV} {ps : List (TE KS × AV)} {m : Int} {id : List Nat} (h1 : Ld B H ⟨false, wp, 2⟩ 1 [v]) (hs : SlIs B H v 7 (ps.map fun p => entS p.1 p.2)) (hl : ps.length ≤ 1000) :
  WF B tab (.func 76) [.ptr ⟨false, wp, 0⟩, .int .i64 m, .str id] H fun r H' => H' = H ∧ ∃ b : Bool, r = .bool b ∧ (b = true ↔ ∃ p, p ∈ ps ∧ p.1.v.node = m ∧ p.1.v.id = id) := by
 refine WF.fnR g76 rfl ?_
 repeat' (first
  | apply zC | apply zE | apply zD | apply zK | (apply zB; rfl; (intro _; rfl)))
 refine yG ?_
 obtain ⟨i, hi⟩ : ∃ i : Nat, i = 0 := ⟨0, rfl⟩
 refine WL.le (t' := [(0, .ptr ⟨false, wp, 0⟩), (1, .int .i64 m), (2, .str id), (7, .int .i64 (.ofNat i))]) (by subst hi; exact zA rfl (zA rfl (zA rfl (zA rfl zH)))) ?_
 have hle : i ≤ ps.length := by omega
 have hpre : ∀ (j : Nat) (h : j < ps.length), j < i → ¬ (ps[j].1.v.node = m ∧ ps[j].1.v.id = id) := by intro j _ hj; omega
 clear hi
 induction hk : ps.length - i using Nat.strongRecOn generalizing i with | _ k ih => ?_
 apply WL.step
 repeat' (first
  | apply zC | apply zE | apply zD | apply zJ | apply zL | apply zZ | apply zK | (apply zF; rfl; rfl; exact h1; rfl) | (apply zU; rfl; rfl; exact hs) | (apply zM; rfl; rfl; rfl; rfl; intro _ _) | (apply zB; rfl; (intro _; rfl)) | (apply zN; rfl; all_goals (intro hb; try subst hb)))
 all_goals rw [List.length_map] at *
 ·have hlt : i < ps.length := by
   have h0 := ‹true = true ↔ cmpP BinOp.lss (Int.ofNat i) (Int.ofNat ps.length)›.1 rfl
   simp [cmpP] at h0; omega
  have hcm : (ps.map fun p => entS p.1 p.2)[i]? = some (entS ps[i].1 ps[i].2) := by rw [List.getElem?_map, List.getElem?_eq_getElem hlt]; rfl
  have nx : ¬ (ps[i].1.v.node = m ∧ ps[i].1.v.id = id) → WL B tab c76.nt none _ [(0, .ptr ⟨false, wp, 0⟩), (1, .int .i64 m), (2, .str id), (7, .int .i64 (.ofNat (i + 1)))] H _ := fun hno => ih _ (by omega) (i + 1) (by omega) (fun j h hj => by
   rcases Nat.lt_or_ge j i with h1 | h1
   ·exact hpre j h h1
   ·obtain rfl : j = i := by omega
    exact hno) rfl
  repeat' (first
   | apply zC | apply zE | apply zD | apply zJ | apply zL | (apply zO; rfl) | (apply zF; rfl; rfl; exact h1; rfl) | (apply yA; rfl; rfl; rfl; exact hs; exact hcm; intro ax hax) | (apply zF; rfl; rfl; exact Ld.part hax 0 1 (by omega); rfl) | (apply zF; rfl; rfl; exact Ld.part hax 1 1 (by omega); rfl) | (apply zR; rfl; rfl; rfl; omega) | (apply zM; rfl; rfl; rfl; rfl; intro _ _) | (apply yH; rfl; rfl; rfl; rfl; intro _ _) | (apply zB; rfl; (intro _; rfl)) | (apply zV; rfl) | (apply WOps.ask; rfl; all_goals (intro hb; first | subst hb | fail_if_success (cases hb))) | (apply zN; rfl; all_goals (intro hb; try subst hb)))
  ·have he := ‹true = true ↔ cmpP BinOp.eql ps[i].1.v.node m›.1 rfl
   have hi := ‹true = true ↔ cmpS BinOp.eql ps[i].1.v.id id›.1 rfl
   exact ⟨trivial, List.Sublist.refl _, [_], ⟨_, [], rfl, rfl, rfl⟩, _, rfl, fun _ => ⟨ps[i], List.getElem_mem hlt, he, hi⟩, fun _ => rfl⟩
  ·have hi := eq_of_ff ‹false = true ↔ cmpS BinOp.eql ps[i].1.v.id id›
   exact WL.le (zA rfl (zA rfl (zA rfl (zA rfl zH)))) (nx fun q => hi q.2)
  ·have he := eq_of_ff ‹false = true ↔ cmpP BinOp.eql ps[i].1.v.node m›
   exact WL.le (zA rfl (zA rfl (zA rfl (zA rfl zH)))) (nx fun q => he q.1)
 ·have hge : ps.length ≤ i := by
   have h0 := eq_of_ff ‹false = true ↔ cmpP BinOp.lss (Int.ofNat i) (Int.ofNat ps.length)›
   simp [cmpP] at h0; omega
  refine ⟨trivial, List.Sublist.refl _, [_], ⟨_, [], rfl, rfl, rfl⟩, _, rfl, (fun h => by cases h), ?_⟩
  rintro ⟨e, he, hn⟩
  obtain ⟨j, hj, rfl⟩ := List.getElem_of_mem he
  exact absurd hn (hpre j hj (by omega))
theorem raise64_ok {H : HL} {wp M i : Nat} {v1 v2 v3 : AV} {s : RS} {ix : Int} (hi : i < 3) (c1 : v1.isCell = true) (c2 : v2.isCell = true) (c3 : v3.isCell = true) :
    WF B tab (.func 64) [.ptr ⟨false, wp, 0⟩, .int .i64 (.ofNat i), .int .u64 ix] ((wp, .row (refC M v1 v2 v3 s)) :: H) fun r H' =>
      H' = (wp, .row (refC M v1 v2 v3 (if i = 0 then { s with l1 := maxI s.l1 ix } else if i = 1 then { s with l2 := maxI s.l2 ix } else { s with l3 := maxI s.l3 ix }))) :: H := by
  refine WF.fn g64 rfl ?_
  rcases (by omega : i = 0 ∨ i = 1 ∨ i = 2) with rfl | rfl | rfl
  all_goals repeat' (first
              | apply zC | apply zE | apply zD | apply zJ | (apply zF; rfl; rfl; (first | exact ld0 rfl | exact ld1 rfl | exact ld2 rfl); rfl) | (apply zP; rfl; rfl; (first | exact tk0 | exact tk1 | exact tk2); rfl; (· repeat' (first | rfl | assumption | apply ac1)); rfl) | (apply zM; rfl; rfl; rfl; rfl; intro _ _) | (apply zB; rfl; (intro _; rfl)) | (apply zN; rfl; all_goals (intro hb; try subst hb)))
  all_goals refine ⟨trivial, [], rfl, ?_⟩
  · have h := ‹true = true ↔ cmpP BinOp.gtr ix _›.1 rfl
    have e : maxI s.l1 ix = ix := if_pos h
    simp only [refC, e]; rfl
  · have h := eq_of_ff ‹false = true ↔ cmpP BinOp.gtr ix _›
    have e : maxI s.l1 ix = s.l1 := if_neg h
    simp only [refC, e]; rfl
  · have h := ‹true = true ↔ cmpP BinOp.gtr ix _›.1 rfl
    have e : maxI s.l2 ix = ix := if_pos h
    simp only [refC, e]; rfl
  · have h := eq_of_ff ‹false = true ↔ cmpP BinOp.gtr ix _›
    have e : maxI s.l2 ix = s.l2 := if_neg h
    simp only [refC, e]; rfl
  · have h := ‹true = true ↔ cmpP BinOp.gtr ix _›.1 rfl
    have e : maxI s.l3 ix = ix := if_pos h
    simp only [refC, e]; rfl
  · have h := eq_of_ff ‹false = true ↔ cmpP BinOp.gtr ix _›
    have e : maxI s.l3 ix = s.l3 := if_neg h
    simp only [refC, e]; rfl
theorem RefAt.rd {H R : HL} {wp M : Nat} {s : RS} (h : RefAt B H wp M s R) : ∃ (ps : List (TE KS × AV)) (v1 v2 v3 : AV), ps.map (·.1) = s.ss ∧ PsIn B [] ps ∧ Ld B H ⟨false, wp, 0⟩ 7 (refC M v1 v2 v3 s) ∧
  SlIs B H v1 4 (s.ns.map entN) ∧ SlIs B H v2 7 (ps.map fun p => entS p.1 p.2) ∧ SlIs B H v3 7 (s.cs.map entC) := by
 obtain ⟨ps, v1, v2, v3, h1, h2, h3, e1, hp, o1, o2, o3, q⟩ := h
 exact ⟨ps, v1, v2, v3, e1, hp, Ld.perm q (Ld.own zG rfl), SlIs.perm q (SlIs.cons (SlIs.left (entsN_sl o1))), SlIs.perm q (SlIs.cons (SlIs.right (SlIs.left (entP_sl o2)))), SlIs.perm q (SlIs.cons (SlIs.right (SlIs.right (SlIs.left (entsC_sl o3)))))⟩
theorem RefAt.there {H R : HL} {wp M : Nat} {s : RS} {m : Int} (ok : RsOk M s) (ks : KsOk s) (h : RefAt B H wp M s R) : WF B tab (.func 63) [.ptr ⟨false, wp, 0⟩, .int .i64 m] H fun r H' => H' = H ∧ ∃ b : Bool, r = .bool b ∧ (b = true ↔ thereK s.ns m) := by
 obtain ⟨ps, v1, v2, v3, e1, hp, l, q1, q2, q3⟩ := h.rd
 have hl : s.ns.length ≤ 1000 := by have := ok.n1; have := ok.m2; omega
 refine WF.mono (there63_ok (l.part 1 1 (by omega)) q1 hl) ?_
 rintro r _ ⟨rfl, b, rfl, hb⟩
 exact ⟨rfl, b, rfl, hb.trans (there_iff ks).symm⟩
theorem RefAt.has {H R : HL} {wp M n : Nat} {s : RS} {id : List Nat} (ok : RsOk M s) (ks : KsOk s) (h : RefAt B H wp M s R) : WF B tab (.func 76) [.ptr ⟨false, wp, 0⟩, .int .i64 (.ofNat n), .str id] H fun r H' => H' = H ∧ ∃ b : Bool, r = .bool b ∧ (b = true ↔ findE s.ss (keyS n id) ≠ none) := by
 obtain ⟨ps, v1, v2, v3, e1, hp, l, q1, q2, q3⟩ := h.rd
 have hl : ps.length ≤ 1000 := by have h1 := ok.n2; have := ok.m2; rw [← e1, List.length_map] at h1; omega
 refine WF.mono (has76_ok (l.part 2 1 (by omega)) q2 hl) ?_
 rintro r _ ⟨rfl, b, rfl, hb⟩
 refine ⟨rfl, b, rfl, hb.trans ?_⟩
 rw [has_iff ks, ← e1]
 constructor
 ·rintro ⟨p, hp, h1, h2⟩
  exact ⟨p.1, List.mem_map_of_mem hp, h1, h2⟩
 ·rintro ⟨e, he, h1, h2⟩
  obtain ⟨p, hp, rfl⟩ := List.mem_map.1 he
  exact ⟨p, hp, h1, h2⟩
theorem RefAt.cons {H R : HL} {wp M : Nat} {s : RS} {x : Nat × AObj} (h : RefAt B H wp M s R) : RefAt B (x :: H) wp M s (x :: R) := by
 obtain ⟨ps, v1, v2, v3, h1, h2, h3, e1, hp, o1, o2, o3, q⟩ := h
 refine ⟨ps, v1, v2, v3, h1, h2, h3, e1, hp, o1, o2, o3, (q.cons x).trans ?_⟩
 exact permF (by intro f; simp only [pm] <;> omega)
set_option maxHeartbeats 2000000 in
theorem wrong75_ok {H R : HL} {wp M : Nat} {s : RS} {x : KS} {tv : AV} {jm ji : Int} (ok : RsOk M s) (ks : KsOk s) (h : RefAt B H wp M s R) (hx : SvIs B H x tv) :
  WF B tab (.func 75) [.ptr ⟨false, wp, 0⟩, .agg (svC x tv jm ji)] H fun r H' => H' = H ∧ r = .int .i64 (.ofNat (wrongS s x)) := by
 refine WF.fnR g75 rfl ?_
 have ct := hx.t.cell
 have hi := hx.i
 have hn := hx.n
 have ht := hx.l
 repeat' (first
  | apply zC | apply zE | apply zD | apply zJ | apply zL | (apply zS; rfl) | (apply zO; rfl) | (apply zF; rfl; rfl; (first | exact ld0 rfl | exact ld1 rfl | exact ld2 rfl); rfl) | (apply yC; rfl; rfl; (· repeat' (first | rfl | assumption | apply ac1)); intro _) | (apply WOps.clR; rfl; rfl; exact right99_ok _ (by omega); rintro _ ⟨bb, rfl, hbb⟩; cases bb) | (apply WOps.clR; rfl; rfl; exact tags100_ok hx.t.cons (by omega) hx.s; rintro _ ⟨bb, rfl, hb3⟩; cases bb) | (apply WOps.clR; rfl; rfl; exact RefAt.there ok ks h.cons; rintro _ ⟨bb, rfl, hb4⟩; cases bb) | (apply zM; rfl; rfl; rfl; rfl; intro _ _) | (apply zB; rfl; (intro _; rfl)) | (apply zV; rfl) | (apply WOps.ask; rfl; all_goals (intro hb; first | subst hb | fail_if_success (cases hb))) | (apply zN; rfl; all_goals (intro hb; try subst hb)))
 all_goals refine ⟨trivial, List.sublist_cons_self _ _, [_], ⟨_, [], rfl, rfl, rfl⟩, congrArg (fun k => AV.int .i64 (.ofNat k)) (Eq.symm ?_)⟩
 all_goals unfold wrongS
 all_goals simp only [cmpP, true_iff, Bool.false_eq_true, false_iff, Int.ofNat_eq_natCast] at *
 ·rw [if_pos (.inl (by omega))]
 ·rw [if_pos (.inl (by omega))]
 ·rw [if_pos (.inr (.inl (by omega)))]
 ·rw [if_pos (.inr (.inr (by omega)))]
 all_goals rw [if_neg (by omega)]
 ·rw [if_pos (fun h => hbb h.1)]
 ·rw [if_pos (fun h => hbb h.2.1)]
 ·rw [if_pos (fun h => hb3 h.2.2)]
 ·rw [if_neg (by simp_all), if_pos hb4]
 ·rw [if_neg (by simp_all), if_neg (by simp_all)]
set_option maxHeartbeats 4000000 in
theorem wrong78_ok {H R : HL} {wp M : Nat} {s : RS} {x : KC} {jm ji : Int} (ok : RsOk M s) (ks : KsOk s) (h : RefAt B H wp M s R) (hx : CkIs x) :
    WF B tab (.func 78) [.ptr ⟨false, wp, 0⟩, .agg (ckC x jm ji)] H fun r H' => H' = H ∧ r = .int .i64 (.ofNat (wrongC s x)) := by
  refine WF.fnR g78 rfl ?_
  have hi := hx.i
  have hn := hx.n
  have hs := hx.s
  obtain ⟨node, id, svc, note, st⟩ := x
  simp only at hi hn hs
  by_cases hd : 0 ≤ node ∧ node < 8
  · obtain ⟨n, hn8, rfl⟩ : ∃ n : Nat, n < 8 ∧ node = .ofNat n := ⟨node.toNat, by omega, by simp only [Int.ofNat_eq_natCast]; omega⟩
    repeat' (first
      | apply zC | apply zE | apply zD | apply zJ | apply zL | (apply zS; rfl) | (apply zO; rfl) | (apply zF; rfl; rfl; (first | exact ld0 rfl | exact ld1 rfl | exact ld2 rfl); rfl) | (apply yC; rfl; rfl; (· repeat' (first | rfl | assumption | apply ac1)); intro _) | (apply WOps.clR; rfl; rfl; exact right99_ok id (by omega); rintro _ ⟨bb, rfl, hbb⟩; cases bb) | (apply WOps.clR; rfl; rfl; exact right99_ok svc (by omega); rintro _ ⟨bb, rfl, hb2⟩; cases bb) | (apply WOps.lenT; rfl; rfl) | (apply WOps.clR; rfl; rfl; exact RefAt.there ok ks h.cons; rintro _ ⟨bb, rfl, hb4⟩; cases bb) | (apply WOps.clR; rfl; rfl; exact RefAt.has ok ks h.cons; rintro _ ⟨bb, rfl, hb5⟩; cases bb) | (apply zM; rfl; rfl; rfl; rfl; intro _ _) | (apply yH; rfl; rfl; rfl; rfl; intro _ _) | (apply zB; rfl; (intro _; rfl)) | (apply zV; rfl) | (apply WOps.ask; rfl; all_goals (intro hb; first | subst hb | fail_if_success (cases hb))) | (apply zN; rfl; all_goals (intro hb; try subst hb)))
    all_goals refine ⟨trivial, List.sublist_cons_self _ _, [_], ⟨_, [], rfl, rfl, rfl⟩, congrArg (fun k => AV.int .i64 (.ofNat k)) (Eq.symm ?_)⟩
    all_goals unfold wrongC
    all_goals simp only [cmpP, cmpS, true_iff, Bool.false_eq_true, false_iff] at *
    · exfalso; have q : Int.ofNat n < 0 := by assumption
      omega
    · exfalso; have q : Int.ofNat 7 < Int.ofNat n := by assumption
      have q2 : (7 : Int) < (n : Int) := q
      omega
    · rw [if_pos (.inr (.inl (by assumption)))]
    · rw [if_pos (.inr (.inr (by assumption)))]
    all_goals (rw [if_neg (by rintro (h | h | h); exact h hd; exact absurd h (by assumption); exact absurd h (by assumption))])
    all_goals rw [show (Int.ofNat n).toNat = n from rfl]
    all_goals clear ok h ks hd
    all_goals simp only [Int.ofNat_eq_natCast, Int.ofNat_lt] at *
    all_goals generalize thereK s.ns _ = P at *
    all_goals simp_all
  · repeat' (first
      | apply zC | apply zE | apply zD | apply zJ | apply zL | (apply zS; rfl) | (apply zF; rfl; rfl; (first | exact ld0 rfl | exact ld1 rfl | exact ld2 rfl); rfl) | (apply yC; rfl; rfl; (· repeat' (first | rfl | assumption | apply ac1)); intro _) | (apply zM; rfl; rfl; rfl; rfl; intro _ _) | (apply zB; rfl; (intro _; rfl)) | (apply zV; rfl) | (apply WOps.ask; rfl; all_goals (intro hb; first | subst hb | fail_if_success (cases hb))) | (apply zN; rfl; all_goals (intro hb; try subst hb)))
    all_goals first
      | (refine ⟨trivial, List.sublist_cons_self _ _, [_], ⟨_, [], rfl, rfl, rfl⟩, congrArg (fun k => AV.int .i64 (.ofNat k)) (Eq.symm ?_)⟩
         unfold wrongC
         rw [if_pos (.inl hd)])
      | (exfalso
         simp only [cmpP, true_iff, Bool.false_eq_true, false_iff, Int.ofNat_eq_natCast] at *
         omega)
end Go.Proofs.YtgpnpcahcegadaaGreat.RO
