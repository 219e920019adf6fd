/- What the functions do, shown by the logic. -/
import Derived.Test.YtgpnpcahcegadaaGreatRoY
set_option linter.unusedSimpArgs false
set_option linter.unusedVariables false
set_option linter.unusedSectionVars false
set_option maxRecDepth 20000
namespace Go.Proofs.YtgpnpcahcegadaaGreat.RO
open Go.Proofs.YtgpnpcahcegadaaGreat.Abs
variable {B : Nat → List AV}
set_option maxHeartbeats 2000000 in
theorem healthR12_ok {H R : HL} {wp M : Nat} {s : RS} {node : Int} {svc : List Nat} (ok : RsOk M s) (h : RefAt B H wp M s R) :
    WF B tab (.func 12) [.ptr ⟨false, wp, 0⟩, .int .i64 node, .str svc] H fun r H' => H' = H ∧ r = .int .i64 (healthS s node svc) := by
  refine WF.fnR g12 rfl ?_
  have n3 := ok.n3
  have m2 := ok.m2
  unfold healthS
  obtain ⟨ps, v1, v2, v3, e1, hp, row, q1, q2, q3⟩ := h.rd
  have l3 := row.part 3 1 (by omega)
  repeat' (first
    | apply zC | apply zE | apply zD | apply zK | (apply zB; rfl; (intro _; rfl)))
  refine yG ?_
  obtain ⟨i, hi⟩ : ∃ i : Nat, i = 0 := ⟨0, rfl⟩
  obtain ⟨m, hm0⟩ : ∃ m : Int, m = .ofNat 0 := ⟨_, rfl⟩
  refine WL.le (t' := [(0, .ptr ⟨false, wp, 0⟩), (1, .int .i64 node), (2, .str svc), (7, .int .i64 m), (8, .int .i64 (.ofNat i))]) (by subst hi hm0; exact zA rfl (zA rfl (zA rfl (zA rfl (zA rfl zH))))) ?_
  have hm2 : m = hL svc (ofE (fun v : KC => decide (v.node = node)) (s.cs.take i)) := by subst hi hm0; rfl
  have hle : i ≤ s.cs.length := by omega
  clear hi hm0
  induction hk : s.cs.length - i using Nat.strongRecOn generalizing i m with | _ k ih => ?_
  apply WL.step
  repeat' (first
    | apply zC | apply zE | apply zD | apply zJ | apply zL | apply zZ | apply zK | (apply zF; rfl; rfl; exact l3; rfl) | (apply zU; rfl; rfl; exact q3) | (apply zM; rfl; rfl; rfl; rfl; intro _ _) | (apply zB; rfl; (intro _; rfl)) | (apply zN; rfl; all_goals (intro hb; try subst hb)))
  · rw [List.length_map] at *
    have hlt : i < s.cs.length := by
      have h0 := ‹true = true ↔ cmpP BinOp.lss (Int.ofNat i) (Int.ofNat s.cs.length)›.1 rfl
      simp [cmpP] at h0; omega
    have hcm : (s.cs.map entC)[i]? = some (entC s.cs[i]) := by rw [List.getElem?_map, List.getElem?_eq_getElem hlt]; rfl
    have eF : ¬ s.cs[i].v.node = node → m = hL svc (ofE (fun v : KC => decide (v.node = node)) (s.cs.take (i + 1))) := by
      intro hb
      rw [hm2]; unfold ofE; rw [List.take_succ_eq_append_getElem hlt, List.filter_append]; simp only [List.filter_cons, decide_eq_false hb, List.filter_nil, Bool.false_eq_true, if_false, List.append_nil]
    have eT : s.cs[i].v.node = node → hStep svc m s.cs[i] = hL svc (ofE (fun v : KC => decide (v.node = node)) (s.cs.take (i + 1))) := by
      intro hb
      rw [hm2, ← hL_snoc]; unfold ofE; rw [List.take_succ_eq_append_getElem hlt, List.filter_append]; simp only [List.filter_cons, decide_eq_true hb, List.filter_nil, if_true]
    have nx : ∀ m', m' = hL svc (ofE (fun v : KC => decide (v.node = node)) (s.cs.take (i + 1))) → WL B tab c12.nt none _ [(0, .ptr ⟨false, wp, 0⟩), (1, .int .i64 node), (2, .str svc), (7, .int .i64 m'), (8, .int .i64 (.ofNat (i + 1)))] H _ := fun m' a => ih _ (by omega) (i + 1) m' a (by omega) rfl
    repeat' (first
      | apply zC | apply zE | apply zD | apply zJ | (apply zO; rfl) | (apply zF; rfl; rfl; (first | exact ld0 rfl | exact ld1 rfl | exact ld2 rfl); rfl) | (apply zP; rfl; rfl; (first | exact tk0 | exact tk1 | exact tk2); rfl; (· repeat' (first | rfl | assumption | apply ac1)); rfl) | (apply yE; rfl; intro _) | (apply yA; rfl; rfl; rfl; exact q3; exact hcm; intro ax hax) | (apply zF; rfl; rfl; exact hax; rfl) | (apply zR; rfl; rfl; rfl; omega) | (apply zM; rfl; rfl; rfl; rfl; intro _ _) | (apply yH; rfl; rfl; rfl; rfl; intro _ _) | (apply zB; rfl; (intro _; rfl)) | (apply zV; rfl) | (apply WOps.ask; rfl; all_goals (intro hb; first | subst hb | fail_if_success (cases hb))) | (apply zN; rfl; all_goals (intro hb; try subst hb)))
    all_goals first
      | exact WL.le (zA rfl (zA rfl (zA rfl (zA rfl (zA rfl zH))))) (yB (H1 := H) (subF (by intro f; simp only [AV.cells, pm] <;> omega)) (nx m (eF (eq_of_ff ‹false = true ↔ cmpP BinOp.eql s.cs[i].v.node node›))))
      | (have hn := eT (‹true = true ↔ cmpP BinOp.eql s.cs[i].v.node node›.1 rfl)
         first
           | (have e : hStep svc m s.cs[i] = m := if_neg (fun k => k.elim (eq_of_ff ‹false = true ↔ cmpS BinOp.eql s.cs[i].v.svc []›) (eq_of_ff ‹false = true ↔ cmpS BinOp.eql s.cs[i].v.svc svc›))
              exact WL.le (zA rfl (zA rfl (zA rfl (zA rfl (zA rfl zH))))) (yB (H1 := H) (subF (by intro f; simp only [AV.cells, pm] <;> omega)) (nx m (e.symm.trans hn))))
           | (have e : hStep svc m s.cs[i] = maxI m s.cs[i].v.st := if_pos (by first | exact .inl (‹true = true ↔ cmpS BinOp.eql s.cs[i].v.svc []›.1 rfl) | exact .inr (‹true = true ↔ cmpS BinOp.eql s.cs[i].v.svc svc›.1 rfl))
              first
                | (have e2 : maxI m s.cs[i].v.st = s.cs[i].v.st := if_pos (‹true = true ↔ cmpP BinOp.gtr s.cs[i].v.st m›.1 rfl)
                   exact WL.le (zA rfl (zA rfl (zA rfl (zA rfl (zA rfl zH))))) (yB (H1 := H) (subF (by intro f; simp only [AV.cells, pm] <;> omega)) (nx _ ((e.trans e2).symm.trans hn))))
                | (have e2 : maxI m s.cs[i].v.st = m := if_neg (eq_of_ff ‹false = true ↔ cmpP BinOp.gtr s.cs[i].v.st m›)
                   exact WL.le (zA rfl (zA rfl (zA rfl (zA rfl (zA rfl zH))))) (yB (H1 := H) (subF (by intro f; simp only [AV.cells, pm] <;> omega)) (nx m ((e.trans e2).symm.trans hn))))))
  · rw [List.length_map] at *
    have hge : i = s.cs.length := by
      have h0 := eq_of_ff ‹false = true ↔ cmpP BinOp.lss (Int.ofNat i) (Int.ofNat s.cs.length)›
      simp [cmpP] at h0; omega
    subst hge
    rw [List.take_length] at hm2
    subst hm2
    repeat' (first
      | apply zC | apply zE | apply zD | apply zJ | apply zL | apply zZ | (apply zS; rfl) | (apply zO; rfl) | apply zK | (apply zF; rfl; rfl; (first | exact ld0 rfl | exact ld1 rfl | exact ld2 rfl); rfl) | (apply zP; rfl; rfl; (first | exact tk0 | exact tk1 | exact tk2); rfl; (· repeat' (first | rfl | assumption | apply ac1)); rfl) | (apply yE; rfl; intro _) | (apply zM; rfl; rfl; rfl; rfl; intro _ _) | (apply yH; rfl; rfl; rfl; rfl; intro _ _) | (apply zB; rfl; (intro _; rfl)) | (apply zV; rfl) | (apply WOps.ask; rfl; all_goals (intro hb; first | subst hb | fail_if_success (cases hb))) | (apply zN; rfl; all_goals (intro hb; try subst hb)))
    exact ⟨trivial, List.Sublist.refl _, [_], ⟨_, [], rfl, rfl, rfl⟩, rfl⟩
section both
variable {H R : HL} {rp a1 a2 a3 wp M M2 : Nat} {sk sr s2 : RS} {f : AFn} {args : List AV}
theorem onR0 {P : AV → Prop} (h : ∀ X, RefAt B H wp M2 sr X → WF B tab f args H fun r H' => H' = H ∧ P r) (b : Both B H rp a1 a2 a3 wp M M2 sk sr R) : WF B tab f args H fun r H' => H' = H ∧ P r := by
 obtain ⟨X, k, g⟩ := b.ref
 exact h X k
end both
theorem same_b {H R : HL} {rp a1 a2 a3 wp M : Nat} {s : RS} (hI : Inv M s) (b : Both B H rp a1 a2 a3 wp M M s s R) : WF B tab (.func 10) [.ptr ⟨false, rp, 0⟩, .ptr ⟨false, wp, 0⟩] H fun r H' => H' = H ∧ r = .bool true := by
 obtain ⟨X, k, _⟩ := b.ros
 obtain ⟨Y, r, _⟩ := b.ref
 exact same10_ok hI.ok k r
set_option maxHeartbeats 4000000 in
theorem plays_ok {most : Int} {wl : AV} {l : List St} (hw : ∀ H : HL, SlIs B H wl 18 (l.map stepC)) (hlen : l.length ≤ 9223372036854775807) (hst : ∀ (i : Nat) (h : i < l.length), StIs B l[i]) :
  WF B tab (.func 3) [.int .i64 most, wl] [] fun r _ => r = .bool true := by
 refine WF.fn g3 rfl ?_
 have hm := mostOf_ge most
 have h64 := mostOf_le most
 repeat' (first
  | apply zC | apply zE | apply zD | apply zK | (apply WOps.clA; rfl; rfl; exact new7_ok _; rintro _ H1 ⟨rp, a1, a2, a3, rfl, h1⟩) | (apply WOps.clA; rfl; rfl; exact new8_ok _; rintro _ H2 ⟨wp, rfl, h2⟩) | (apply zB; rfl; (intro _; rfl)))
 generalize mostOf most = M at *
 refine yG ?_
 obtain ⟨i, hi⟩ : ∃ i : Nat, i = 0 := ⟨0, rfl⟩
 obtain ⟨s, hs⟩ : ∃ s : RS, s = rs0 := ⟨_, rfl⟩
 refine WL.le (t' := [(1, wl), (5, .ptr ⟨false, rp, 0⟩), (6, .ptr ⟨false, wp, 0⟩), (7, .int .i64 (.ofNat i))]) (by subst hi; exact zA rfl (zA rfl (zA rfl (zA rfl zH)))) ?_
 have b : Both B H2 rp a1 a2 a3 wp M M s s [] := by subst hs; exact Both.mk0 h1 h2
 have hI : Inv M s := by subst hs; exact Inv.zero hm h64
 have hle : i ≤ l.length := by omega
 clear hi hs h1 h2
 induction hk : l.length - i using Nat.strongRecOn generalizing i s H2 with | _ k ih => ?_
 apply WL.step
 repeat' (first
  | apply zC | apply zE | apply zD | apply zJ | apply zZ | (apply zO; rfl) | apply zK | apply zT | (apply zU; rfl; rfl; exact hw _) | (apply zM; rfl; rfl; rfl; rfl; intro _ _) | (apply zB; rfl; (intro _; rfl)) | (apply zV; rfl) | (apply zQ; rfl; (intro _; rfl)) | (apply WOps.ask; rfl; all_goals (intro hb; first | subst hb | fail_if_success (cases hb))) | (apply zN; rfl; all_goals (intro hb; try subst hb)))
 ·have hlt : i < l.length := by
   have h0 := ‹true = true ↔ cmpP BinOp.lss (Int.ofNat i) (Int.ofNat (List.map stepC l).length)›
   rw [List.length_map] at h0
   simp [cmpP] at h0; omega
  have hcm : (l.map stepC)[i]? = some (stepC l[i]) := by rw [List.getElem?_map, List.getElem?_eq_getElem hlt]; rfl
  have hI1 : Inv M (stepS M s l[i]) := hI.step
  repeat' (first
   | apply zC | apply zD | apply zJ | (apply zO; rfl) | apply zW | (apply WD.ixSl; rfl; rfl; rfl; exact hw _; exact hcm; intro ax hax) | (apply zI; rfl; · repeat' (first | refine at1 ?_ rfl | apply at2 | exact same0 | refine same1 ?_ rfl | apply same2 | exact rd_ld rfl (hax _ (hw _)) rfl)) | (apply zI; rfl; · repeat' (first | refine at1 ?_ rfl | apply at2 | exact same0 | refine same1 ?_ rfl | apply same2 | exact rd_ld rfl (Ld.part (hax _ (hw _)) 1 1 (by omega)) rfl)) | (apply zI; rfl; · repeat' (first | refine at1 ?_ rfl | apply at2 | exact same0 | refine same1 ?_ rfl | apply same2 | exact rd_ld rfl (Ld.part (hax _ (hw _)) 2 1 (by omega)) rfl)) | (apply zI; rfl; · repeat' (first | refine at1 ?_ rfl | apply at2 | exact same0 | refine same1 ?_ rfl | apply same2 | exact rd_ld rfl (Ld.part (hax _ (hw _)) 3 1 (by omega)) rfl)) | (apply zI; rfl; · repeat' (first | refine at1 ?_ rfl | apply at2 | exact same0 | refine same1 ?_ rfl | apply same2 | exact rd_ld rfl (Ld.part (hax _ (hw _)) 4 1 (by omega)) rfl)) | (apply yI; rfl; rfl; exact step9_ok (t := l[i]) hI hI (.inl ⟨rfl, rfl⟩) (hst i hlt) b; rintro _ H3 ⟨c, rfl, hc, b1⟩; obtain rfl := hc rfl rfl) | (apply WD.clR; rfl; rfl; exact same_b hI1 b1; rintro _ rfl) | (apply WD.clR; rfl; rfl; exact onK0 (fun X k => health11_ok hI1.ok k) b1; rintro _ rfl) | (apply WD.clR; rfl; rfl; exact onR0 (fun X k => healthR12_ok hI1.ok k) b1; rintro _ rfl) | (apply WD.neI; rfl; rfl; rfl) | (apply zR; rfl; rfl; rfl; omega) | (apply zB; rfl; (intro _; rfl)) | (apply zQ; rfl; (intro _; rfl)))
  exact WL.le (zA rfl (zA rfl (zA rfl (zA rfl zH)))) (ih _ (by omega) _ (i + 1) _ b1 hI1 (by omega) rfl)
 all_goals
  repeat' (first
   | apply zC | apply zL | (apply WOps.clR; rfl; rfl; exact same_b hI b; rintro _ rfl) | (apply WOps.clG1; rfl; rfl; exact WF.const g13) | (apply zB; rfl; (intro _; rfl)))
  exact ⟨trivial, [_], ⟨_, [], rfl, rfl, rfl⟩, rfl⟩
theorem rosterPlays_wf (B : Nat → List AV) (args : List AV) (h : ArgIs Tryz.prog B Tryz.f3.params.toList args) : WF B tab (.func 3) args [] fun v _ => v = .bool true := by
  rw [show Tryz.f3.params.toList = [3, 22] from by kernel_rfl] at h
  match args, h with
  | [a, b], ⟨⟨n, cs, h, ha⟩, ⟨n2, ds, k, hb⟩, _⟩ =>
    rw [show (shapeOf Tryz.prog 3).1 = false from by kernel_rfl] at ha
    rw [show (shapeOf Tryz.prog 22).1 = false from by kernel_rfl] at hb
    simp only at ha hb
    obtain ⟨m, e1, _⟩ := h.int t3
    obtain ⟨w, l, e, k1, k2, k3⟩ := steps_of k
    subst e
    rw [e1] at ha
    cases ha
    cases hb
    exact plays_ok k1 k2 k3
end Go.Proofs.YtgpnpcahcegadaaGreat.RO
