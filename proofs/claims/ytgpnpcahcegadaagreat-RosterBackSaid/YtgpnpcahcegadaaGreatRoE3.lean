/- What the functions do, shown by the logic. -/
import Derived.Test.YtgpnpcahcegadaaGreatRoE2
set_option linter.unusedSimpArgs false
set_option linter.unusedVariables false
set_option linter.unusedSectionVars false
set_option maxRecDepth 20000
namespace Go.Proofs.YtgpnpcahcegadaaGreat.RO
open Go.Proofs.YtgpnpcahcegadaaGreat.Abs
variable {B : Nat → List AV}
set_option maxHeartbeats 8000000 in
theorem checkR_ok {H R : HL} {wp M : Nat} {s : RS} {x : KC} {jm ji ix : Int} (ok : RsOk M s) (ks : KsOk s) (h : RefAt B H wp M s R) (hx : CkIs x) :
    WF B tab (.func 33) [.ptr ⟨false, wp, 0⟩, .agg (ckC x jm ji), .int .u64 ix] H fun r H' => r = .int .i64 (.ofNat (checkS M s x ix).2) ∧ RefAt B H' wp M (checkS M s x ix).1 R := by
  refine zY ?_
  have hh := h
  obtain ⟨qs, v1, v2, v3, h1, h2, h3, e1, hp, o1, o2, o3, q⟩ := h.toQ
  have row : Ld B H ⟨false, wp, 0⟩ 7 (refC M v1 v2 v3 s) := Ld.perm q (Ld.own zG rfl)
  have l0 := row.part 0 1 (by omega)
  have l1 := row.part 3 1 (by omega)
  have s1 : SlIs B H v3 7 (s.cs.map entC) := SlIs.perm q (SlIs.cons (SlIs.right (SlIs.right (SlIs.left (entsC_sl o3)))))
  have hl : s.cs.length ≤ 64 := Nat.le_trans ok.n3 ok.m2
  have r1 := ok.r3
  have hk := ks.kc
  have c1 := o1.cell
  have c2 := o2.cell
  have c3 := o3.cell
  refine WF.fn g33 rfl ?_
  refine zE (zD ?_)
  repeat' (first
    | apply zC | (apply yC; rfl; rfl; (· repeat' (first | rfl | assumption | apply ac1)); intro _) | (apply zB; rfl; (intro _; rfl)))
  rename_i p4
  refine WC.cut2 (X := Unit) (fun _ => [(0, .ptr ⟨false, wp, 0⟩), (2, .int .u64 ix), (4, .ptr ⟨false, p4, 0⟩)]) (fun _ => (p4, .row (ckC x jm ji)) :: H) (fun _ => wrongC s x = 0) ?_ ?_
  · repeat' (first
      | apply zC | apply zE | apply zD | apply zJ | apply zL | (apply zF; rfl; rfl; (first | exact ld0 rfl | exact ld1 rfl | exact ld2 rfl); rfl) | (apply WOps.clR; rfl; rfl; exact wrong78_ok ok ks hh.cons hx; rintro _ rfl) | (apply zM; rfl; rfl; rfl; rfl; intro _ _) | (apply zB; rfl; (intro _; rfl)) | (apply zN; rfl; all_goals (intro hb; try subst hb)))
    · have q1 := ‹true = true ↔ cmpP BinOp.neq _ _›.1 rfl
      simp only [cmpP, Int.ofNat_eq_natCast] at q1
      have e : checkS M s x ix = (s, wrongC s x) := by unfold checkS; rw [if_pos (by omega)]
      exact ⟨trivial, [_], ⟨_, [], rfl, rfl, rfl⟩, H, ⟨by rw [e]; rfl, by rw [e]; exact hh⟩, SubP.of (List.sublist_cons_self _ _)⟩
    · have q1 := eq_of_ff ‹false = true ↔ cmpP BinOp.neq _ _›
      simp only [cmpP, Int.ofNat_eq_natCast] at q1
      exact ⟨(), zA rfl (zA rfl (zA rfl (zH))), SubP.refl, by omega⟩
  intro _ hw
  obtain ⟨⟨n, hn8, hnn⟩, hid⟩ := wrongC_zero hw
  have hnn2 : x.node.toNat = n := by rw [hnn]; rfl
  have lb0 : Ld B ((p4, .row (ckC x jm ji)) :: H) ⟨false, p4, 0⟩ 1 [.int .i64 x.node] := Ld.own zG rfl
  have lb1 : Ld B ((p4, .row (ckC x jm ji)) :: H) ⟨false, p4, 1⟩ 1 [.str x.id] := Ld.own zG rfl
  rw [hnn] at lb0
  refine zE (zD ?_)
  repeat' (first
    | apply zC | (apply zB; rfl; (intro _; rfl)))
  refine WC.cut2 (X := Bool) (fun b => [(0, .ptr ⟨false, wp, 0⟩), (2, .int .u64 ix), (4, .ptr ⟨false, p4, 0⟩), (8, .bool b)]) (fun _ => (p4, .row (ckC x jm ji)) :: H) (fun b => b = true ↔ ∃ e, e ∈ s.cs ∧ e.key = keyS n x.id) ?_ ?_
  · repeat' (first
      | apply zC | apply zE | apply zD | apply zK | (apply zB; rfl; (intro _; rfl)))
    refine yG ?_
    obtain ⟨i, hi⟩ : ∃ i : Nat, i = 0 := ⟨0, rfl⟩
    obtain ⟨b, hb⟩ : ∃ b : Bool, b = false := ⟨_, rfl⟩
    refine WL.le (t' := [(0, .ptr ⟨false, wp, 0⟩), (2, .int .u64 ix), (4, .ptr ⟨false, p4, 0⟩), (8, .bool b), (9, .int .i64 (.ofNat i))]) (by subst hi hb; exact zA rfl (zA rfl (zA rfl (zA rfl (zA rfl (zH)))))) ?_
    have hle : i ≤ s.cs.length := by omega
    have hpre : b = true ↔ ∃ j, ∃ h : j < s.cs.length, j < i ∧ s.cs[j].key = keyS n x.id := by
      subst hi hb
      exact ⟨fun h => (by cases h), fun ⟨j, h, h2, _⟩ => absurd h2 (Nat.not_lt_zero _)⟩
    clear hi hb
    induction hm : s.cs.length - i using Nat.strongRecOn generalizing i b with | _ k ih => ?_
    apply WL.step
    refine zE (zE (zD ?_))
    repeat' (first
      | apply zC | apply zJ | apply zZ | (apply zF; rfl; rfl; exact l1.cons; rfl) | (apply zU; rfl; rfl; exact SlIs.cons s1) | (apply zM; rfl; rfl; rfl; rfl; intro _ _) | (apply zB; rfl; (intro _; rfl)) | (apply zN; rfl; all_goals (intro hb; try subst hb)))
    all_goals rw [List.length_map] at *
    · have hlt : i < s.cs.length := by
        have h0 := ‹true = true ↔ cmpP BinOp.lss (Int.ofNat i) (Int.ofNat s.cs.length)›.1 rfl
        simp [cmpP] at h0; omega
      have hcm : (s.cs.map entC)[i]? = some (entC s.cs[i]) := by rw [List.getElem?_map, List.getElem?_eq_getElem hlt]; rfl
      obtain ⟨m, hm8, hnode, hkey⟩ := hk s.cs[i] (List.getElem_mem hlt)
      have keq : (s.cs[i].v.node = Int.ofNat n ∧ s.cs[i].v.id = x.id) ↔ s.cs[i].key = keyS n x.id := by
        rw [hnode, hkey]; exact key_eq
      have nx : ∀ b2 : Bool, (b2 = true ↔ b = true ∨ s.cs[i].key = keyS n x.id) → WL B tab c33.nt none _ [(0, .ptr ⟨false, wp, 0⟩), (2, .int .u64 ix), (4, .ptr ⟨false, p4, 0⟩), (8, .bool b2), (9, .int .i64 (.ofNat (i + 1)))] ((p4, .row (ckC x jm ji)) :: H) _ := fun b2 hb2 => ih _ (by omega) (i + 1) b2 (by omega) (by
        rw [hb2, hpre]
        constructor
        · rintro (⟨j, h, h2, h3⟩ | h3)
          · exact ⟨j, h, by omega, h3⟩
          · exact ⟨i, hlt, by omega, h3⟩
        · rintro ⟨j, h, h2, h3⟩
          rcases Nat.lt_or_ge j i with h4 | h4
          · exact .inl ⟨j, h, h4, h3⟩
          · obtain rfl : j = i := by omega
            exact .inr h3) rfl
      rw [← keq] at nx
      cases b
      · repeat' (first
          | apply zC | apply zE | apply zD | apply zK | apply zT | apply zW | (apply zI; rfl; · repeat' (first | refine at1 ?_ rfl | apply at2 | exact same0 | refine same1 ?_ rfl | apply same2 | exact rd_ld rfl (l1.cons) rfl)) | (apply WD.ixSl; rfl; rfl; rfl; exact SlIs.cons s1; exact hcm; intro ax hax) | (apply zI; rfl; · repeat' (first | refine at1 ?_ rfl | apply at2 | exact same0 | refine same1 ?_ rfl | apply same2 | exact rd_ld rfl (Ld.part (hax _ (SlIs.cons s1)) 0 1 (by omega)) rfl)) | (apply zI; rfl; · repeat' (first | refine at1 ?_ rfl | apply at2 | exact same0 | refine same1 ?_ rfl | apply same2 | exact rd_ld rfl (Ld.part (hax _ (SlIs.cons s1)) 1 1 (by omega)) rfl)) | (apply zI; rfl; · repeat' (first | refine at1 ?_ rfl | apply at2 | exact same0 | refine same1 ?_ rfl | apply same2 | exact rd_ld rfl (lb0) rfl)) | (apply zI; rfl; · repeat' (first | refine at1 ?_ rfl | apply at2 | exact same0 | refine same1 ?_ rfl | apply same2 | exact rd_ld rfl (lb1) rfl)) | (apply zR; rfl; rfl; rfl; omega) | (apply zB; rfl; (intro _; rfl)) | (apply WD.cmp; rfl; rfl; rfl; rfl; intro _ _) | (apply WD.cmpT; rfl; rfl; rfl; rfl; intro _ _) | (apply zQ; rfl; (intro _; rfl)) | (apply WD.skp; rfl) | (apply WD.skpL; rfl) | (apply WD.ask; rfl; all_goals (intro hb; first | subst hb | fail_if_success (cases hb))))
        · have qa := ‹true = true ↔ cmpP BinOp.eql s.cs[i].v.node _›.1 rfl
          have qb := ‹_ = true ↔ cmpS BinOp.eql s.cs[i].v.id _›
          exact WL.le (zA rfl (zA rfl (zA rfl (zA rfl (zA rfl (zH)))))) (nx _ ⟨fun h => .inr ⟨qa, qb.1 h⟩, fun h => qb.2 (by rcases h with h | h; cases h; exact h.2)⟩)
        · have qa := eq_of_ff ‹false = true ↔ cmpP BinOp.eql s.cs[i].v.node _›
          exact WL.le (zA rfl (zA rfl (zA rfl (zA rfl (zA rfl (zH)))))) (nx false ⟨fun h => (by cases h), fun h => by rcases h with h | h; cases h; exact absurd h.1 qa⟩)
      · repeat' (first
          | apply zC | apply zE | apply zD | apply zK | apply zT | apply zW | (apply zR; rfl; rfl; rfl; omega) | (apply zB; rfl; (intro _; rfl)) | (apply zQ; rfl; (intro _; rfl)) | (apply WD.skp; rfl) | (apply WD.skpL; rfl))
        exact WL.le (zA rfl (zA rfl (zA rfl (zA rfl (zA rfl (zH)))))) (nx true ⟨fun _ => .inl rfl, fun _ => rfl⟩)
    · have hge : i = s.cs.length := by
        have h0 := eq_of_ff ‹false = true ↔ cmpP BinOp.lss (Int.ofNat i) (Int.ofNat s.cs.length)›
        simp [cmpP] at h0; omega
      refine ⟨b, zA rfl (zA rfl (zA rfl (zA rfl (zH)))), SubP.refl, hpre.trans ⟨?_, ?_⟩⟩
      · rintro ⟨j, h, _, h3⟩
        exact ⟨_, List.getElem_mem h, h3⟩
      · rintro ⟨e, he, h3⟩
        obtain ⟨j, hj, rfl⟩ := List.getElem_of_mem he
        exact ⟨j, hj, by omega, h3⟩
  intro b hb
  have hbf : b = true ↔ findE s.cs (keyS n x.id) ≠ none := by
    rw [hb, ne_eq, find_none]
    simp only [Classical.not_forall, Classical.not_not, exists_prop]
  have hfl : fullP M s.cs (keyS n x.id) ↔ ¬ b = true ∧ M ≤ s.cs.length := by
    unfold fullP
    rw [hbf, ne_eq, Classical.not_not]
  clear hb hbf
  refine WC.cut2 (X := Unit) (fun _ => [(0, .ptr ⟨false, wp, 0⟩), (2, .int .u64 ix), (4, .ptr ⟨false, p4, 0⟩)]) (fun _ => (p4, .row (ckC x jm ji)) :: H) (fun _ => ¬ fullP M s.cs (keyS n x.id)) ?_ ?_
  · cases b
    · repeat' (first
        | apply zC | apply zE | apply zD | apply zJ | apply zL | apply zT | apply zW | (apply zI; rfl; · repeat' (first | refine at1 ?_ rfl | apply at2 | exact same0 | refine same1 ?_ rfl | apply same2 | exact rd_ld rfl (l0.cons) rfl)) | (apply zI; rfl; · repeat' (first | refine at1 ?_ rfl | apply at2 | exact same0 | refine same1 ?_ rfl | apply same2 | exact rd_ld rfl (l1.cons) rfl)) | (apply WD.lenS; rfl; rfl; exact SlIs.cons s1) | (apply zB; rfl; (intro _; rfl)) | (apply WD.cmp; rfl; rfl; rfl; rfl; intro _ _) | (apply zQ; rfl; (intro _; rfl)) | (apply zN; rfl; all_goals (intro hb; try subst hb)))
      · have q := ‹true = true ↔ cmpP BinOp.geq _ _›.1 rfl
        simp only [cmpP, Int.ofNat_eq_natCast, List.length_map] at q
        have e : checkS M s x ix = (s, 5) := by unfold checkS; rw [if_neg (by rw [hw]; simp), hnn2]; exact if_pos (hfl.2 ⟨by simp, by omega⟩)
        exact ⟨trivial, [_], ⟨_, [], rfl, rfl, rfl⟩, H, ⟨by rw [e]; rfl, by rw [e]; exact hh⟩, SubP.of (List.sublist_cons_self _ _)⟩
      · have q := eq_of_ff ‹false = true ↔ cmpP BinOp.geq _ _›
        simp only [cmpP, Int.ofNat_eq_natCast, List.length_map] at q
        exact ⟨(), zA rfl (zA rfl (zA rfl (zH))), SubP.refl, fun k => by have := (hfl.1 k).2; omega⟩
    · repeat' (first
        | apply zE | apply zJ | (apply zO; rfl) | apply zT | apply zW | (apply zQ; rfl; (intro _; rfl)) | (apply WD.skp; rfl) | (apply WD.skpL; rfl))
      exact ⟨(), zA rfl (zA rfl (zA rfl (zH))), SubP.refl, fun k => (hfl.1 k).1 rfl⟩
  intro _ hnf
  have e : checkS M s x ix = ({ s with cs := putE s.cs ⟨keyS n x.id, x, ix, ix⟩, l3 := maxI s.l3 ix }, 0) := by
    unfold checkS
    rw [if_neg (by rw [hw]; simp), hnn2]
    exact if_neg hnf
  rw [e]
  clear e hh hnf hw lb0 lb1 hid hfl
  repeat' (first
    | apply zC | apply zE | apply zD | apply zK | (apply zP; rfl; rfl; (first | exact tk0 | exact tk1 | exact tk2); rfl; (· repeat' (first | rfl | assumption | apply ac1)); rfl) | (apply zB; rfl; (intro _; rfl)))
  refine yG ?_
  obtain ⟨i, hi⟩ : ∃ i : Nat, i = 0 := ⟨0, rfl⟩
  obtain ⟨w, hw⟩ : ∃ v, v = AV.nilsl := ⟨_, rfl⟩
  obtain ⟨us, hus⟩ : ∃ u : List (TE KC), u = [] := ⟨_, rfl⟩
  obtain ⟨hv, hhv⟩ : ∃ h : HL, h = [] := ⟨_, rfl⟩
  obtain ⟨laid, hlaid⟩ : ∃ b : Bool, b = false := ⟨_, rfl⟩
  obtain ⟨mk, hmk⟩ : ∃ m : Int, m = ix := ⟨_, rfl⟩
  refine WL.le (t' := [(0, .ptr ⟨false, wp, 0⟩), (2, .int .u64 ix), (4, .ptr ⟨false, p4, 0⟩), (10, w), (11, .bool laid), (12, .int .i64 (.ofNat i))]) (by subst hi hw hlaid; exact zA rfl (zA rfl (zA rfl (zA rfl (zA rfl (zA rfl (zH))))))) ?_
  refine WL.heq (H' := (p4, .row (entC (⟨keyS n x.id, x, mk, ix⟩ : TE KC))) :: (hv ++ H)) (by subst hhv hmk; rfl) ?_
  have o9 : OwnSl w (us.map entC).flatten us.length 7 hv := by subst hus; exact .inl ⟨hw, rfl, rfl, hhv⟩
  have hst : (laid = false ∧ mk = ix ∧ us = s.cs.take i ∧ AllBelow (s.cs.take i) (keyS n x.id)) ∨ (laid = true ∧ us ++ s.cs.drop i = putE s.cs (⟨keyS n x.id, x, ix, ix⟩ : TE KC) ∧ Above (s.cs.drop i) (keyS n x.id)) := by
    subst hi hus
    exact .inl ⟨hlaid, hmk, rfl, fun x hx => by simp at hx⟩
  have hul : us.length ≤ i + 1 := by subst hus; simp
  have hle : i ≤ s.cs.length := by omega
  clear hi hw hus hhv hlaid hmk
  induction hm : s.cs.length - i using Nat.strongRecOn generalizing i w us hv laid mk with | _ k ih => ?_
  apply WL.step
  have lA : ∀ {X : HL}, Ld B (X ++ H) ⟨false, wp, 3⟩ 1 [v3] := Ld.right l1
  have sA : ∀ {X : HL}, SlIs B (X ++ H) v3 7 (s.cs.map entC) := SlIs.right s1
  refine zE (zE (zD ?_))
  repeat' (first
    | apply zC | apply zJ | apply zZ | (apply zF; rfl; rfl; exact (lA (X := _ :: hv)); rfl) | (apply zU; rfl; rfl; exact (sA (X := _ :: hv))) | (apply zM; rfl; rfl; rfl; rfl; intro _ _) | (apply zB; rfl; (intro _; rfl)) | (apply zN; rfl; all_goals (intro hb; try subst hb)))
  all_goals rw [List.length_map] at *
  · have hlt : i < s.cs.length := by
      have h0 := ‹true = true ↔ cmpP BinOp.lss (Int.ofNat i) (Int.ofNat s.cs.length)›.1 rfl
      simp [cmpP] at h0; omega
    have hcm : (s.cs.map entC)[i]? = some (entC s.cs[i]) := by rw [List.getElem?_map, List.getElem?_eq_getElem hlt]; rfl
    obtain ⟨m, hm8, hnode, hkey⟩ := hk s.cs[i] (List.getElem_mem hlt)
    have keq : (s.cs[i].v.node = Int.ofNat n ∧ s.cs[i].v.id = x.id) ↔ s.cs[i].key = keyS n x.id := by
      rw [hnode, hkey]; exact key_eq
    have kgt : (s.cs[i].v.node > Int.ofNat n ∨ (s.cs[i].v.node = Int.ofNat n ∧ strLess x.id s.cs[i].v.id = true)) ↔ strLess (keyS n x.id) s.cs[i].key = true := by
      rw [hnode, hkey]; exact key_gt
    have hd1 : s.cs.drop i = s.cs[i] :: s.cs.drop (i + 1) := List.drop_eq_getElem_cons hlt
    have nx : ∀ (w : AV) (us : List (TE KC)) (hv : HL) (laid : Bool) (mk : Int), OwnSl w (us.map entC).flatten us.length 7 hv → ((laid = false ∧ mk = ix ∧ us = s.cs.take (i + 1) ∧ AllBelow (s.cs.take (i + 1)) (keyS n x.id)) ∨ (laid = true ∧ us ++ s.cs.drop (i + 1) = putE s.cs (⟨keyS n x.id, x, ix, ix⟩ : TE KC) ∧ Above (s.cs.drop (i + 1)) (keyS n x.id))) → us.length ≤ i + 2 → WL B tab c33.nt none _ [(0, .ptr ⟨false, wp, 0⟩), (2, .int .u64 ix), (4, .ptr ⟨false, p4, 0⟩), (10, w), (11, .bool laid), (12, .int .i64 (.ofNat (i + 1)))] ((p4, .row (entC (⟨keyS n x.id, x, mk, ix⟩ : TE KC))) :: (hv ++ H)) _ := fun w us hv laid mk o9 hst hul => ih _ (by omega) (i + 1) w us hv laid mk o9 hst hul (by omega) rfl
    refine zE (zK (zE (zD ?_)))
    repeat' (first
      | apply zC | (apply zP; rfl; rfl; (first | exact tk0 | exact tk1 | exact tk2); rfl; (· repeat' (first | rfl | assumption | apply ac1)); rfl) | (apply yE; rfl; intro _) | (apply zF; rfl; rfl; exact (lA (X := _ :: hv)); rfl) | (apply yA; rfl; rfl; rfl; exact (sA (X := _ :: hv)); exact hcm; intro ax hax) | (apply zF; rfl; rfl; exact hax; rfl) | (apply zB; rfl; (intro _; rfl)))
    rename_i p11
    refine WC.cut2 (X := Unit) (fun _ => [(0, .ptr ⟨false, wp, 0⟩), (2, .int .u64 ix), (4, .ptr ⟨false, p4, 0⟩), (10, w), (11, .bool laid), (12, .int .i64 (.ofNat i)), (13, .ptr ⟨false, p11, 0⟩)]) (fun _ => (p11, .row (entC s.cs[i])) :: (p4, .row (entC (⟨keyS n x.id, x, mk, ix⟩ : TE KC))) :: (hv ++ H)) (fun _ => ¬ s.cs[i].key = keyS n x.id) ?_ ?_
    · repeat' (first
        | apply zC | apply zE | apply zD | apply zJ | (apply zO; rfl) | (apply zF; rfl; rfl; (first | exact ld0 rfl | exact ld1 rfl | exact ld2 rfl); rfl) | (apply zP; rfl; rfl; (first | exact tk0 | exact tk1 | exact tk2); rfl; (· repeat' (first | rfl | assumption | apply ac1)); rfl) | (apply yF; rfl; (· repeat' (first | rfl | assumption | apply ac1)); intro _) | (apply zM; rfl; rfl; rfl; rfl; intro _ _) | (apply yH; rfl; rfl; rfl; rfl; intro _ _) | (apply zB; rfl; (intro _; rfl)) | (apply zV; rfl) | (apply WOps.ask; rfl; all_goals (intro hb; first | subst hb | fail_if_success (cases hb))) | (apply zN; rfl; all_goals (intro hb; try subst hb)))
      · have qa := ‹true = true ↔ cmpP BinOp.eql s.cs[i].v.node _›.1 rfl
        have qb := ‹true = true ↔ cmpS BinOp.eql s.cs[i].v.id _›.1 rfl
        have hq := keq.1 ⟨qa.trans hnn, qb⟩
        rcases hst with ⟨rfl, rfl, rfl, hbel⟩ | ⟨rfl, hput, hab⟩
        · obtain ⟨st1, st2, st3⟩ := laid_step (e := (⟨keyS n x.id, x, mk, mk⟩ : TE KC)) r1 hlt hbel
          obtain ⟨f1, f2, f3⟩ := st1 hq
          refine yD (n := (s.cs.take i).length) rfl rfl rfl o9 (List.perm_append_comm_assoc [_, _, _] hv H) (src_one zG rfl) (entsC_cell _) rfl rfl (by omega) ?_
          intro v5 h5 o5
          repeat' (first
            | apply zC | apply zE | apply zD | apply zZ | (apply zR; rfl; rfl; rfl; omega) | (apply zB; rfl; (intro _; rfl)))
          refine WL.le (zA rfl (zA rfl (zA rfl (zA rfl (zA rfl (zA rfl (zH))))))) (yB (H1 := (p4, .row (entC (⟨keyS n x.id, x, s.cs[i].mke, mk⟩ : TE KC))) :: (h5 ++ H)) (subF (by intro f; simp only [entC, ckC, List.map_cons, List.map_append, List.sum_cons, List.sum_append, List.map_nil, List.sum_nil]; omega)) (nx v5 (s.cs.take i ++ [(⟨keyS n x.id, x, s.cs[i].mke, mk⟩ : TE KC)]) h5 true s.cs[i].mke ?_ (.inr ⟨rfl, f2, f3⟩) (by rw [List.length_append, List.length_singleton]; omega)))
          rw [List.map_append, List.flatten_append, List.length_append]
          exact o5
        · exfalso
          exact less_ne (hab s.cs[i] (by rw [hd1]; exact List.mem_cons_self)) hq.symm
      · have qb := eq_of_ff ‹false = true ↔ cmpS BinOp.eql s.cs[i].v.id _›
        exact ⟨(), zA rfl (zA rfl (zA rfl (zA rfl (zA rfl (zA rfl (zA rfl (zH))))))), SubP.refl, fun h => qb (keq.2 h).2⟩
      · have qa := eq_of_ff ‹false = true ↔ cmpP BinOp.eql s.cs[i].v.node _›
        exact ⟨(), zA rfl (zA rfl (zA rfl (zA rfl (zA rfl (zA rfl (zA rfl (zH))))))), SubP.refl, fun h => qa ((keq.2 h).1.trans hnn.symm)⟩
    intro _ hne
    refine WC.cut2 (X := AV × List (TE KC) × HL × Bool) (fun y => [(0, .ptr ⟨false, wp, 0⟩), (2, .int .u64 ix), (4, .ptr ⟨false, p4, 0⟩), (10, y.1), (11, .bool y.2.2.2), (12, .int .i64 (.ofNat i)), (13, .ptr ⟨false, p11, 0⟩)]) (fun y => (p11, .row (entC s.cs[i])) :: (p4, .row (entC (⟨keyS n x.id, x, mk, ix⟩ : TE KC))) :: (y.2.2.1 ++ H)) (fun y => OwnSl y.1 (y.2.1.map entC).flatten y.2.1.length 7 y.2.2.1 ∧ ((y.2.2.2 = false ∧ mk = ix ∧ y.2.1 = s.cs.take i ∧ AllBelow (s.cs.take (i + 1)) (keyS n x.id)) ∨ (y.2.2.2 = true ∧ (y.2.1 ++ [s.cs[i]]) ++ s.cs.drop (i + 1) = putE s.cs (⟨keyS n x.id, x, ix, ix⟩ : TE KC) ∧ Above (s.cs.drop (i + 1)) (keyS n x.id))) ∧ y.2.1.length ≤ i + 1) ?_ ?_
    · rcases hst with ⟨rfl, rfl, rfl, hbel⟩ | ⟨rfl, hput, hab⟩
      · obtain ⟨st1, st2, st3⟩ := laid_step (e := (⟨keyS n x.id, x, mk, mk⟩ : TE KC)) r1 hlt hbel
        have lay : strLess (keyS n x.id) s.cs[i].key = true → ∀ (v5 : AV) (h5 : HL), OwnSl v5 (((s.cs.take i).map entC).flatten ++ entC (⟨keyS n x.id, x, mk, mk⟩ : TE KC)) ((s.cs.take i).length + 1) 7 h5 → OwnSl v5 (((s.cs.take i ++ [(⟨keyS n x.id, x, mk, mk⟩ : TE KC)]).map entC).flatten) (s.cs.take i ++ [(⟨keyS n x.id, x, mk, mk⟩ : TE KC)]).length 7 h5 ∧ ((true = false ∧ mk = mk ∧ (s.cs.take i ++ [(⟨keyS n x.id, x, mk, mk⟩ : TE KC)]) = s.cs.take i ∧ AllBelow (s.cs.take (i + 1)) (keyS n x.id)) ∨ (true = true ∧ ((s.cs.take i ++ [(⟨keyS n x.id, x, mk, mk⟩ : TE KC)]) ++ [s.cs[i]]) ++ s.cs.drop (i + 1) = putE s.cs (⟨keyS n x.id, x, mk, mk⟩ : TE KC) ∧ Above (s.cs.drop (i + 1)) (keyS n x.id))) ∧ (s.cs.take i ++ [(⟨keyS n x.id, x, mk, mk⟩ : TE KC)]).length ≤ i + 1 := fun hq v5 h5 o5 => by
          obtain ⟨f1, f2, f3⟩ := st2 hq
          refine ⟨?_, .inr ⟨rfl, f2, f3⟩, by rw [List.length_append, List.length_singleton, List.length_take]; omega⟩
          rw [List.map_append, List.flatten_append, List.length_append]
          simpa using o5
        have no : ¬ strLess (keyS n x.id) s.cs[i].key = true → OwnSl w (((s.cs.take i).map entC).flatten) (s.cs.take i).length 7 hv ∧ ((false = false ∧ mk = mk ∧ (s.cs.take i) = s.cs.take i ∧ AllBelow (s.cs.take (i + 1)) (keyS n x.id)) ∨ (false = true ∧ ((s.cs.take i) ++ [s.cs[i]]) ++ s.cs.drop (i + 1) = putE s.cs (⟨keyS n x.id, x, mk, mk⟩ : TE KC) ∧ Above (s.cs.drop (i + 1)) (keyS n x.id))) ∧ (s.cs.take i).length ≤ i + 1 := fun hq => ⟨o9, .inl ⟨rfl, rfl, rfl, st3 hne hq⟩, hul⟩
        repeat' (first
          | apply zC | apply zE | apply zD | apply zJ | (apply zS; rfl) | (apply zO; rfl) | (apply zF; rfl; rfl; (first | exact ld0 rfl | exact ld1 rfl | exact ld2 rfl); rfl) | (apply yF; rfl; (· repeat' (first | rfl | assumption | apply ac1)); intro _) | (apply zM; rfl; rfl; rfl; rfl; intro _ _) | (apply yH; rfl; rfl; rfl; rfl; intro _ _) | (apply zB; rfl; (intro _; rfl)) | (apply zV; rfl) | (apply WOps.ask; rfl; all_goals (intro hb; first | subst hb | fail_if_success (cases hb))) | (apply zN; rfl; all_goals (intro hb; try subst hb)))
        all_goals first
          | (have q1 := ‹true = true ↔ cmpP BinOp.gtr s.cs[i].v.node _›.1 rfl
             have hq := kgt.1 (.inl (by rw [hnn] at q1; exact q1))
             refine yD (n := (s.cs.take i).length) rfl rfl rfl o9 (List.perm_append_comm_assoc [_, _, _] hv H) (src_one zG rfl) (entsC_cell _) rfl rfl (by omega) ?_
             intro v5 h5 o5
             repeat' (first
               | apply zC | apply zD | (apply zB; rfl; (intro _; rfl)))
             exact ⟨(v5, s.cs.take i ++ [(⟨keyS n x.id, x, mk, mk⟩ : TE KC)], h5, true), zA rfl (zA rfl (zA rfl (zA rfl (zA rfl (zA rfl (zA rfl (zH))))))), subF (by intro f; simp only [AV.cells, pm] <;> omega), lay hq v5 h5 o5⟩)
          | (have q1 := ‹true = true ↔ cmpP BinOp.eql s.cs[i].v.node _›.1 rfl
             have q2 := ‹true = true ↔ cmpS BinOp.gtr s.cs[i].v.id _›.1 rfl
             have hq := kgt.1 (.inr ⟨by rw [hnn] at q1; exact q1, not_leq q2⟩)
             refine yD (n := (s.cs.take i).length) rfl rfl rfl o9 (List.perm_append_comm_assoc [_, _, _] hv H) (src_one zG rfl) (entsC_cell _) rfl rfl (by omega) ?_
             intro v5 h5 o5
             repeat' (first
               | apply zC | apply zD | (apply zB; rfl; (intro _; rfl)))
             exact ⟨(v5, s.cs.take i ++ [(⟨keyS n x.id, x, mk, mk⟩ : TE KC)], h5, true), zA rfl (zA rfl (zA rfl (zA rfl (zA rfl (zA rfl (zA rfl (zH))))))), subF (by intro f; simp only [AV.cells, pm] <;> omega), lay hq v5 h5 o5⟩)
          | (have q1 := eq_of_ff ‹false = true ↔ cmpP BinOp.gtr s.cs[i].v.node _›
             have q2 := eq_of_ff ‹false = true ↔ cmpS BinOp.gtr s.cs[i].v.id _›
             exact ⟨(w, s.cs.take i, hv, false), zA rfl (zA rfl (zA rfl (zA rfl (zA rfl (zA rfl (zA rfl (zH))))))), SubP.refl, no (fun h => by
               rcases kgt.2 h with h | ⟨_, h⟩
               · exact q1 (by rw [hnn]; exact h)
               · exact q2 (gtr_of h))⟩)
          | (have q1 := eq_of_ff ‹false = true ↔ cmpP BinOp.gtr s.cs[i].v.node _›
             have q2 := eq_of_ff ‹false = true ↔ cmpP BinOp.eql s.cs[i].v.node _›
             exact ⟨(w, s.cs.take i, hv, false), zA rfl (zA rfl (zA rfl (zA rfl (zA rfl (zA rfl (zA rfl (zH))))))), SubP.refl, no (fun h => by
               rcases kgt.2 h with h | ⟨h, _⟩
               · exact q1 (by rw [hnn]; exact h)
               · exact q2 (by rw [hnn]; exact h))⟩)
      · repeat' (first
          | apply zC | apply zE | apply zD | apply zJ | (apply zO; rfl) | (apply zB; rfl; (intro _; rfl)) | (apply zV; rfl))
        exact ⟨(w, us, hv, true), zA rfl (zA rfl (zA rfl (zA rfl (zA rfl (zA rfl (zA rfl (zH))))))), SubP.refl, o9, .inr ⟨rfl, by rw [← hput, hd1, List.append_assoc]; rfl, fun x hx => hab x (by rw [hd1]; exact List.mem_cons_of_mem _ hx)⟩, hul⟩
    rintro ⟨w, us, hv, laid⟩ ⟨o9, hst, hul⟩
    simp only at o9 hst hul
    repeat' (first
      | apply zD | (apply zF; rfl; rfl; (first | exact ld0 rfl | exact ld1 rfl | exact ld2 rfl); rfl) | (apply yF; rfl; (· repeat' (first | rfl | assumption | apply ac1)); intro _) | (apply zB; rfl; (intro _; rfl)))
    refine yD (n := us.length) rfl rfl rfl o9 (List.perm_append_comm_assoc [_, _, _] hv H) (src_one zG rfl) (entsC_cell _) rfl rfl (by omega) ?_
    intro v5 h5 o5
    repeat' (first
      | apply zC | apply zD | (apply zR; rfl; rfl; rfl; omega) | (apply zB; rfl; (intro _; rfl)))
    refine WL.le (zA rfl (zA rfl (zA rfl (zA rfl (zA rfl (zA rfl (zH))))))) (yB (H1 := (p4, .row (entC (⟨keyS n x.id, x, mk, ix⟩ : TE KC))) :: (h5 ++ H)) (subF (by intro f; simp only [AV.cells, pm] <;> omega)) (nx v5 (us ++ [s.cs[i]]) h5 laid mk ?_ ?_ (by rw [List.length_append, List.length_singleton]; omega)))
    · rw [List.map_append, List.flatten_append, List.length_append]
      exact o5
    · rcases hst with ⟨rfl, rfl, rfl, hbel⟩ | ⟨rfl, hput, hab⟩
      · exact .inl ⟨rfl, rfl, (List.take_succ_eq_append_getElem hlt).symm, hbel⟩
      · exact .inr ⟨rfl, hput, hab⟩
  · have hge : i = s.cs.length := by
      have h0 := eq_of_ff ‹false = true ↔ cmpP BinOp.lss (Int.ofNat i) (Int.ofNat s.cs.length)›
      simp [cmpP] at h0; omega
    subst hge
    have fin : ∀ (v' : AV) (us' : List (TE KC)) (h' X : HL), us' = putE s.cs (⟨keyS n x.id, x, ix, ix⟩ : TE KC) → OwnSl v' (us'.map entC).flatten us'.length 7 h' → SubP ((wp, .row (refC M v1 v2 v' { s with l3 := maxI s.l3 ix })) :: (h1 ++ (h2 ++ (h' ++ R)))) X →
        ∃ H3, (AV.int IntKind.i64 (Int.ofNat 0) = .int .i64 (.ofNat 0) ∧ RefAt B H3 wp M { s with cs := putE s.cs ⟨keyS n x.id, x, ix, ix⟩, l3 := maxI s.l3 ix } R) ∧ SubP H3 X := fun v' us' h' X e o p => by
      subst e
      exact ⟨_, ⟨rfl, RefAt.ofQ (qs := qs) e1 hp o1 o2 o (List.Perm.refl _)⟩, p⟩
    have pH : ((p4, .row (entC (⟨keyS n x.id, x, mk, ix⟩ : TE KC))) :: (hv ++ H)).Perm ((wp, .row (refC M v1 v2 v3 s)) :: (p4, .row (entC (⟨keyS n x.id, x, mk, ix⟩ : TE KC))) :: (hv ++ (h1 ++ (h2 ++ (h3 ++ R))))) := by
      refine permF ?_
      intro f
      have := sum_perm q f
      simp only [List.map_cons, List.map_append, List.sum_cons, List.sum_append] at this ⊢
      omega
    refine WC.perm pH ?_
    rcases hst with ⟨rfl, rfl, rfl, hbel⟩ | ⟨rfl, hput, hab⟩
    · repeat' (first
        | apply zC | apply zE | apply zD | (apply zS; rfl) | (apply zF; rfl; rfl; (first | exact ld0 rfl | exact ld1 rfl | exact ld2 rfl); rfl) | (apply yF; rfl; (· repeat' (first | rfl | assumption | apply ac1)); intro _) | (apply zB; rfl; (intro _; rfl)))
      refine yD (n := (s.cs.take s.cs.length).length) rfl rfl rfl o9 (List.perm_append_comm_assoc [_, _, _] hv _) (src_one zG rfl) (entsC_cell _) rfl rfl (by omega) ?_
      intro v4 h4 o4
      have o5 : OwnSl v4 ((s.cs ++ [(⟨keyS n x.id, x, mk, mk⟩ : TE KC)]).map entC).flatten (s.cs ++ [(⟨keyS n x.id, x, mk, mk⟩ : TE KC)]).length 7 h4 := by
        rw [List.map_append, List.flatten_append, List.length_append]
        rw [List.take_length] at o4
        exact o4
      repeat' (first
        | apply zC | apply zE | apply zD | (apply zB; rfl; (intro _; rfl)))
      refine zP (cs := refC M v1 v2 v3 s) (cs' := refC M v1 v2 v4 s) rfl rfl perm_back2 (by rw [o5.cells]; rfl) (by rw [o5.cells]; exact allCell_cons o5.cell allCell_nil) (by rw [o5.cells]; rfl) ?_
      repeat' (first
        | apply zC | apply zE | apply zD | apply zL | (apply WOps.clA; rfl; rfl; exact raise64_2 (s := s) c1 c2 o5.cell; rintro _ _ rfl) | (apply zB; rfl; (intro _; rfl)))
      rw [List.take_length] at hbel
      have hpe : s.cs ++ [(⟨keyS n x.id, x, mk, mk⟩ : TE KC)] = putE s.cs (⟨keyS n x.id, x, mk, mk⟩ : TE KC) := by
        have := put_below (Bs := []) (e := (⟨keyS n x.id, x, mk, mk⟩ : TE KC)) hbel
        rw [List.append_nil] at this
        rw [this]; rfl
      exact ⟨trivial, [_], ⟨_, [], rfl, rfl, rfl⟩, fin v4 _ h4 _ hpe o5 (subF (by intro f; simp only [AV.cells, pm] <;> omega))⟩
    · repeat' (first
        | apply zC | apply zE | apply zD | apply zJ | (apply zO; rfl) | (apply zB; rfl; (intro _; rfl)))
      refine zP (cs := refC M v1 v2 v3 s) (cs' := refC M v1 v2 w s) rfl rfl zG (by rw [o9.cells]; rfl) (by rw [o9.cells]; exact allCell_cons o9.cell allCell_nil) (by rw [o9.cells]; rfl) ?_
      repeat' (first
        | apply zC | apply zE | apply zD | apply zL | (apply WOps.clA; rfl; rfl; exact raise64_2 (s := s) c1 c2 o9.cell; rintro _ _ rfl) | (apply zB; rfl; (intro _; rfl)))
      have hpe : us = putE s.cs (⟨keyS n x.id, x, ix, ix⟩ : TE KC) := by
        rw [List.drop_length, List.append_nil] at hput
        exact hput
      exact ⟨trivial, [_], ⟨_, [], rfl, rfl, rfl⟩, fin w _ hv _ hpe o9 (subF (by intro f; simp only [AV.cells, pm] <;> omega))⟩
/-! ### What the steps do -/
theorem nodeS_zero {M : Nat} {s : RS} {node ix : Int} {addr : List Nat} (h : (nodeS M s node addr ix).2 = 0) :
  (0 ≤ node ∧ node < 8) ∧ (nodeS M s node addr ix).1 = { s with ns := putE s.ns ⟨keyN node.toNat, ⟨node, addr⟩, ix, ix⟩, l1 := maxI s.l1 ix } := by
 unfold nodeS at h ⊢
 split at h
 ·cases h
 ·rename_i h1
  split at h
  ·cases h
  ·rename_i h2
   split at h
   ·cases h
   ·rename_i h3
    rw [if_neg h1, if_neg h2, if_neg h3]
    exact ⟨Classical.not_not.1 h1, rfl⟩
theorem serviceS_zero {M : Nat} {s : RS} {x : KS} {ix : Int} (h : (serviceS M s x ix).2 = 0) :
  (0 ≤ x.node ∧ x.node < 8) ∧ (serviceS M s x ix).1 = { s with ss := putE s.ss ⟨keyS x.node.toNat x.id, x, ix, ix⟩, l2 := maxI s.l2 ix } := by
 unfold serviceS at h ⊢
 split at h
 ·rename_i h1; exact absurd h h1
 ·rename_i h1
  split at h
  ·cases h
  ·rename_i h3
   rw [if_neg h1, if_neg h3]
   obtain ⟨⟨n, hn, e⟩, _⟩ := wrongS_zero (Classical.not_not.1 h1)
   exact ⟨by rw [e]; simp only [Int.ofNat_eq_natCast]; omega, rfl⟩
theorem checkS_zero {M : Nat} {s : RS} {x : KC} {ix : Int} (h : (checkS M s x ix).2 = 0) :
  (0 ≤ x.node ∧ x.node < 8) ∧ (checkS M s x ix).1 = { s with cs := putE s.cs ⟨keyS x.node.toNat x.id, x, ix, ix⟩, l3 := maxI s.l3 ix } := by
 unfold checkS at h ⊢
 split at h
 ·rename_i h1; exact absurd h h1
 ·rename_i h1
  split at h
  ·cases h
  ·rename_i h3
   rw [if_neg h1, if_neg h3]
   obtain ⟨⟨n, hn, e⟩, _⟩ := wrongC_zero (Classical.not_not.1 h1)
   exact ⟨by rw [e]; simp only [Int.ofNat_eq_natCast]; omega, rfl⟩
theorem ks_node {M : Nat} {s : RS} {node ix : Int} {addr : List Nat} (ks : KsOk s) : KsOk (nodeS M s node addr ix).1 := by
 by_cases h : (nodeS M s node addr ix).2 = 0
 ·obtain ⟨h1, e⟩ := nodeS_zero h
  rw [e]
  refine ⟨fun y hy => ?_, ks.ks, ks.kc⟩
  rcases mem_put hy with hy | ⟨hk, hv⟩
  ·exact ks.kn y hy
  ·exact ⟨node.toNat, by omega, by rw [hv]; simp only [Int.ofNat_eq_natCast]; omega, hk⟩
 ·have e : (nodeS M s node addr ix).1 = s := by
   unfold nodeS at h ⊢
   split
   ·rfl
   ·split
    ·rfl
    ·split
     ·rfl
     ·rename_i h1 h2 h3
      rw [if_neg h1, if_neg h2, if_neg h3] at h
      exact absurd rfl h
  rw [e]; exact ks
theorem ks_service {M : Nat} {s : RS} {x : KS} {ix : Int} (ks : KsOk s) : KsOk (serviceS M s x ix).1 := by
 by_cases h : (serviceS M s x ix).2 = 0
 ·obtain ⟨h1, e⟩ := serviceS_zero h
  rw [e]
  refine ⟨ks.kn, fun y hy => ?_, ks.kc⟩
  rcases mem_put hy with hy | ⟨hk, hv⟩
  ·exact ks.ks y hy
  ·exact ⟨x.node.toNat, by omega, by rw [hv]; simp only [Int.ofNat_eq_natCast]; omega, by rw [hv]; exact hk⟩
 ·have e : (serviceS M s x ix).1 = s := by
   unfold serviceS at h ⊢
   split
   ·rfl
   ·split
    ·rfl
    ·rename_i h1 h2
     rw [if_neg h1, if_neg h2] at h
     exact absurd rfl h
  rw [e]; exact ks
theorem ks_check {M : Nat} {s : RS} {x : KC} {ix : Int} (ks : KsOk s) : KsOk (checkS M s x ix).1 := by
 by_cases h : (checkS M s x ix).2 = 0
 ·obtain ⟨h1, e⟩ := checkS_zero h
  rw [e]
  refine ⟨ks.kn, ks.ks, fun y hy => ?_⟩
  rcases mem_put hy with hy | ⟨hk, hv⟩
  ·exact ks.kc y hy
  ·exact ⟨x.node.toNat, by omega, by rw [hv]; simp only [Int.ofNat_eq_natCast]; omega, by rw [hv]; exact hk⟩
 ·have e : (checkS M s x ix).1 = s := by
   unfold checkS at h ⊢
   split
   ·rfl
   ·split
    ·rfl
    ·rename_i h1 h2
     rw [if_neg h1, if_neg h2] at h
     exact absurd rfl h
  rw [e]; exact ks
theorem ks_zero : KsOk rs0 := ⟨fun e he => (by cases he), fun e he => (by cases he), fun e he => (by cases he)⟩
theorem RefAt.sub {H R : HL} {wp M : Nat} {s : RS} (h : RefAt B H wp M s R) : SubP R H := by
 obtain ⟨ps, v1, v2, v3, h1, h2, h3, e1, hp, o1, o2, o3, q⟩ := h
 refine ⟨(wp, .row (refC M v1 v2 v3 s)) :: (h1 ++ (h2 ++ h3)), q.trans (permF ?_)⟩
 intro f
 simp only [List.map_cons, List.map_append, List.sum_cons, List.sum_append]
 omega
theorem RefAt.ld {H R : HL} {wp M : Nat} {s : RS} {b : AA} {n : Nat} {l : List AV} (h : RefAt B H wp M s R) (k : Ld B R b n l) : Ld B H b n l := by
 obtain ⟨ps, v1, v2, v3, h1, h2, h3, e1, hp, o1, o2, o3, q⟩ := h
 exact Ld.perm q k.right.right.right.cons
theorem RefAt.sl {H R : HL} {wp M : Nat} {s : RS} {w : AV} {n : Nat} {xs : List (List AV)} (h : RefAt B H wp M s R) (k : SlIs B R w n xs) : SlIs B H w n xs := by
 obtain ⟨ps, v1, v2, v3, h1, h2, h3, e1, hp, o1, o2, o3, q⟩ := h
 exact SlIs.perm q (SlIs.cons (SlIs.right (SlIs.right (SlIs.right k))))
theorem RefAt.permR {H R R' : HL} {wp M : Nat} {s : RS} (h : RefAt B H wp M s R) (p : R.Perm R') : RefAt B H wp M s R' := by
 obtain ⟨ps, v1, v2, v3, h1, h2, h3, e1, hp, o1, o2, o3, q⟩ := h
 exact ⟨ps, v1, v2, v3, h1, h2, h3, e1, hp, o1, o2, o3, q.trans ((((p.append_left _).append_left _).append_left _).cons _)⟩
theorem RefAt.less {H R R1 : HL} {wp M : Nat} {s : RS} (h : RefAt B H wp M s R) (p : SubP R1 R) : ∃ H3, RefAt B H3 wp M s R1 ∧ SubP H3 H := by
 obtain ⟨ps, v1, v2, v3, h1, h2, h3, e1, hp, o1, o2, o3, q⟩ := h
 obtain ⟨X, pX⟩ := p
 refine ⟨_, ⟨ps, v1, v2, v3, h1, h2, h3, e1, hp, o1, o2, o3, List.Perm.refl _⟩, X, q.trans ?_⟩
 refine permF ?_
 intro f
 have := sum_perm pX f
 simp only [List.cons_append, List.map_cons, List.map_append, List.sum_cons, List.sum_append] at this ⊢
 omega
theorem RefAt.last {H R : HL} {wp M : Nat} {s : RS} (h : RefAt B H wp M s R) : ∃ v1 v2 v3 R', Tk H wp (.row (refC M v1 v2 v3 s)) R' ∧ v1.isCell = true ∧ v2.isCell = true ∧ v3.isCell = true ∧ ∀ k1 k2 k3 : Int, RefAt B ((wp, .row (refC M v1 v2 v3 { s with l1 := k1, l2 := k2, l3 := k3 })) :: R') wp M { s with l1 := k1, l2 := k2, l3 := k3 } R := by
 obtain ⟨ps, v1, v2, v3, h1, h2, h3, e1, hp, o1, o2, o3, q⟩ := h
 exact ⟨v1, v2, v3, _, q, o1.cell, o2.cell, o3.cell, fun k1 k2 k3 => ⟨ps, v1, v2, v3, h1, h2, h3, e1, hp, o1, o2, o3, List.Perm.refl _⟩⟩
theorem entN_T (e : TE KN) : AllT [CT.int .i64, CT.str, CT.int .u64, CT.int .u64] (entN e) := ⟨_, _, rfl, ⟨_, rfl⟩, _, _, rfl, ⟨_, rfl⟩, _, _, rfl, ⟨_, rfl⟩, _, _, rfl, ⟨_, rfl⟩, rfl⟩
theorem entC_T (e : TE KC) : AllT [CT.int .i64, CT.str, CT.str, CT.str, CT.int .i64, CT.int .u64, CT.int .u64] (entC e) := ⟨_, _, rfl, ⟨_, rfl⟩, _, _, rfl, ⟨_, rfl⟩, _, _, rfl, ⟨_, rfl⟩, _, _, rfl, ⟨_, rfl⟩, _, _, rfl, ⟨_, rfl⟩, _, _, rfl, ⟨_, rfl⟩, _, _, rfl, ⟨_, rfl⟩, rfl⟩
section rules
variable {T : Tr FnI} {t : EL} {H : HL} {HH : List (Nat × HL)} {Q : EL → HL → Prop} {k : Nat} {g : Option (Nat × Bool)} {x y : AO}
theorem WD.neN {os : List DOper} {i bs : Nat} {e : TE KN} (hg : wantedL g t = some true) (hx : gl t x = some (.agg (entN e))) (hy : gl t y = some (.agg (entN e)))
  (w : WD B tab os ((k, .bool false) :: t) H HH Q) : WD B tab (⟨⟨some k, .eq true (.str0 [(0, 1, false), (1, 1, false), (2, 1, false), (3, 1, false)] [.int, .str, .int, .int]) x y, g⟩, .quiet, i, bs⟩ :: os) t H HH Q := by
 refine WD.eqF [CT.int .i64, CT.str, CT.int .u64, CT.int .u64] (c := entN e) (d := entN e) rfl rfl hg hx hy (entN_T _) (entN_T _) fun v hv => ?_
 have : v = false := by rw [Bool.eq_false_iff]; exact fun h => hv.1 h rfl
 rw [this]; exact w
theorem WD.neC {os : List DOper} {i bs : Nat} {e : TE KC} (hg : wantedL g t = some true) (hx : gl t x = some (.agg (entC e))) (hy : gl t y = some (.agg (entC e)))
  (w : WD B tab os ((k, .bool false) :: t) H HH Q) : WD B tab (⟨⟨some k, .eq true (.str0 [(0, 1, false), (1, 1, false), (2, 1, false), (3, 1, false), (4, 1, false), (5, 1, false), (6, 1, false)] [.int, .str, .str, .str, .int, .int, .int]) x y, g⟩, .quiet, i, bs⟩ :: os) t H HH Q := by
 refine WD.eqF [CT.int .i64, CT.str, CT.str, CT.str, CT.int .i64, CT.int .u64, CT.int .u64] (c := entC e) (d := entC e) rfl rfl hg hx hy (entC_T _) (entC_T _) fun v hv => ?_
 have : v = false := by rw [Bool.eq_false_iff]; exact fun h => hv.1 h rfl
 rw [this]; exact w
theorem WD.neT {os : List DOper} {i bs : Nat} {a : List Nat} (hg : wantedL g t = some true) (hx : gl t x = some (.str a)) (hy : gl t y = some (.str a))
  (w : WD B T os ((k, .bool false) :: t) H HH Q) : WD B T (⟨⟨some k, .bin .neq x y, g⟩, .quiet, i, bs⟩ :: os) t H HH Q := WD.cmpT rfl hg hx hy fun v hv => by
 have : v = false := by rw [Bool.eq_false_iff]; exact fun h => hv.1 h rfl
 rw [this]; exact w
theorem WOps.neT {os : List AOper} {Q : EL → HL → Prop} {a : List Nat} (hg : wantedL g t = some true) (hx : gl t x = some (.str a)) (hy : gl t y = some (.str a))
  (w : WOps B T os ((k, .bool false) :: t) H Q) : WOps B T (⟨some k, .bin .neq x y, g⟩ :: os) t H Q := yH rfl hg hx hy fun v hv => by
 have : v = false := by rw [Bool.eq_false_iff]; exact fun h => hv.1 h rfl
 rw [this]; exact w
theorem WOps.neI {os : List AOper} {Q : EL → HL → Prop} {ki : IntKind} {a b : Int} (hg : wantedL g t = some true) (hx : gl t x = some (.int ki a)) (hy : gl t y = some (.int ki b)) (e : a = b)
  (w : WOps B T os ((k, .bool false) :: t) H Q) : WOps B T (⟨some k, .bin .neq x y, g⟩ :: os) t H Q := zM rfl hg hx hy fun v hv => by
 have : v = false := by rw [Bool.eq_false_iff]; exact fun h => hv.1 h e
 rw [this]; exact w
end rules
theorem same82_true {H : HL} {v w : AV} {l : List (List Nat)} (hv : SlIs B H v 1 (l.map strC)) (hw : SlIs B H w 1 (l.map strC)) (hl : l.length ≤ 1000000000) :
  WF B tab (.func 82) [v, w] H fun r H' => H' = H ∧ r = .bool true := by
 refine WF.fnR g82 rfl ?_
 repeat' (first
  | apply zC | apply zE | apply zD | apply zJ | (apply zO; rfl) | apply zK | (apply zU; rfl; rfl; exact hv) | (apply zU; rfl; rfl; exact hw) | (apply WOps.neI; rfl; rfl; rfl; rfl) | (apply zB; rfl; (intro _; rfl)))
 refine yG ?_
 obtain ⟨i, hi⟩ : ∃ i : Nat, i = 0 := ⟨0, rfl⟩
 refine WL.le (t' := [(0, v), (1, w), (5, .int .i64 (.ofNat i))]) (by subst hi; exact zA rfl (zA rfl (zA rfl zH))) ?_
 have hle : i ≤ l.length := by omega
 clear hi
 induction hk : l.length - i using Nat.strongRecOn generalizing i with | _ k ih => ?_
 apply WL.step
 repeat' (first
  | apply zC | apply zE | apply zD | apply zJ | apply zL | apply zZ | apply zK | apply zT | (apply zU; rfl; rfl; exact hv) | (apply zM; rfl; rfl; rfl; rfl; intro _ _) | (apply zB; rfl; (intro _; rfl)) | (apply zQ; rfl; (intro _; rfl)) | (apply zN; rfl; all_goals (intro hb; try subst hb)))
 all_goals rw [List.length_map] at *
 ·have hlt : i < l.length := by
   have h0 := ‹true = true ↔ cmpP BinOp.lss (Int.ofNat i) (Int.ofNat l.length)›.1 rfl
   simp [cmpP] at h0; omega
  have hc : (l.map strC)[i]? = some (strC l[i]) := by rw [List.getElem?_map, List.getElem?_eq_getElem hlt]; rfl
  repeat' (first
   | apply zC | apply zD | apply zJ | (apply zO; rfl) | apply zW | (apply WD.ixSl; rfl; rfl; rfl; exact hv; exact hc; intro a1 l1) | (apply WD.ixSl; rfl; rfl; rfl; exact hw; exact hc; intro a2 l2) | (apply zI; rfl; · repeat' (first | refine at1 ?_ rfl | apply at2 | exact same0 | refine same1 ?_ rfl | apply same2 | exact rd_ld rfl (l1 _ hv) rfl)) | (apply zI; rfl; · repeat' (first | refine at1 ?_ rfl | apply at2 | exact same0 | refine same1 ?_ rfl | apply same2 | exact rd_ld rfl (l2 _ hw) rfl)) | (apply WD.neT; rfl; rfl; rfl) | (apply zR; rfl; rfl; rfl; omega) | (apply zB; rfl; (intro _; rfl)) | (apply zQ; rfl; (intro _; rfl)))
  exact WL.le (zA rfl (zA rfl (zA rfl zH))) (ih _ (by omega) (i + 1) (by omega) rfl)
 ·exact ⟨trivial, List.Sublist.refl _, [_], ⟨_, [], rfl, rfl, rfl⟩, rfl⟩
theorem same36_true {H : HL} {v w : AV} {l : List (TE KN)} (hv : SlIs B H v 4 (l.map entN)) (hw : SlIs B H w 4 (l.map entN)) (hl : l.length ≤ 1000000000) :
  WF B tab (.func 36) [v, w] H fun r H' => H' = H ∧ r = .bool true := by
 refine WF.fnR g36 rfl ?_
 repeat' (first
  | apply zC | apply zE | apply zD | apply zJ | (apply zO; rfl) | apply zK | (apply zU; rfl; rfl; exact hv) | (apply zU; rfl; rfl; exact hw) | (apply WOps.neI; rfl; rfl; rfl; rfl) | (apply zB; rfl; (intro _; rfl)))
 refine yG ?_
 obtain ⟨i, hi⟩ : ∃ i : Nat, i = 0 := ⟨0, rfl⟩
 refine WL.le (t' := [(0, v), (1, w), (5, .int .i64 (.ofNat i))]) (by subst hi; exact zA rfl (zA rfl (zA rfl zH))) ?_
 have hle : i ≤ l.length := by omega
 clear hi
 induction hk : l.length - i using Nat.strongRecOn generalizing i with | _ k ih => ?_
 apply WL.step
 repeat' (first
  | apply zC | apply zE | apply zD | apply zJ | apply zL | apply zZ | apply zK | apply zT | (apply zU; rfl; rfl; exact hv) | (apply zM; rfl; rfl; rfl; rfl; intro _ _) | (apply zB; rfl; (intro _; rfl)) | (apply zQ; rfl; (intro _; rfl)) | (apply zN; rfl; all_goals (intro hb; try subst hb)))
 all_goals rw [List.length_map] at *
 ·have hlt : i < l.length := by
   have h0 := ‹true = true ↔ cmpP BinOp.lss (Int.ofNat i) (Int.ofNat l.length)›.1 rfl
   simp [cmpP] at h0; omega
  have hc : (l.map entN)[i]? = some (entN l[i]) := by rw [List.getElem?_map, List.getElem?_eq_getElem hlt]; rfl
  repeat' (first
   | apply zC | apply zD | apply zJ | (apply zO; rfl) | apply zW | (apply WD.ixSl; rfl; rfl; rfl; exact hv; exact hc; intro a1 l1) | (apply WD.ixSl; rfl; rfl; rfl; exact hw; exact hc; intro a2 l2) | (apply zI; rfl; · repeat' (first | refine at1 ?_ rfl | apply at2 | exact same0 | refine same1 ?_ rfl | apply same2 | exact rd_ld rfl (l1 _ hv) rfl)) | (apply zI; rfl; · repeat' (first | refine at1 ?_ rfl | apply at2 | exact same0 | refine same1 ?_ rfl | apply same2 | exact rd_ld rfl (l2 _ hw) rfl)) | (apply WD.neN (e := l[i]); rfl; rfl; rfl) | (apply zR; rfl; rfl; rfl; omega) | (apply zB; rfl; (intro _; rfl)) | (apply zQ; rfl; (intro _; rfl)))
  exact WL.le (zA rfl (zA rfl (zA rfl zH))) (ih _ (by omega) (i + 1) (by omega) rfl)
 ·exact ⟨trivial, List.Sublist.refl _, [_], ⟨_, [], rfl, rfl, rfl⟩, rfl⟩
theorem same38_true {H : HL} {v w : AV} {l : List (TE KC)} (hv : SlIs B H v 7 (l.map entC)) (hw : SlIs B H w 7 (l.map entC)) (hl : l.length ≤ 1000000000) :
  WF B tab (.func 38) [v, w] H fun r H' => H' = H ∧ r = .bool true := by
 refine WF.fnR g38 rfl ?_
 repeat' (first
  | apply zC | apply zE | apply zD | apply zJ | (apply zO; rfl) | apply zK | (apply zU; rfl; rfl; exact hv) | (apply zU; rfl; rfl; exact hw) | (apply WOps.neI; rfl; rfl; rfl; rfl) | (apply zB; rfl; (intro _; rfl)))
 refine yG ?_
 obtain ⟨i, hi⟩ : ∃ i : Nat, i = 0 := ⟨0, rfl⟩
 refine WL.le (t' := [(0, v), (1, w), (5, .int .i64 (.ofNat i))]) (by subst hi; exact zA rfl (zA rfl (zA rfl zH))) ?_
 have hle : i ≤ l.length := by omega
 clear hi
 induction hk : l.length - i using Nat.strongRecOn generalizing i with | _ k ih => ?_
 apply WL.step
 repeat' (first
  | apply zC | apply zE | apply zD | apply zJ | apply zL | apply zZ | apply zK | apply zT | (apply zU; rfl; rfl; exact hv) | (apply zM; rfl; rfl; rfl; rfl; intro _ _) | (apply zB; rfl; (intro _; rfl)) | (apply zQ; rfl; (intro _; rfl)) | (apply zN; rfl; all_goals (intro hb; try subst hb)))
 all_goals rw [List.length_map] at *
 ·have hlt : i < l.length := by
   have h0 := ‹true = true ↔ cmpP BinOp.lss (Int.ofNat i) (Int.ofNat l.length)›.1 rfl
   simp [cmpP] at h0; omega
  have hc : (l.map entC)[i]? = some (entC l[i]) := by rw [List.getElem?_map, List.getElem?_eq_getElem hlt]; rfl
  repeat' (first
   | apply zC | apply zD | apply zJ | (apply zO; rfl) | apply zW | (apply WD.ixSl; rfl; rfl; rfl; exact hv; exact hc; intro a1 l1) | (apply WD.ixSl; rfl; rfl; rfl; exact hw; exact hc; intro a2 l2) | (apply zI; rfl; · repeat' (first | refine at1 ?_ rfl | apply at2 | exact same0 | refine same1 ?_ rfl | apply same2 | exact rd_ld rfl (l1 _ hv) rfl)) | (apply zI; rfl; · repeat' (first | refine at1 ?_ rfl | apply at2 | exact same0 | refine same1 ?_ rfl | apply same2 | exact rd_ld rfl (l2 _ hw) rfl)) | (apply WD.neC (e := l[i]); rfl; rfl; rfl) | (apply zR; rfl; rfl; rfl; omega) | (apply zB; rfl; (intro _; rfl)) | (apply zQ; rfl; (intro _; rfl)))
  exact WL.le (zA rfl (zA rfl (zA rfl zH))) (ih _ (by omega) (i + 1) (by omega) rfl)
 ·exact ⟨trivial, List.Sublist.refl _, [_], ⟨_, [], rfl, rfl, rfl⟩, rfl⟩
def toldS (p : TE KS × AV) : KS × Int × Int := (p.1.v, p.1.mke, p.1.ix)
set_option maxHeartbeats 2000000 in
theorem same37_true {H : HL} {v w : AV} {ps qs : List (TE KS × AV)} (hv : SlIs B H v 7 (ps.map fun p => entS p.1 p.2)) (hw : SlIs B H w 7 (qs.map fun p => entS p.1 p.2)) (e : ps.map toldS = qs.map toldS)
  (tp : ∀ p, p ∈ ps → TgIn B H p.2 p.1.v.tags) (tq : ∀ p, p ∈ qs → TgIn B H p.2 p.1.v.tags) (hl : ps.length ≤ 1000000000) (ht : ∀ p, p ∈ ps → p.1.v.tags.length ≤ 1000000000) :
  WF B tab (.func 37) [v, w] H fun r H' => H' = H ∧ r = .bool true := by
 have el : ps.length = qs.length := by
  have := congrArg List.length e
  rw [List.length_map, List.length_map] at this
  exact this
 refine zY ?_
 refine WF.fn g37 rfl ?_
 repeat' (first
  | apply zC | apply zE | apply zD | apply zJ | (apply zO; rfl) | apply zK | (apply zU; rfl; rfl; exact hv) | (apply zU; rfl; rfl; exact hw) | (apply WOps.neI; rfl; rfl; rfl; rw [List.length_map, List.length_map, el]) | (apply zB; rfl; (intro _; rfl)))
 refine yG ?_
 obtain ⟨i, hi⟩ : ∃ i : Nat, i = 0 := ⟨0, rfl⟩
 refine WL.le (t' := [(0, v), (1, w), (5, .int .i64 (.ofNat i))]) (by subst hi; exact zA rfl (zA rfl (zA rfl zH))) ?_
 have hle : i ≤ ps.length := by omega
 clear hi
 induction hk : ps.length - i using Nat.strongRecOn generalizing i with | _ k ih => ?_
 apply WL.step
 refine zE (zE (zD ?_))
 repeat' (first
  | apply zC | apply zJ | apply zZ | (apply zU; rfl; rfl; exact hv) | (apply zM; rfl; rfl; rfl; rfl; intro _ _) | (apply zB; rfl; (intro _; rfl)) | (apply zN; rfl; all_goals (intro hb; try subst hb)))
 all_goals rw [List.length_map] at *
 ·have hlt : i < ps.length := by
   have h0 := ‹true = true ↔ cmpP BinOp.lss (Int.ofNat i) (Int.ofNat ps.length)›.1 rfl
   simp [cmpP] at h0; omega
  have hc : (ps.map fun p => entS p.1 p.2)[i]? = some (entS ps[i].1 ps[i].2) := by rw [List.getElem?_map, List.getElem?_eq_getElem hlt]; rfl
  have hd : (qs.map fun p => entS p.1 p.2)[i]? = some (entS (qs[i]'(by omega)).1 (qs[i]'(by omega)).2) := by rw [List.getElem?_map, List.getElem?_eq_getElem (by omega)]; rfl
  have hee : toldS ps[i] = toldS (qs[i]'(by omega)) := by
   have := congrArg (fun l => l[i]?) e
   simp only [List.getElem?_map, List.getElem?_eq_getElem hlt, List.getElem?_eq_getElem (show i < qs.length by omega), Option.map_some, Option.some.injEq] at this
   exact this
  have t1 := tp _ (List.getElem_mem hlt)
  have t2 := tq _ (List.getElem_mem (show i < qs.length by omega))
  have t3 := ht _ (List.getElem_mem hlt)
  generalize ps[i] = p at hc hee t1 t3
  generalize (qs[i]'(by omega)) = q at hd hee t2
  obtain ⟨⟨pk, x, pm, pi⟩, ta⟩ := p
  obtain ⟨⟨qk, y, qm, qi⟩, tb⟩ := q
  simp only [toldS, Prod.mk.injEq] at hee
  obtain ⟨rfl, rfl, rfl⟩ := hee
  have ca := t1.1.cell
  have cb := t2.1.cell
  repeat' (first
   | apply zC | apply zE | apply zD | apply zJ | (apply zO; rfl) | apply zK | apply zT | apply zW | (apply zF; rfl; rfl; (first | exact ld0 rfl | exact ld1 rfl | exact ld2 rfl); rfl) | (apply WD.st; rfl; rfl; rfl; (first | exact tk0 | exact tk1 | exact tk2); rfl; (· repeat' (first | rfl | assumption | apply ac1)); rfl) | (apply WD.alc; rfl; rfl; intro _) | (apply WD.ixSl; rfl; rfl; rfl; exact hv; exact hc; intro a1 l1) | (apply WD.ixSl; rfl; rfl; rfl; exact SlIs.cons (SlIs.cons hw); exact hd; intro a2 l2) | (apply zI; rfl; · repeat' (first | refine at1 ?_ rfl | apply at2 | exact same0 | refine same1 ?_ rfl | apply same2 | exact rd_ld rfl (l1 _ hv) rfl)) | (apply zI; rfl; · repeat' (first | refine at1 ?_ rfl | apply at2 | exact same0 | refine same1 ?_ rfl | apply same2 | exact rd_ld rfl ((by first | exact l2 _ hw | exact l2 _ (SlIs.cons hw) | exact l2 _ (SlIs.cons (SlIs.cons hw)))) rfl)) | (apply WOps.neI; rfl; rfl; rfl; rfl) | (apply WOps.neT; rfl; rfl; rfl) | (apply WOps.clR; rfl; rfl; exact same82_true t1.1.cons.cons t2.1.cons.cons t3; rintro _ rfl) | (apply zR; rfl; rfl; rfl; omega) | (apply zB; rfl; (intro _; rfl)) | (apply zQ; rfl; (intro _; rfl)))
  exact WL.le (zA rfl (zA rfl (zA rfl zH))) (yB (H1 := H) (SubP.of ((List.sublist_cons_self _ _).trans (List.sublist_cons_self _ _))) (ih _ (by omega) (i + 1) (by omega) rfl))
 ·repeat' (first
   | apply zC | apply zE | apply zD | apply zL | (apply zB; rfl; (intro _; rfl)))
  exact ⟨trivial, [_], ⟨_, [], rfl, rfl, rfl⟩, H, ⟨rfl, rfl⟩, SubP.refl⟩
theorem WD.eqA3 {T : Tr FnI} {t : EL} {H : HL} {HH : List (Nat × HL)} {Q : EL → HL → Prop} {os : List DOper} {k : Nat} {g : Option (Nat × Bool)} {i bs : Nat} {x y : AO} {a b c : Int} (hg : wantedL g t = some true) (hx : gl t x = some (.agg [.int .u64 a, .int .u64 b, .int .u64 c])) (hy : gl t y = some (.agg [.int .u64 a, .int .u64 b, .int .u64 c]))
  (w : WD B T os ((k, .bool true) :: t) H HH Q) : WD B T (⟨⟨some k, .eq false (.arr 3 1 false .int) x y, g⟩, .quiet, i, bs⟩ :: os) t H HH Q :=
 zQ (v := .bool true) hg (fun h => by simp [aopL, hx, hy, aEq, pure1, two, eqArr, eqInt, partOf]) w
theorem told_same {s : RS} {ps qs : List (TE KS × AV)} (e1 : ps.map (·.1) = s.ss) (e2 : qs.map (·.1) = s.ss.map (fun e => (⟨[], e.v, e.mke, e.ix⟩ : TE KS))) : qs.map toldS = ps.map toldS := by
 have h1 : qs.map toldS = (qs.map (·.1)).map (fun e => (e.v, e.mke, e.ix)) := by rw [List.map_map]; rfl
 have h2 : ps.map toldS = (ps.map (·.1)).map (fun e => (e.v, e.mke, e.ix)) := by rw [List.map_map]; rfl
 rw [h1, h2, e1, e2, List.map_map]; rfl
set_option maxHeartbeats 4000000 in
theorem same10_ok {H R R2 : HL} {rp a1 a2 a3 wp M : Nat} {s : RS} (ok : RsOk M s) (h : RosAt B H rp a1 a2 a3 M s R) (r : RefAt B H wp M s R2) :
  WF B tab (.func 10) [.ptr ⟨false, rp, 0⟩, .ptr ⟨false, wp, 0⟩] H fun r H' => H' = H ∧ r = .bool true := by
 obtain ⟨ps, v1, v2, v3, e1, hp, row, q1, q2, q3⟩ := r.rd
 have L1 := row.part 1 1 (by omega)
 have L2 := row.part 2 1 (by omega)
 have L3 := row.part 3 1 (by omega)
 have L4 := row.part 4 3 (by omega)
 have n1 : s.ns.length ≤ 1000000000 := by have := ok.n1; have := ok.m2; omega
 have n2 : s.ss.length ≤ 1000000000 := by have := ok.n2; have := ok.m2; omega
 have n3 : s.cs.length ≤ 1000000000 := by have := ok.n3; have := ok.m2; omega
 have ql : ∀ qs : List (TE KS × AV), qs.map (·.1) = s.ss.map (fun e => (⟨[], e.v, e.mke, e.ix⟩ : TE KS)) → qs.length ≤ 1000000000 := fun qs e => by
  have := congrArg List.length e
  rw [List.length_map, List.length_map] at this; omega
 have qt : ∀ qs : List (TE KS × AV), qs.map (·.1) = s.ss.map (fun e => (⟨[], e.v, e.mke, e.ix⟩ : TE KS)) → ∀ p, p ∈ qs → p.1.v.tags.length ≤ 1000000000 := fun qs e p hp => by
  have h1 : p.1 ∈ qs.map (·.1) := List.mem_map_of_mem hp
  rw [e] at h1
  obtain ⟨y, hy, h2⟩ := List.mem_map.1 h1
  have := ok.t y hy
  rw [← h2]; show y.v.tags.length ≤ _; omega
 refine zY ?_
 refine WF.fn g10 rfl ?_
 repeat' (first
  | apply zC | apply zE | apply zD | apply zL | apply zT | apply zW | (apply yI; rfl; rfl; exact told14_at ok h; rintro t9 _ ⟨h9, o9, rfl⟩) | (apply zI; rfl; · repeat' (first | refine at1 ?_ rfl | apply at2 | exact same0 | refine same1 ?_ rfl | apply same2 | exact rd_ld rfl ((by first | exact L1 | exact Ld.right L1)) rfl)) | (apply WD.clR; rfl; rfl; exact same36_true (SlIs.left (entsN_sl o9)) (SlIs.right q1) n1; rintro _ rfl) | (apply yI; rfl; rfl; exact told15_at ok (h.add h9); rintro t11 _ ⟨h11, G11, qs, hqs, o11, hin, rfl⟩) | (apply zI; rfl; · repeat' (first | refine at1 ?_ rfl | apply at2 | exact same0 | refine same1 ?_ rfl | apply same2 | exact rd_ld rfl ((by first | exact L2 | exact Ld.right L2 | exact Ld.right (Ld.right (Ld.right L2)))) rfl)) | (apply WD.clR; rfl; rfl; exact same37_true (SlIs.left (entP_sl o11)) (SlIs.right (SlIs.right (SlIs.right q2))) (told_same e1 hqs) (fun p hp => TgIn.right (TgIn.left (hin p hp))) (fun p hq => TgIn.left (G := []) (hp p hq)) (ql qs hqs) (qt qs hqs); rintro _ rfl) | (apply yI; rfl; rfl; exact told16_at ok (((h.add h9).add G11).add h11); rintro t13 _ ⟨h13, o13, rfl⟩) | (apply zI; rfl; · repeat' (first | refine at1 ?_ rfl | apply at2 | exact same0 | refine same1 ?_ rfl | apply same2 | exact rd_ld rfl ((by first | exact L3 | exact Ld.right L3 | exact Ld.right (Ld.right (Ld.right L3)) | exact Ld.right (Ld.right (Ld.right (Ld.right L3))))) rfl)) | (apply WD.clR; rfl; rfl; exact same38_true (SlIs.left (entsC_sl o13)) (SlIs.right (SlIs.right (SlIs.right (SlIs.right q3)))) n3; rintro _ rfl) | (apply WD.clR; rfl; rfl; exact last21_ok ok ((((h.add h9).add G11).add h11).add h13); rintro _ rfl) | (apply zI; rfl; · repeat' (first | refine at1 ?_ rfl | apply at2 | exact same0 | refine same1 ?_ rfl | apply same2 | exact rd_ld rfl ((by first | exact L4 | exact Ld.right L4 | exact Ld.right (Ld.right (Ld.right L4)) | exact Ld.right (Ld.right (Ld.right (Ld.right L4))))) rfl)) | (apply WD.eqA3; rfl; rfl; rfl) | (apply zB; rfl; (intro _; rfl)) | (apply zQ; rfl; (intro _; rfl)))
 exact ⟨trivial, [_], ⟨_, [], rfl, rfl, rfl⟩, H, ⟨rfl, rfl⟩, h13 ++ (h11 ++ (G11 ++ h9)), permF (by intro f; simp only [pm] <;> omega)⟩
theorem takeN_iff : ∀ {l c : List AV} {n : Nat}, takeN l n = some c → n ≤ l.length ∧ c = l.take n := by
 intro l c n h
 by_cases hn : n ≤ l.length
 ·rw [takeN_of hn] at h
  cases h
  exact ⟨hn, rfl⟩
 ·exfalso
  have key : ∀ (l : List AV) (n : Nat), ¬ n ≤ l.length → takeN l n = none := by
   intro l
   induction l with
   | nil => intro n hn; cases n with
    | zero => exact absurd (Nat.zero_le _) hn
    | succ n => rfl
   | cons x l ih => intro n hn; cases n with
    | zero => exact absurd (Nat.zero_le _) hn
    | succ n => simp only [takeN, ih n (by simpa using hn)]
  rw [key l n hn] at h
  cases h
theorem src_of {v : AV} {esz : Nat} {xs : List (List AV)} (h : SlIs B [] v esz xs) : ∀ {H : HL}, SrcIs B H v esz xs.length xs.flatten := by
 intro H
 rcases h with ⟨rfl, rfl⟩ | ⟨a, rfl, h⟩
 ·exact .inl ⟨rfl, rfl, rfl⟩
 ·refine .inr ⟨a, rfl, ?_⟩
  cases xs with
  | nil => exact .inl ⟨rfl, rfl⟩
  | cons x0 xs0 =>
   right
   have hro : a.ro = true := by
    rcases h 0 x0 rfl with ⟨h1, _⟩ | ⟨_, cs, R, tk, _⟩
    ·exact h1
    ·have := tk.length_eq
     simp at this
   left
   refine ⟨hro, ?_⟩
   have key : ∀ (ys : List (List AV)) (off : Nat), (∀ i c, ys[i]? = some c → takeN ((B a.id).drop (off + i * esz)) esz = some c) → takeN ((B a.id).drop off) (ys.length * esz) = some ys.flatten := by
    intro ys
    induction ys with
    | nil => intro off _; simp [takeN_of]
    | cons y ys ih =>
     intro off hh
     have h0 := takeN_iff (hh 0 y rfl)
     rw [Nat.zero_mul, Nat.add_zero] at h0
     have h1 := takeN_iff (ih (off + esz) fun i c hc => by
      have := hh (i + 1) c (by simpa using hc)
      rw [Nat.succ_mul] at this
      rw [show off + esz + i * esz = off + (i * esz + esz) by omega]
      exact this)
     rw [List.length_drop] at h0 h1
     rw [takeN_of (by rw [List.length_drop, List.length_cons, Nat.succ_mul]; omega), List.length_cons, Nat.succ_mul, Nat.add_comm (ys.length * esz) esz, List.take_add, List.flatten_cons, h1.2, h0.2, List.drop_drop]
   refine key (x0 :: xs0) a.off fun i c hc => ?_
   rcases h i c hc with ⟨_, h2⟩ | ⟨_, cs, R, tk, _⟩
   ·exact h2
   ·have := tk.length_eq
    simp at this
theorem RefAt.ex {H R : HL} {wp M : Nat} {s : RS} (h : RefAt B H wp M s R) : ∃ X, H.Perm (X ++ R) := by
 obtain ⟨ps, v1, v2, v3, h1, h2, h3, e1, hp, o1, o2, o3, q⟩ := h
 refine ⟨(wp, .row (refC M v1 v2 v3 s)) :: (h1 ++ (h2 ++ h3)), q.trans (permF ?_)⟩
 intro f
 simp only [List.map_cons, List.map_append, List.sum_cons, List.sum_append]
 omega
end Go.Proofs.YtgpnpcahcegadaaGreat.RO
