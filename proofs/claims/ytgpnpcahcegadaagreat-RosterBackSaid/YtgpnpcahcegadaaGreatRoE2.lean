/- What the functions do, shown by the logic. -/
import Derived.Test.YtgpnpcahcegadaaGreatRoE
set_option linter.unusedSimpArgs false
set_option linter.unusedVariables false
set_option linter.unusedSectionVars false
set_option maxRecDepth 20000
namespace Go.Proofs.YtgpnpcahcegadaaGreat.RO
open Go.Proofs.YtgpnpcahcegadaaGreat.Abs
variable {B : Nat → List AV}
theorem has_le {s : RS} {M n : Nat} {id : List Nat} {qs : List (TE (KS × AV))} (hq : qs.map (TE.mp Prod.fst) = s.ss) : fullP M s.ss (keyS n id) ↔ ¬ findE s.ss (keyS n id) ≠ none ∧ M ≤ qs.length := by
 unfold fullP
 rw [← hq, List.length_map]
 simp
theorem gtr_of {a b : List Nat} (h : strLess b a = true) : cmpS .gtr a b := by
 rintro (h2 | h2)
 ·exact less_asymm h h2
 ·rw [h2, less_irr] at h; cases h
def entQ (q : TE (KS × AV)) : List AV := svC q.v.1 q.v.2 q.mke q.ix
def pairQ (q : TE (KS × AV)) : TE KS × AV := (q.mp Prod.fst, q.v.2)
def unQ (p : TE KS × AV) : TE (KS × AV) := ⟨p.1.key, (p.1.v, p.2), p.1.mke, p.1.ix⟩
theorem entP_un (ps : List (TE KS × AV)) : entP ps = ((ps.map unQ).map entQ).flatten := by
 unfold entP; rw [List.map_map]; rfl
theorem entQ_pair (qs : List (TE (KS × AV))) : (qs.map entQ).flatten = entP (qs.map pairQ) := by
 unfold entP; rw [List.map_map]; rfl
def QsIn (B : Nat → List AV) (qs : List (TE (KS × AV))) : Prop := ∀ q, q ∈ qs → TgIn B [] q.v.2 q.v.1.tags
theorem QsIn.cell {qs : List (TE (KS × AV))} (h : QsIn B qs) : allCell (qs.map entQ).flatten = true := by
 rw [entQ_pair]
 refine entP_cell (B := B) (G := []) ?_
 intro p hp
 obtain ⟨q, hq, rfl⟩ := List.mem_map.1 hp
 exact h q hq
theorem entQ_sl {v : AV} {qs : List (TE (KS × AV))} {h : HL} (o : OwnSl v (qs.map entQ).flatten qs.length 7 h) : SlIs B h v 7 (qs.map entQ) := by
 have o2 : OwnSl v (qs.map entQ).flatten (qs.map entQ).length 7 h := by simpa using o
 exact OwnSl.sl o2 (by intro c hc; simp only [List.mem_map] at hc; obtain ⟨e, _, rfl⟩ := hc; rfl)
theorem RefAt.toQ {H R : HL} {wp M : Nat} {s : RS} (h : RefAt B H wp M s R) : ∃ (qs : List (TE (KS × AV))) (v1 v2 v3 : AV) (h1 h2 h3 : HL), qs.map (TE.mp Prod.fst) = s.ss ∧ QsIn B qs ∧ OwnSl v1 (s.ns.map entN).flatten s.ns.length 4 h1 ∧ OwnSl v2 (qs.map entQ).flatten qs.length 7 h2 ∧ OwnSl v3 (s.cs.map entC).flatten s.cs.length 7 h3 ∧
  H.Perm ((wp, .row (refC M v1 v2 v3 s)) :: (h1 ++ (h2 ++ (h3 ++ R)))) := by
 obtain ⟨ps, v1, v2, v3, h1, h2, h3, e1, hp, o1, o2, o3, q⟩ := h
 refine ⟨ps.map unQ, v1, v2, v3, h1, h2, h3, by rw [← e1, List.map_map]; rfl, ?_, o1, by rw [← entP_un, List.length_map]; exact o2, o3, q⟩
 intro q hq
 obtain ⟨p, hp2, rfl⟩ := List.mem_map.1 hq
 exact hp p hp2
theorem RefAt.ofQ {H R : HL} {wp M : Nat} {s : RS} {qs : List (TE (KS × AV))} {v1 v2 v3 : AV} {h1 h2 h3 : HL} (e1 : qs.map (TE.mp Prod.fst) = s.ss) (hp : QsIn B qs) (o1 : OwnSl v1 (s.ns.map entN).flatten s.ns.length 4 h1) (o2 : OwnSl v2 (qs.map entQ).flatten qs.length 7 h2) (o3 : OwnSl v3 (s.cs.map entC).flatten s.cs.length 7 h3)
  (q : H.Perm ((wp, .row (refC M v1 v2 v3 s)) :: (h1 ++ (h2 ++ (h3 ++ R))))) : RefAt B H wp M s R := by
 refine ⟨qs.map pairQ, v1, v2, v3, h1, h2, h3, by rw [← e1, List.map_map]; rfl, ?_, o1, by rw [← entQ_pair, List.length_map]; exact o2, o3, q⟩
 intro p hp2
 obtain ⟨q, hq, rfl⟩ := List.mem_map.1 hp2
 exact hp q hq
theorem key_eq {m n : Nat} {a b : List Nat} : (Int.ofNat m = Int.ofNat n ∧ a = b) ↔ keyS m a = keyS n b :=
  ⟨fun ⟨h, h2⟩ => by have : m = n := by { simp only [Int.ofNat_eq_natCast] at h; omega }
                     rw [this, h2], fun h => by obtain ⟨rfl, rfl⟩ := keyS_inj h; exact ⟨rfl, rfl⟩⟩
theorem key_gt {m n : Nat} {a b : List Nat} : (Int.ofNat m > Int.ofNat n ∨ (Int.ofNat m = Int.ofNat n ∧ strLess b a = true)) ↔ strLess (keyS n b) (keyS m a) = true := by
 rw [keyS_less]
 simp only [Int.ofNat_eq_natCast, gt_iff_lt]
 constructor
 ·rintro (h | ⟨h, h2⟩)
  ·left; omega
  ·right; exact ⟨by omega, h2⟩
 ·rintro (h | ⟨h, h2⟩)
  ·left; omega
  ·right; exact ⟨by omega, h2⟩
set_option maxHeartbeats 8000000 in
theorem serviceR_ok {H R : HL} {wp M : Nat} {s : RS} {x : KS} {tv : AV} {jm ji ix : Int} (ok : RsOk M s) (ks : KsOk s) (h : RefAt B H wp M s R) (hx : SvIs B [] x tv) :
    WF B tab (.func 30) [.ptr ⟨false, wp, 0⟩, .agg (svC x tv jm ji), .int .u64 ix] H fun r H' => r = .int .i64 (.ofNat (serviceS M s x ix).2) ∧ RefAt B H' wp M (serviceS M s x ix).1 R := by
  refine zY ?_
  have hh := h
  obtain ⟨qs, v1, v2, v3, h1, h2, h3, e1, hp, o1, o2, o3, q⟩ := h.toQ
  have row : Ld B H ⟨false, wp, 0⟩ 7 (refC M v1 v2 v3 s) := Ld.perm q (Ld.own zG rfl)
  have l0 := row.part 0 1 (by omega)
  have l1 := row.part 2 1 (by omega)
  have s1 : SlIs B H v2 7 (qs.map entQ) := SlIs.perm q (SlIs.cons (SlIs.right (SlIs.left (entQ_sl o2))))
  have hx1 : ∀ {G : HL}, SvIs B G x tv := ⟨SlIs.left hx.t, SrcIs.left hx.u, hx.l, hx.i, hx.n, hx.s⟩
  have ct := hx.t.cell
  have hl : qs.length ≤ 64 := by
    have h1 := ok.n2
    have h2 := ok.m2
    rw [← e1, List.length_map] at h1; omega
  have r1 : Rise qs := (rise_mp (f := Prod.fst)).1 (by rw [e1]; exact ok.r2)
  have hk : ∀ e, e ∈ qs → ∃ m : Nat, m < 8 ∧ e.v.1.node = .ofNat m ∧ e.key = keyS m e.v.1.id := fun e he => ks.ks (e.mp Prod.fst) (by rw [← e1]; exact List.mem_map_of_mem he)
  have c1 := o1.cell
  have c2 := o2.cell
  have c3 := o3.cell
  refine WF.fn g30 rfl ?_
  refine zE (zD ?_)
  repeat' (first
    | apply zC | (apply yC; rfl; rfl; (· repeat' (first | rfl | assumption | apply ac1)); intro _) | (apply zB; rfl; (intro _; rfl)))
  rename_i p4
  refine WC.cut2 (X := Unit) (fun _ => [(0, .ptr ⟨false, wp, 0⟩), (2, .int .u64 ix), (4, .ptr ⟨false, p4, 0⟩)]) (fun _ => (p4, .row (svC x tv jm ji)) :: H) (fun _ => wrongS s x = 0) ?_ ?_
  · repeat' (first
      | apply zC | apply zE | apply zD | apply zJ | apply zL | (apply zF; rfl; rfl; (first | exact ld0 rfl | exact ld1 rfl | exact ld2 rfl); rfl) | (apply WOps.clR; rfl; rfl; exact wrong75_ok ok ks hh.cons hx1; rintro _ rfl) | (apply zM; rfl; rfl; rfl; rfl; intro _ _) | (apply zB; rfl; (intro _; rfl)) | (apply zN; rfl; all_goals (intro hb; try subst hb)))
    · have q1 := ‹true = true ↔ cmpP BinOp.neq _ _›.1 rfl
      simp only [cmpP, Int.ofNat_eq_natCast] at q1
      have e : serviceS M s x ix = (s, wrongS s x) := by unfold serviceS; rw [if_pos (by omega)]
      exact ⟨trivial, [_], ⟨_, [], rfl, rfl, rfl⟩, H, ⟨by rw [e]; rfl, by rw [e]; exact hh⟩, SubP.of (List.sublist_cons_self _ _)⟩
    · have q1 := eq_of_ff ‹false = true ↔ cmpP BinOp.neq _ _›
      simp only [cmpP, Int.ofNat_eq_natCast] at q1
      exact ⟨(), zA rfl (zA rfl (zA rfl (zH))), SubP.refl, by omega⟩
  intro _ hw
  obtain ⟨⟨n, hn8, hnn⟩, hid, htg⟩ := wrongS_zero hw
  have hnn2 : x.node.toNat = n := by rw [hnn]; rfl
  have lb0 : Ld B ((p4, .row (svC x tv jm ji)) :: H) ⟨false, p4, 0⟩ 1 [.int .i64 x.node] := Ld.own zG rfl
  have lb1 : Ld B ((p4, .row (svC x tv jm ji)) :: H) ⟨false, p4, 1⟩ 1 [.str x.id] := Ld.own zG rfl
  rw [hnn] at lb0
  refine WC.cut2 (X := Unit) (fun _ => [(0, .ptr ⟨false, wp, 0⟩), (2, .int .u64 ix), (4, .ptr ⟨false, p4, 0⟩)]) (fun _ => (p4, .row (svC x tv jm ji)) :: H) (fun _ => ¬ fullP M s.ss (keyS n x.id)) ?_ ?_
  · repeat' (first
      | apply zC | apply zE | apply zD | apply zJ | apply zL | (apply zO; rfl) | apply zT | apply zW | (apply zI; rfl; · repeat' (first | refine at1 ?_ rfl | apply at2 | exact same0 | refine same1 ?_ rfl | apply same2 | exact rd_ld rfl (lb0) rfl)) | (apply zI; rfl; · repeat' (first | refine at1 ?_ rfl | apply at2 | exact same0 | refine same1 ?_ rfl | apply same2 | exact rd_ld rfl (lb1) rfl)) | (apply WD.clR; rfl; rfl; exact RefAt.has (n := n) (id := x.id) ok ks hh.cons; rintro _ ⟨bb, rfl, hbb⟩; cases bb) | (apply zI; rfl; · repeat' (first | refine at1 ?_ rfl | apply at2 | exact same0 | refine same1 ?_ rfl | apply same2 | exact rd_ld rfl (l0.cons) rfl)) | (apply zI; rfl; · repeat' (first | refine at1 ?_ rfl | apply at2 | exact same0 | refine same1 ?_ rfl | apply same2 | exact rd_ld rfl (l1.cons) rfl)) | (apply WD.lenS; rfl; rfl; exact SlIs.cons s1) | (apply zB; rfl; (intro _; rfl)) | (apply WD.cmp; rfl; rfl; rfl; rfl; intro _ _) | (apply zQ; rfl; (intro _; rfl)) | (apply WD.skp; rfl) | (apply WD.skpL; rfl) | (apply zN; rfl; all_goals (intro hb; try subst hb)))
    · have q := ‹true = true ↔ cmpP BinOp.geq _ _›.1 rfl
      simp only [cmpP, Int.ofNat_eq_natCast, List.length_map] at q
      have e : serviceS M s x ix = (s, 5) := by unfold serviceS; rw [if_neg (by rw [hw]; simp), hnn2]; exact if_pos ((has_le e1).2 ⟨eq_of_ff hbb, by omega⟩)
      exact ⟨trivial, [_], ⟨_, [], rfl, rfl, rfl⟩, H, ⟨by rw [e]; rfl, by rw [e]; exact hh⟩, SubP.of (List.sublist_cons_self _ _)⟩
    · have q := eq_of_ff ‹false = true ↔ cmpP BinOp.geq _ _›
      simp only [cmpP, Int.ofNat_eq_natCast, List.length_map] at q
      exact ⟨(), zA rfl (zA rfl (zA rfl (zH))), SubP.refl, fun k => by have := ((has_le e1).1 k).2; omega⟩
    · exact ⟨(), zA rfl (zA rfl (zA rfl (zH))), SubP.refl, fun k => ((has_le e1).1 k).1 (hbb.1 rfl)⟩
  intro _ hnf
  have e : serviceS M s x ix = ({ s with ss := putE s.ss ⟨keyS n x.id, x, ix, ix⟩, l2 := maxI s.l2 ix }, 0) := by
    unfold serviceS
    rw [if_neg (by rw [hw]; simp), hnn2]
    exact if_neg hnf
  rw [e]
  clear e hh hnf hw lb0 lb1 hid htg
  repeat' (first
    | apply zC | apply zE | apply zD | apply zK | (apply zP; rfl; rfl; (first | exact tk0 | exact tk1 | exact tk2); rfl; (· repeat' (first | rfl | assumption | apply ac1)); rfl) | (apply zB; rfl; (intro _; rfl)))
  refine yG ?_
  obtain ⟨i, hi⟩ : ∃ i : Nat, i = 0 := ⟨0, rfl⟩
  obtain ⟨w, hw⟩ : ∃ v, v = AV.nilsl := ⟨_, rfl⟩
  obtain ⟨us, hus⟩ : ∃ u : List (TE (KS × AV)), u = [] := ⟨_, rfl⟩
  obtain ⟨hv, hhv⟩ : ∃ h : HL, h = [] := ⟨_, rfl⟩
  obtain ⟨laid, hlaid⟩ : ∃ b : Bool, b = false := ⟨_, rfl⟩
  obtain ⟨mk, hmk⟩ : ∃ m : Int, m = ix := ⟨_, rfl⟩
  refine WL.le (t' := [(0, .ptr ⟨false, wp, 0⟩), (2, .int .u64 ix), (4, .ptr ⟨false, p4, 0⟩), (8, w), (9, .bool laid), (10, .int .i64 (.ofNat i))]) (by subst hi hw hlaid; exact zA rfl (zA rfl (zA rfl (zA rfl (zA rfl (zA rfl (zH))))))) ?_
  refine WL.heq (H' := (p4, .row (entQ (⟨keyS n x.id, (x, tv), mk, ix⟩ : TE (KS × AV)))) :: (hv ++ H)) (by subst hhv hmk; rfl) ?_
  have o9 : OwnSl w (us.map entQ).flatten us.length 7 hv := by subst hus; exact .inl ⟨hw, rfl, rfl, hhv⟩
  have hst : (laid = false ∧ mk = ix ∧ us = qs.take i ∧ AllBelow (qs.take i) (keyS n x.id)) ∨ (laid = true ∧ us ++ qs.drop i = putE qs (⟨keyS n x.id, (x, tv), ix, ix⟩ : TE (KS × AV)) ∧ Above (qs.drop i) (keyS n x.id)) := by
    subst hi hus
    exact .inl ⟨hlaid, hmk, rfl, fun x hx => by simp at hx⟩
  have hul : us.length ≤ i + 1 := by subst hus; simp
  have hin : QsIn B us := by subst hus; intro q hq; cases hq
  have hle : i ≤ qs.length := by omega
  clear hi hw hus hhv hlaid hmk
  induction hm : qs.length - i using Nat.strongRecOn generalizing i w us hv laid mk with | _ k ih => ?_
  apply WL.step
  have lA : ∀ {X : HL}, Ld B (X ++ H) ⟨false, wp, 2⟩ 1 [v2] := Ld.right l1
  have sA : ∀ {X : HL}, SlIs B (X ++ H) v2 7 (qs.map entQ) := SlIs.right s1
  refine zE (zE (zD ?_))
  repeat' (first
    | apply zC | apply zJ | apply zZ | (apply zF; rfl; rfl; exact (lA (X := _ :: hv)); rfl) | (apply zU; rfl; rfl; exact (sA (X := _ :: hv))) | (apply zM; rfl; rfl; rfl; rfl; intro _ _) | (apply zB; rfl; (intro _; rfl)) | (apply zN; rfl; all_goals (intro hb; try subst hb)))
  all_goals rw [List.length_map] at *
  · have hlt : i < qs.length := by
      have h0 := ‹true = true ↔ cmpP BinOp.lss (Int.ofNat i) (Int.ofNat qs.length)›.1 rfl
      simp [cmpP] at h0; omega
    have hcm : (qs.map entQ)[i]? = some (entQ qs[i]) := by rw [List.getElem?_map, List.getElem?_eq_getElem hlt]; rfl
    obtain ⟨m, hm8, hnode, hkey⟩ := hk qs[i] (List.getElem_mem hlt)
    have keq : (qs[i].v.1.node = Int.ofNat n ∧ qs[i].v.1.id = x.id) ↔ qs[i].key = keyS n x.id := by
      rw [hnode, hkey]; exact key_eq
    have kgt : (qs[i].v.1.node > Int.ofNat n ∨ (qs[i].v.1.node = Int.ofNat n ∧ strLess x.id qs[i].v.1.id = true)) ↔ strLess (keyS n x.id) qs[i].key = true := by
      rw [hnode, hkey]; exact key_gt
    have hd1 : qs.drop i = qs[i] :: qs.drop (i + 1) := List.drop_eq_getElem_cons hlt
    have hin1 := hp _ (List.getElem_mem hlt)
    have cte := hin1.1.cell
    have nx : ∀ (w : AV) (us : List (TE (KS × AV))) (hv : HL) (laid : Bool) (mk : Int), OwnSl w (us.map entQ).flatten us.length 7 hv → ((laid = false ∧ mk = ix ∧ us = qs.take (i + 1) ∧ AllBelow (qs.take (i + 1)) (keyS n x.id)) ∨ (laid = true ∧ us ++ qs.drop (i + 1) = putE qs (⟨keyS n x.id, (x, tv), ix, ix⟩ : TE (KS × AV)) ∧ Above (qs.drop (i + 1)) (keyS n x.id))) → us.length ≤ i + 2 → QsIn B us → WL B tab c30.nt none _ [(0, .ptr ⟨false, wp, 0⟩), (2, .int .u64 ix), (4, .ptr ⟨false, p4, 0⟩), (8, w), (9, .bool laid), (10, .int .i64 (.ofNat (i + 1)))] ((p4, .row (entQ (⟨keyS n x.id, (x, tv), mk, ix⟩ : TE (KS × AV)))) :: (hv ++ H)) _ := fun w us hv laid mk o9 hst hul hin => ih _ (by omega) (i + 1) w us hv laid mk o9 hst hul hin (by omega) rfl
    refine zE (zK (zE (zD ?_)))
    repeat' (first
      | apply zC | (apply zP; rfl; rfl; (first | exact tk0 | exact tk1 | exact tk2); rfl; (· repeat' (first | rfl | assumption | apply ac1)); rfl) | (apply yE; rfl; intro _) | (apply zF; rfl; rfl; exact (lA (X := _ :: hv)); rfl) | (apply yA; rfl; rfl; rfl; exact (sA (X := _ :: hv)); exact hcm; intro ax hax) | (apply zF; rfl; rfl; exact hax; rfl) | (apply zB; rfl; (intro _; rfl)))
    rename_i p11
    refine WC.cut2 (X := Unit) (fun _ => [(0, .ptr ⟨false, wp, 0⟩), (2, .int .u64 ix), (4, .ptr ⟨false, p4, 0⟩), (8, w), (9, .bool laid), (10, .int .i64 (.ofNat i)), (11, .ptr ⟨false, p11, 0⟩)]) (fun _ => (p11, .row (entQ qs[i])) :: (p4, .row (entQ (⟨keyS n x.id, (x, tv), mk, ix⟩ : TE (KS × AV)))) :: (hv ++ H)) (fun _ => ¬ qs[i].key = keyS n x.id) ?_ ?_
    · repeat' (first
        | apply zC | apply zE | apply zD | apply zJ | (apply zO; rfl) | (apply zF; rfl; rfl; (first | exact ld0 rfl | exact ld1 rfl | exact ld2 rfl); rfl) | (apply zP; rfl; rfl; (first | exact tk0 | exact tk1 | exact tk2); rfl; (· repeat' (first | rfl | assumption | apply ac1)); rfl) | (apply yF; rfl; (· repeat' (first | rfl | assumption | apply ac1)); intro _) | (apply zM; rfl; rfl; rfl; rfl; intro _ _) | (apply yH; rfl; rfl; rfl; rfl; intro _ _) | (apply zB; rfl; (intro _; rfl)) | (apply zV; rfl) | (apply WOps.ask; rfl; all_goals (intro hb; first | subst hb | fail_if_success (cases hb))) | (apply zN; rfl; all_goals (intro hb; try subst hb)))
      · have qa := ‹true = true ↔ cmpP BinOp.eql qs[i].v.1.node _›.1 rfl
        have qb := ‹true = true ↔ cmpS BinOp.eql qs[i].v.1.id _›.1 rfl
        have hq := keq.1 ⟨qa.trans hnn, qb⟩
        rcases hst with ⟨rfl, rfl, rfl, hbel⟩ | ⟨rfl, hput, hab⟩
        · obtain ⟨st1, st2, st3⟩ := laid_step (e := (⟨keyS n x.id, (x, tv), mk, mk⟩ : TE (KS × AV))) r1 hlt hbel
          obtain ⟨f1, f2, f3⟩ := st1 hq
          refine yD (n := (qs.take i).length) rfl rfl rfl o9 (List.perm_append_comm_assoc [_, _, _] hv H) (src_one zG rfl) (QsIn.cell hin) (by (repeat' (first | exact ac0 | apply ac1)) <;> (first | rfl | assumption)) rfl (by omega) ?_
          intro v5 h5 o5
          repeat' (first
            | apply zC | apply zE | apply zD | apply zZ | (apply zR; rfl; rfl; rfl; omega) | (apply zB; rfl; (intro _; rfl)))
          refine WL.le (zA rfl (zA rfl (zA rfl (zA rfl (zA rfl (zA rfl (zH))))))) (yB (H1 := (p4, .row (entQ (⟨keyS n x.id, (x, tv), qs[i].mke, mk⟩ : TE (KS × AV)))) :: (h5 ++ H)) (subF (by intro f; simp only [entQ, svC, List.map_cons, List.map_append, List.sum_cons, List.sum_append, List.map_nil, List.sum_nil]; omega)) (nx v5 (qs.take i ++ [(⟨keyS n x.id, (x, tv), qs[i].mke, mk⟩ : TE (KS × AV))]) h5 true qs[i].mke ?_ (.inr ⟨rfl, f2, f3⟩) (by rw [List.length_append, List.length_singleton]; omega) (fun q hq => by rcases List.mem_append.1 hq with hq | hq; exact hin q hq; rw [List.mem_singleton] at hq; subst hq; exact ⟨hx.t, hx.u⟩)))
          rw [List.map_append, List.flatten_append, List.length_append]
          exact o5
        · exfalso
          exact less_ne (hab qs[i] (by rw [hd1]; exact List.mem_cons_self)) hq.symm
      · have qb := eq_of_ff ‹false = true ↔ cmpS BinOp.eql qs[i].v.1.id _›
        exact ⟨(), zA rfl (zA rfl (zA rfl (zA rfl (zA rfl (zA rfl (zA rfl (zH))))))), SubP.refl, fun h => qb (keq.2 h).2⟩
      · have qa := eq_of_ff ‹false = true ↔ cmpP BinOp.eql qs[i].v.1.node _›
        exact ⟨(), zA rfl (zA rfl (zA rfl (zA rfl (zA rfl (zA rfl (zA rfl (zH))))))), SubP.refl, fun h => qa ((keq.2 h).1.trans hnn.symm)⟩
    intro _ hne
    refine WC.cut2 (X := AV × List (TE (KS × AV)) × HL × Bool) (fun y => [(0, .ptr ⟨false, wp, 0⟩), (2, .int .u64 ix), (4, .ptr ⟨false, p4, 0⟩), (8, y.1), (9, .bool y.2.2.2), (10, .int .i64 (.ofNat i)), (11, .ptr ⟨false, p11, 0⟩)]) (fun y => (p11, .row (entQ qs[i])) :: (p4, .row (entQ (⟨keyS n x.id, (x, tv), mk, ix⟩ : TE (KS × AV)))) :: (y.2.2.1 ++ H)) (fun y => OwnSl y.1 (y.2.1.map entQ).flatten y.2.1.length 7 y.2.2.1 ∧ ((y.2.2.2 = false ∧ mk = ix ∧ y.2.1 = qs.take i ∧ AllBelow (qs.take (i + 1)) (keyS n x.id)) ∨ (y.2.2.2 = true ∧ (y.2.1 ++ [qs[i]]) ++ qs.drop (i + 1) = putE qs (⟨keyS n x.id, (x, tv), ix, ix⟩ : TE (KS × AV)) ∧ Above (qs.drop (i + 1)) (keyS n x.id))) ∧ y.2.1.length ≤ i + 1 ∧ QsIn B y.2.1) ?_ ?_
    · rcases hst with ⟨rfl, rfl, rfl, hbel⟩ | ⟨rfl, hput, hab⟩
      · obtain ⟨st1, st2, st3⟩ := laid_step (e := (⟨keyS n x.id, (x, tv), mk, mk⟩ : TE (KS × AV))) r1 hlt hbel
        have lay : strLess (keyS n x.id) qs[i].key = true → ∀ (v5 : AV) (h5 : HL), OwnSl v5 (((qs.take i).map entQ).flatten ++ entQ (⟨keyS n x.id, (x, tv), mk, mk⟩ : TE (KS × AV))) ((qs.take i).length + 1) 7 h5 → OwnSl v5 (((qs.take i ++ [(⟨keyS n x.id, (x, tv), mk, mk⟩ : TE (KS × AV))]).map entQ).flatten) (qs.take i ++ [(⟨keyS n x.id, (x, tv), mk, mk⟩ : TE (KS × AV))]).length 7 h5 ∧ ((true = false ∧ mk = mk ∧ (qs.take i ++ [(⟨keyS n x.id, (x, tv), mk, mk⟩ : TE (KS × AV))]) = qs.take i ∧ AllBelow (qs.take (i + 1)) (keyS n x.id)) ∨ (true = true ∧ ((qs.take i ++ [(⟨keyS n x.id, (x, tv), mk, mk⟩ : TE (KS × AV))]) ++ [qs[i]]) ++ qs.drop (i + 1) = putE qs (⟨keyS n x.id, (x, tv), mk, mk⟩ : TE (KS × AV)) ∧ Above (qs.drop (i + 1)) (keyS n x.id))) ∧ (qs.take i ++ [(⟨keyS n x.id, (x, tv), mk, mk⟩ : TE (KS × AV))]).length ≤ i + 1 ∧ QsIn B (qs.take i ++ [(⟨keyS n x.id, (x, tv), mk, mk⟩ : TE (KS × AV))]) := fun hq v5 h5 o5 => by
          obtain ⟨f1, f2, f3⟩ := st2 hq
          refine ⟨?_, .inr ⟨rfl, f2, f3⟩, by rw [List.length_append, List.length_singleton, List.length_take]; omega, fun q hq => by rcases List.mem_append.1 hq with hq | hq; exact hin q hq; rw [List.mem_singleton] at hq; subst hq; exact ⟨hx.t, hx.u⟩⟩
          rw [List.map_append, List.flatten_append, List.length_append]
          simpa using o5
        have no : ¬ strLess (keyS n x.id) qs[i].key = true → OwnSl w (((qs.take i).map entQ).flatten) (qs.take i).length 7 hv ∧ ((false = false ∧ mk = mk ∧ (qs.take i) = qs.take i ∧ AllBelow (qs.take (i + 1)) (keyS n x.id)) ∨ (false = true ∧ ((qs.take i) ++ [qs[i]]) ++ qs.drop (i + 1) = putE qs (⟨keyS n x.id, (x, tv), mk, mk⟩ : TE (KS × AV)) ∧ Above (qs.drop (i + 1)) (keyS n x.id))) ∧ (qs.take i).length ≤ i + 1 ∧ QsIn B (qs.take i) := fun hq => ⟨o9, .inl ⟨rfl, rfl, rfl, st3 hne hq⟩, hul, hin⟩
        repeat' (first
          | apply zC | apply zE | apply zD | apply zJ | (apply zS; rfl) | (apply zO; rfl) | (apply zF; rfl; rfl; (first | exact ld0 rfl | exact ld1 rfl | exact ld2 rfl); rfl) | (apply yF; rfl; (· repeat' (first | rfl | assumption | apply ac1)); intro _) | (apply zM; rfl; rfl; rfl; rfl; intro _ _) | (apply yH; rfl; rfl; rfl; rfl; intro _ _) | (apply zB; rfl; (intro _; rfl)) | (apply zV; rfl) | (apply WOps.ask; rfl; all_goals (intro hb; first | subst hb | fail_if_success (cases hb))) | (apply zN; rfl; all_goals (intro hb; try subst hb)))
        all_goals first
          | (have q1 := ‹true = true ↔ cmpP BinOp.gtr qs[i].v.1.node _›.1 rfl
             have hq := kgt.1 (.inl (by rw [hnn] at q1; exact q1))
             refine yD (n := (qs.take i).length) rfl rfl rfl o9 (List.perm_append_comm_assoc [_, _, _] hv H) (src_one zG rfl) (QsIn.cell hin) (by (repeat' (first | exact ac0 | apply ac1)) <;> (first | rfl | assumption)) rfl (by omega) ?_
             intro v5 h5 o5
             repeat' (first
               | apply zC | apply zD | (apply zB; rfl; (intro _; rfl)))
             exact ⟨(v5, qs.take i ++ [(⟨keyS n x.id, (x, tv), mk, mk⟩ : TE (KS × AV))], h5, true), zA rfl (zA rfl (zA rfl (zA rfl (zA rfl (zA rfl (zA rfl (zH))))))), subF (by intro f; simp only [AV.cells, pm] <;> omega), lay hq v5 h5 o5⟩)
          | (have q1 := ‹true = true ↔ cmpP BinOp.eql qs[i].v.1.node _›.1 rfl
             have q2 := ‹true = true ↔ cmpS BinOp.gtr qs[i].v.1.id _›.1 rfl
             have hq := kgt.1 (.inr ⟨by rw [hnn] at q1; exact q1, not_leq q2⟩)
             refine yD (n := (qs.take i).length) rfl rfl rfl o9 (List.perm_append_comm_assoc [_, _, _] hv H) (src_one zG rfl) (QsIn.cell hin) (by (repeat' (first | exact ac0 | apply ac1)) <;> (first | rfl | assumption)) rfl (by omega) ?_
             intro v5 h5 o5
             repeat' (first
               | apply zC | apply zD | (apply zB; rfl; (intro _; rfl)))
             exact ⟨(v5, qs.take i ++ [(⟨keyS n x.id, (x, tv), mk, mk⟩ : TE (KS × AV))], h5, true), zA rfl (zA rfl (zA rfl (zA rfl (zA rfl (zA rfl (zA rfl (zH))))))), subF (by intro f; simp only [AV.cells, pm] <;> omega), lay hq v5 h5 o5⟩)
          | (have q1 := eq_of_ff ‹false = true ↔ cmpP BinOp.gtr qs[i].v.1.node _›
             have q2 := eq_of_ff ‹false = true ↔ cmpS BinOp.gtr qs[i].v.1.id _›
             exact ⟨(w, qs.take i, hv, false), zA rfl (zA rfl (zA rfl (zA rfl (zA rfl (zA rfl (zA rfl (zH))))))), SubP.refl, no (fun h => by
               rcases kgt.2 h with h | ⟨_, h⟩
               · exact q1 (by rw [hnn]; exact h)
               · exact q2 (gtr_of h))⟩)
          | (have q1 := eq_of_ff ‹false = true ↔ cmpP BinOp.gtr qs[i].v.1.node _›
             have q2 := eq_of_ff ‹false = true ↔ cmpP BinOp.eql qs[i].v.1.node _›
             exact ⟨(w, qs.take i, hv, false), zA rfl (zA rfl (zA rfl (zA rfl (zA rfl (zA rfl (zA rfl (zH))))))), SubP.refl, no (fun h => by
               rcases kgt.2 h with h | ⟨h, _⟩
               · exact q1 (by rw [hnn]; exact h)
               · exact q2 (by rw [hnn]; exact h))⟩)
      · repeat' (first
          | apply zC | apply zE | apply zD | apply zJ | (apply zO; rfl) | (apply zB; rfl; (intro _; rfl)) | (apply zV; rfl))
        exact ⟨(w, us, hv, true), zA rfl (zA rfl (zA rfl (zA rfl (zA rfl (zA rfl (zA rfl (zH))))))), SubP.refl, o9, .inr ⟨rfl, by rw [← hput, hd1, List.append_assoc]; rfl, fun x hx => hab x (by rw [hd1]; exact List.mem_cons_of_mem _ hx)⟩, hul, hin⟩
    rintro ⟨w, us, hv, laid⟩ ⟨o9, hst, hul, hin⟩
    simp only at o9 hst hul hin
    repeat' (first
      | apply zD | (apply zF; rfl; rfl; (first | exact ld0 rfl | exact ld1 rfl | exact ld2 rfl); rfl) | (apply yF; rfl; (· repeat' (first | rfl | assumption | apply ac1)); intro _) | (apply zB; rfl; (intro _; rfl)))
    refine yD (n := us.length) rfl rfl rfl o9 (List.perm_append_comm_assoc [_, _, _] hv H) (src_one zG rfl) (QsIn.cell hin) (by (repeat' (first | exact ac0 | apply ac1)) <;> (first | rfl | assumption)) rfl (by omega) ?_
    intro v5 h5 o5
    repeat' (first
      | apply zC | apply zD | (apply zR; rfl; rfl; rfl; omega) | (apply zB; rfl; (intro _; rfl)))
    refine WL.le (zA rfl (zA rfl (zA rfl (zA rfl (zA rfl (zA rfl (zH))))))) (yB (H1 := (p4, .row (entQ (⟨keyS n x.id, (x, tv), mk, ix⟩ : TE (KS × AV)))) :: (h5 ++ H)) (subF (by intro f; simp only [AV.cells, pm] <;> omega)) (nx v5 (us ++ [qs[i]]) h5 laid mk ?_ ?_ (by rw [List.length_append, List.length_singleton]; omega) (fun q hq => by rcases List.mem_append.1 hq with hq | hq; exact hin q hq; rw [List.mem_singleton] at hq; subst hq; exact hin1)))
    · rw [List.map_append, List.flatten_append, List.length_append]
      exact o5
    · rcases hst with ⟨rfl, rfl, rfl, hbel⟩ | ⟨rfl, hput, hab⟩
      · exact .inl ⟨rfl, rfl, (List.take_succ_eq_append_getElem hlt).symm, hbel⟩
      · exact .inr ⟨rfl, hput, hab⟩
  · have hge : i = qs.length := by
      have h0 := eq_of_ff ‹false = true ↔ cmpP BinOp.lss (Int.ofNat i) (Int.ofNat qs.length)›
      simp [cmpP] at h0; omega
    subst hge
    have fin : ∀ (v' : AV) (us' : List (TE (KS × AV))) (h' X : HL), us' = putE qs (⟨keyS n x.id, (x, tv), ix, ix⟩ : TE (KS × AV)) → QsIn B us' → OwnSl v' (us'.map entQ).flatten us'.length 7 h' → SubP ((wp, .row (refC M v1 v' v3 { s with l2 := maxI s.l2 ix })) :: (h1 ++ (h' ++ (h3 ++ R)))) X →
        ∃ H3, (AV.int IntKind.i64 (Int.ofNat 0) = .int .i64 (.ofNat 0) ∧ RefAt B H3 wp M { s with ss := putE s.ss ⟨keyS n x.id, x, ix, ix⟩, l2 := maxI s.l2 ix } R) ∧ SubP H3 X := fun v' us' h' X e hq o p => by
      subst e
      exact ⟨_, ⟨rfl, RefAt.ofQ (qs := putE qs (⟨keyS n x.id, (x, tv), ix, ix⟩ : TE (KS × AV))) (by rw [put_mp, e1]; rfl) hq o1 o o3 (List.Perm.refl _)⟩, p⟩
    have pH : ((p4, .row (entQ (⟨keyS n x.id, (x, tv), mk, ix⟩ : TE (KS × AV)))) :: (hv ++ H)).Perm ((wp, .row (refC M v1 v2 v3 s)) :: (p4, .row (entQ (⟨keyS n x.id, (x, tv), mk, ix⟩ : TE (KS × AV)))) :: (hv ++ (h1 ++ (h2 ++ (h3 ++ R))))) := by
      refine permF ?_
      intro f
      have := sum_perm q f
      simp only [List.map_cons, List.map_append, List.sum_cons, List.sum_append] at this ⊢
      omega
    refine WC.perm pH ?_
    rcases hst with ⟨rfl, rfl, rfl, hbel⟩ | ⟨rfl, hput, hab⟩
    · repeat' (first
        | apply zC | apply zE | apply zD | (apply zS; rfl) | (apply zF; rfl; rfl; (first | exact ld0 rfl | exact ld1 rfl | exact ld2 rfl); rfl) | (apply yF; rfl; (· repeat' (first | rfl | assumption | apply ac1)); intro _) | (apply zB; rfl; (intro _; rfl)))
      refine yD (n := (qs.take qs.length).length) rfl rfl rfl o9 (List.perm_append_comm_assoc [_, _, _] hv _) (src_one zG rfl) (QsIn.cell hin) (by (repeat' (first | exact ac0 | apply ac1)) <;> (first | rfl | assumption)) rfl (by omega) ?_
      intro v4 h4 o4
      have o5 : OwnSl v4 ((qs ++ [(⟨keyS n x.id, (x, tv), mk, mk⟩ : TE (KS × AV))]).map entQ).flatten (qs ++ [(⟨keyS n x.id, (x, tv), mk, mk⟩ : TE (KS × AV))]).length 7 h4 := by
        rw [List.map_append, List.flatten_append, List.length_append]
        rw [List.take_length] at o4
        exact o4
      repeat' (first
        | apply zC | apply zE | apply zD | (apply zB; rfl; (intro _; rfl)))
      refine zP (cs := refC M v1 v2 v3 s) (cs' := refC M v1 v4 v3 s) rfl rfl perm_back2 (by rw [o5.cells]; rfl) (by rw [o5.cells]; exact allCell_cons o5.cell allCell_nil) (by rw [o5.cells]; rfl) ?_
      repeat' (first
        | apply zC | apply zE | apply zD | apply zL | (apply WOps.clA; rfl; rfl; exact raise64_1 (s := s) c1 o5.cell c3; rintro _ _ rfl) | (apply zB; rfl; (intro _; rfl)))
      rw [List.take_length] at hbel
      have hpe : qs ++ [(⟨keyS n x.id, (x, tv), mk, mk⟩ : TE (KS × AV))] = putE qs (⟨keyS n x.id, (x, tv), mk, mk⟩ : TE (KS × AV)) := by
        have := put_below (Bs := []) (e := (⟨keyS n x.id, (x, tv), mk, mk⟩ : TE (KS × AV))) hbel
        rw [List.append_nil] at this
        rw [this]; rfl
      exact ⟨trivial, [_], ⟨_, [], rfl, rfl, rfl⟩, fin v4 _ h4 _ hpe (fun q hq => by rcases List.mem_append.1 hq with hq | hq; exact hp q hq; rw [List.mem_singleton] at hq; subst hq; exact ⟨hx.t, hx.u⟩) o5 (subF (by intro f; simp only [AV.cells, pm] <;> omega))⟩
    · repeat' (first
        | apply zC | apply zE | apply zD | apply zJ | (apply zO; rfl) | (apply zB; rfl; (intro _; rfl)))
      refine zP (cs := refC M v1 v2 v3 s) (cs' := refC M v1 w v3 s) rfl rfl zG (by rw [o9.cells]; rfl) (by rw [o9.cells]; exact allCell_cons o9.cell allCell_nil) (by rw [o9.cells]; rfl) ?_
      repeat' (first
        | apply zC | apply zE | apply zD | apply zL | (apply WOps.clA; rfl; rfl; exact raise64_1 (s := s) c1 o9.cell c3; rintro _ _ rfl) | (apply zB; rfl; (intro _; rfl)))
      have hpe : us = putE qs (⟨keyS n x.id, (x, tv), ix, ix⟩ : TE (KS × AV)) := by
        rw [List.drop_length, List.append_nil] at hput
        exact hput
      exact ⟨trivial, [_], ⟨_, [], rfl, rfl, rfl⟩, fin w _ hv _ hpe hin o9 (subF (by intro f; simp only [AV.cells, pm] <;> omega))⟩
end Go.Proofs.YtgpnpcahcegadaaGreat.RO
