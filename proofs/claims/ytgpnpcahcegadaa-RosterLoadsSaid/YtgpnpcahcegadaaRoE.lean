/- What the functions do, shown by the logic. -/
import Derived.Test.YtgpnpcahcegadaaRoD
set_option linter.unusedSimpArgs false
set_option linter.unusedVariables false
set_option maxRecDepth 20000
namespace Go.Proofs.Ytgpnpcahcegadaa.RO
open Go.Proofs.Ytgpnpcahcegadaa.Abs
variable {B : Nat → List AV}
theorem has_le {s : RS} {M n : Nat} {id : List Nat} {qs : List (TE (KS × AV))} (hq : qs.map (TE.mp Prod.fst) = s.ss) : fullP M s.ss (keyS n id) ↔ ¬ findE s.ss (keyS n id) ≠ none ∧ M ≤ qs.length := by
  unfold fullP
  rw [← hq, List.length_map]
  simp
theorem gtr_of {a b : List Nat} (h : strLess b a = true) : cmpS .gtr a b := by
  rintro (h2 | h2)
  · exact less_asymm h h2
  · rw [h2, less_irr] at h; cases h
def entQ (q : TE (KS × AV)) : List AV := svC q.v.1 q.v.2 q.mke q.ix
def pairQ (q : TE (KS × AV)) : TE KS × AV := (q.mp Prod.fst, q.v.2)
def unQ (p : TE KS × AV) : TE (KS × AV) := ⟨p.1.key, (p.1.v, p.2), p.1.mke, p.1.ix⟩
theorem entP_un (ps : List (TE KS × AV)) : entP ps = ((ps.map unQ).map entQ).flatten := by
  unfold entP; rw [List.map_map]; rfl
theorem entQ_pair (qs : List (TE (KS × AV))) : (qs.map entQ).flatten = entP (qs.map pairQ) := by
  unfold entP; rw [List.map_map]; rfl
def QsIn (B : Nat → List AV) (qs : List (TE (KS × AV))) : Prop := ∀ q, q ∈ qs → TgIn B [] q.v.2 q.v.1.tags
theorem QsIn.cell {qs : List (TE (KS × AV))} (h : QsIn B qs) : allCell (qs.map entQ).flatten = true := by
  rw [entQ_pair]
  refine entP_cell (B := B) (G := []) ?_
  intro p hp
  obtain ⟨q, hq, rfl⟩ := List.mem_map.1 hp
  exact h q hq
theorem entQ_len (qs : List (TE (KS × AV))) : (qs.map entQ).flatten.length = qs.length * 7 := by
  rw [entQ_pair, entP_len, List.length_map]
theorem entQ_sl {v : AV} {qs : List (TE (KS × AV))} {h : HL} (o : OwnSl v (qs.map entQ).flatten qs.length 7 h) : SlIs B h v 7 (qs.map entQ) := by
  have o2 : OwnSl v (qs.map entQ).flatten (qs.map entQ).length 7 h := by simpa using o
  exact OwnSl.sl o2 (by intro c hc; simp only [List.mem_map] at hc; obtain ⟨e, _, rfl⟩ := hc; rfl)
theorem entQ_app {qs : List (TE (KS × AV))} {q : TE (KS × AV)} : ((qs ++ [q]).map entQ).flatten = (qs.map entQ).flatten ++ entQ q := by simp
theorem RefAt.toQ {H R : HL} {wp M : Nat} {s : RS} (h : RefAt B H wp M s R) : ∃ (qs : List (TE (KS × AV))) (v1 v2 v3 : AV) (h1 h2 h3 : HL), qs.map (TE.mp Prod.fst) = s.ss ∧ QsIn B qs ∧ OwnSl v1 (s.ns.map entN).flatten s.ns.length 4 h1 ∧ OwnSl v2 (qs.map entQ).flatten qs.length 7 h2 ∧ OwnSl v3 (s.cs.map entC).flatten s.cs.length 7 h3 ∧
    H.Perm ((wp, .row (refC M v1 v2 v3 s)) :: (h1 ++ (h2 ++ (h3 ++ R)))) := by
  obtain ⟨ps, v1, v2, v3, h1, h2, h3, e1, hp, o1, o2, o3, q⟩ := h
  refine ⟨ps.map unQ, v1, v2, v3, h1, h2, h3, by rw [← e1, List.map_map]; rfl, ?_, o1, by rw [← entP_un, List.length_map]; exact o2, o3, q⟩
  intro q hq
  obtain ⟨p, hp2, rfl⟩ := List.mem_map.1 hq
  exact hp p hp2
theorem RefAt.ofQ {H R : HL} {wp M : Nat} {s : RS} {qs : List (TE (KS × AV))} {v1 v2 v3 : AV} {h1 h2 h3 : HL} (e1 : qs.map (TE.mp Prod.fst) = s.ss) (hp : QsIn B qs) (o1 : OwnSl v1 (s.ns.map entN).flatten s.ns.length 4 h1) (o2 : OwnSl v2 (qs.map entQ).flatten qs.length 7 h2) (o3 : OwnSl v3 (s.cs.map entC).flatten s.cs.length 7 h3)
    (q : H.Perm ((wp, .row (refC M v1 v2 v3 s)) :: (h1 ++ (h2 ++ (h3 ++ R))))) : RefAt B H wp M s R := by
  refine ⟨qs.map pairQ, v1, v2, v3, h1, h2, h3, by rw [← e1, List.map_map]; rfl, ?_, o1, by rw [← entQ_pair, List.length_map]; exact o2, o3, q⟩
  intro p hp2
  obtain ⟨q, hq, rfl⟩ := List.mem_map.1 hp2
  exact hp q hq
theorem key_eq {m n : Nat} {a b : List Nat} : (Int.ofNat m = Int.ofNat n ∧ a = b) ↔ keyS m a = keyS n b :=
  ⟨fun ⟨h, h2⟩ => by have : m = n := by { simp only [Int.ofNat_eq_natCast] at h; omega }
                     rw [this, h2], fun h => by obtain ⟨rfl, rfl⟩ := keyS_inj h; exact ⟨rfl, rfl⟩⟩
theorem key_gt {m n : Nat} {a b : List Nat} : (Int.ofNat m > Int.ofNat n ∨ (Int.ofNat m = Int.ofNat n ∧ strLess b a = true)) ↔ strLess (keyS n b) (keyS m a) = true := by
  rw [keyS_less]
  simp only [Int.ofNat_eq_natCast, gt_iff_lt]
  constructor
  · rintro (h | ⟨h, h2⟩)
    · left; omega
    · right; exact ⟨by omega, h2⟩
  · rintro (h | ⟨h, h2⟩)
    · left; omega
    · right; exact ⟨by omega, h2⟩
set_option maxHeartbeats 8000000 in
theorem serviceR_ok {H R : HL} {wp M : Nat} {s : RS} {x : KS} {tv : AV} {jm ji ix : Int} (ok : RsOk M s) (ks : KsOk s) (h : RefAt B H wp M s R) (hx : SvIs B [] x tv) :
    WF B tab (.func 30) [.ptr ⟨false, wp, 0⟩, .agg (svC x tv jm ji), .int .u64 ix] H fun r H' => r = .int .i64 (.ofNat (serviceS M s x ix).2) ∧ RefAt B H' wp M (serviceS M s x ix).1 R := by
  refine WF.lessP ?_
  have hh := h
  obtain ⟨qs, v1, v2, v3, h1, h2, h3, e1, hp, o1, o2, o3, q⟩ := h.toQ
  have row : Ld B H ⟨false, wp, 0⟩ 7 (refC M v1 v2 v3 s) := Ld.perm q (Ld.own Tk.head rfl)
  have l0 := row.part 0 1 (by omega)
  have l1 := row.part 2 1 (by omega)
  have s1 : SlIs B H v2 7 (qs.map entQ) := SlIs.perm q (SlIs.cons (SlIs.right (SlIs.left (entQ_sl o2))))
  have hx1 : ∀ {G : HL}, SvIs B G x tv := ⟨SlIs.left hx.t, SrcIs.left hx.u, hx.l, hx.i, hx.n, hx.s⟩
  have ct := hx.t.cell
  have hl : qs.length ≤ 64 := by
    have h1 := ok.n2
    have h2 := ok.m2
    rw [← e1, List.length_map] at h1; omega
  have r1 : Rise qs := (rise_mp (f := Prod.fst)).1 (by rw [e1]; exact ok.r2)
  have hk : ∀ e, e ∈ qs → ∃ m : Nat, m < 8 ∧ e.v.1.node = .ofNat m ∧ e.key = keyS m e.v.1.id := fun e he => ks.ks (e.mp Prod.fst) (by rw [← e1]; exact List.mem_map_of_mem he)
  have c1 := o1.cell
  have c2 := o2.cell
  have c3 := o3.cell
  refine WF.fn g30 rfl ?_
  refine WC.seq (WC.reg ?_)
  repeat' (first
    | apply WOps.nil | (apply WOps.bx; rfl; rfl; (first | rfl | ((repeat' (first | exact ac0 | apply ac1)) <;> (first | rfl | assumption))); intro _) | (apply WOps.purG; rfl; (intro _; rfl)))
  rename_i p4
  refine WC.cut2 (X := Unit) (fun _ => [(0, .ptr ⟨false, wp, 0⟩), (2, .int .u64 ix), (4, .ptr ⟨false, p4, 0⟩)]) (fun _ => (p4, .row (svC x tv jm ji)) :: H) (fun _ => wrongS s x = 0) ?_ ?_
  · repeat' (first
      | apply WOps.nil | apply WC.seq | apply WC.reg | apply WC.skip | apply WC.ret | (apply WOps.ldG; rfl; rfl; (first | exact ld0 rfl | exact ld1 rfl | exact ld2 rfl); rfl) | (apply WOps.clR; rfl; rfl; exact wrong55_ok ok ks hh.cons hx1; rintro _ rfl) | (apply WOps.cmp; rfl; rfl; rfl; rfl; intro _ _) | (apply WOps.purG; rfl; (intro _; rfl)) | (apply WC.condA; rfl; all_goals (intro hb; try subst hb)))
    · have q1 := ‹true = true ↔ cmpP BinOp.neq _ _›.1 rfl
      simp only [cmpP, Int.ofNat_eq_natCast] at q1
      have e : serviceS M s x ix = (s, wrongS s x) := by unfold serviceS; rw [if_pos (by omega)]
      exact ⟨trivial, [_], ⟨_, [], rfl, rfl, rfl⟩, H, ⟨by rw [e]; rfl, by rw [e]; exact hh⟩, SubP.of (List.sublist_cons_self _ _)⟩
    · have q1 := eq_of_ff ‹false = true ↔ cmpP BinOp.neq _ _›
      simp only [cmpP, Int.ofNat_eq_natCast] at q1
      exact ⟨(), Sub1.cons rfl (Sub1.cons rfl (Sub1.cons rfl (Sub1.nil))), SubP.refl, by omega⟩
  intro _ hw
  obtain ⟨⟨n, hn8, hnn⟩, hid, htg⟩ := wrongS_zero hw
  have hnn2 : x.node.toNat = n := by rw [hnn]; rfl
  have lb0 : Ld B ((p4, .row (svC x tv jm ji)) :: H) ⟨false, p4, 0⟩ 1 [.int .i64 x.node] := Ld.own Tk.head rfl
  have lb1 : Ld B ((p4, .row (svC x tv jm ji)) :: H) ⟨false, p4, 1⟩ 1 [.str x.id] := Ld.own Tk.head rfl
  rw [hnn] at lb0
  refine WC.cut2 (X := Unit) (fun _ => [(0, .ptr ⟨false, wp, 0⟩), (2, .int .u64 ix), (4, .ptr ⟨false, p4, 0⟩)]) (fun _ => (p4, .row (svC x tv jm ji)) :: H) (fun _ => ¬ fullP M s.ss (keyS n x.id)) ?_ ?_
  · repeat' (first
      | apply WOps.nil | apply WC.seq | apply WC.reg | apply WC.skip | apply WC.ret | (apply WC.condF; rfl) | apply WC.dreg | apply WD.nil | (apply WD.load; rfl; (first | (apply at1; exact rd_ld rfl (lb0) rfl; rfl) | (apply at2; exact rd_ld rfl (lb0) rfl; repeat' (first | exact same0 | (apply same1; exact rd_ld rfl (lb0) rfl; rfl) | (apply same2; exact rd_ld rfl (lb0) rfl))))) | (apply WD.load; rfl; (first | (apply at1; exact rd_ld rfl (lb1) rfl; rfl) | (apply at2; exact rd_ld rfl (lb1) rfl; repeat' (first | exact same0 | (apply same1; exact rd_ld rfl (lb1) rfl; rfl) | (apply same2; exact rd_ld rfl (lb1) rfl))))) | (apply WD.clR; rfl; rfl; exact RefAt.has (n := n) (id := x.id) ok ks hh.cons; rintro _ ⟨bb, rfl, hbb⟩; cases bb) | (apply WD.load; rfl; (first | (apply at1; exact rd_ld rfl (l0.cons) rfl; rfl) | (apply at2; exact rd_ld rfl (l0.cons) rfl; repeat' (first | exact same0 | (apply same1; exact rd_ld rfl (l0.cons) rfl; rfl) | (apply same2; exact rd_ld rfl (l0.cons) rfl))))) | (apply WD.load; rfl; (first | (apply at1; exact rd_ld rfl (l1.cons) rfl; rfl) | (apply at2; exact rd_ld rfl (l1.cons) rfl; repeat' (first | exact same0 | (apply same1; exact rd_ld rfl (l1.cons) rfl; rfl) | (apply same2; exact rd_ld rfl (l1.cons) rfl))))) | (apply WD.lenS; rfl; rfl; exact SlIs.cons s1) | (apply WOps.purG; rfl; (intro _; rfl)) | (apply WD.cmp; rfl; rfl; rfl; rfl; intro _ _) | (apply WD.pur; rfl; (intro _; rfl)) | (apply WD.skp; rfl) | (apply WD.skpL; rfl) | (apply WC.condA; rfl; all_goals (intro hb; try subst hb)))
    · have q := ‹true = true ↔ cmpP BinOp.geq _ _›.1 rfl
      simp only [cmpP, Int.ofNat_eq_natCast, List.length_map] at q
      have e : serviceS M s x ix = (s, 5) := by unfold serviceS; rw [if_neg (by rw [hw]; simp), hnn2]; exact if_pos ((has_le e1).2 ⟨eq_of_ff hbb, by omega⟩)
      exact ⟨trivial, [_], ⟨_, [], rfl, rfl, rfl⟩, H, ⟨by rw [e]; rfl, by rw [e]; exact hh⟩, SubP.of (List.sublist_cons_self _ _)⟩
    · have q := eq_of_ff ‹false = true ↔ cmpP BinOp.geq _ _›
      simp only [cmpP, Int.ofNat_eq_natCast, List.length_map] at q
      exact ⟨(), Sub1.cons rfl (Sub1.cons rfl (Sub1.cons rfl (Sub1.nil))), SubP.refl, fun k => by have := ((has_le e1).1 k).2; omega⟩
    · exact ⟨(), Sub1.cons rfl (Sub1.cons rfl (Sub1.cons rfl (Sub1.nil))), SubP.refl, fun k => ((has_le e1).1 k).1 (hbb.1 rfl)⟩
  intro _ hnf
  have e : serviceS M s x ix = ({ s with ss := putE s.ss ⟨keyS n x.id, x, ix, ix⟩, l2 := maxI s.l2 ix }, 0) := by
    unfold serviceS
    rw [if_neg (by rw [hw]; simp), hnn2]
    exact if_neg hnf
  rw [e]
  clear e hh hnf hw lb0 lb1 hid htg
  repeat' (first
    | apply WOps.nil | apply WC.seq | apply WC.reg | apply WC.block | (apply WOps.st; rfl; rfl; (first | exact tk0 | exact tk1 | exact tk2); rfl; (first | rfl | ((repeat' (first | exact ac0 | apply ac1)) <;> (first | rfl | assumption))); rfl) | (apply WOps.purG; rfl; (intro _; rfl)))
  refine WC.loop ?_
  obtain ⟨i, hi⟩ : ∃ i : Nat, i = 0 := ⟨0, rfl⟩
  obtain ⟨w, hw⟩ : ∃ v, v = AV.nilsl := ⟨_, rfl⟩
  obtain ⟨us, hus⟩ : ∃ u : List (TE (KS × AV)), u = [] := ⟨_, rfl⟩
  obtain ⟨hv, hhv⟩ : ∃ h : HL, h = [] := ⟨_, rfl⟩
  obtain ⟨laid, hlaid⟩ : ∃ b : Bool, b = false := ⟨_, rfl⟩
  obtain ⟨mk, hmk⟩ : ∃ m : Int, m = ix := ⟨_, rfl⟩
  refine WL.le (t' := [(0, .ptr ⟨false, wp, 0⟩), (2, .int .u64 ix), (4, .ptr ⟨false, p4, 0⟩), (8, w), (9, .bool laid), (10, .int .i64 (.ofNat i))]) (by subst hi hw hlaid; exact Sub1.cons rfl (Sub1.cons rfl (Sub1.cons rfl (Sub1.cons rfl (Sub1.cons rfl (Sub1.cons rfl (Sub1.nil))))))) ?_
  refine WL.heq (H' := (p4, .row (entQ (⟨keyS n x.id, (x, tv), mk, ix⟩ : TE (KS × AV)))) :: (hv ++ H)) (by subst hhv hmk; rfl) ?_
  have o9 : OwnSl w (us.map entQ).flatten us.length 7 hv := by subst hus; exact .inl ⟨hw, rfl, rfl, hhv⟩
  have hst : (laid = false ∧ mk = ix ∧ us = qs.take i ∧ AllBelow (qs.take i) (keyS n x.id)) ∨ (laid = true ∧ us ++ qs.drop i = putE qs (⟨keyS n x.id, (x, tv), ix, ix⟩ : TE (KS × AV)) ∧ Above (qs.drop i) (keyS n x.id)) := by
    subst hi hus
    exact .inl ⟨hlaid, hmk, rfl, fun x hx => by simp at hx⟩
  have hul : us.length ≤ i + 1 := by subst hus; simp
  have hin : QsIn B us := by subst hus; intro q hq; cases hq
  have hle : i ≤ qs.length := by omega
  clear hi hw hus hhv hlaid hmk
  induction hm : qs.length - i using Nat.strongRecOn generalizing i w us hv laid mk with | _ k ih => ?_
  apply WL.step
  have lA : ∀ {X : HL}, Ld B (X ++ H) ⟨false, wp, 2⟩ 1 [v2] := Ld.right l1
  have sA : ∀ {X : HL}, SlIs B (X ++ H) v2 7 (qs.map entQ) := SlIs.right s1
  refine WC.seq (WC.seq (WC.reg ?_))
  repeat' (first
    | apply WOps.nil | apply WC.skip | apply WC.exit | (apply WOps.ldG; rfl; rfl; exact (lA (X := _ :: hv)); rfl) | (apply WOps.lenS; rfl; rfl; exact (sA (X := _ :: hv))) | (apply WOps.cmp; rfl; rfl; rfl; rfl; intro _ _) | (apply WOps.purG; rfl; (intro _; rfl)) | (apply WC.condA; rfl; all_goals (intro hb; try subst hb)))
  all_goals rw [List.length_map] at *
  · have hlt : i < qs.length := by
      have h0 := ‹true = true ↔ cmpP BinOp.lss (Int.ofNat i) (Int.ofNat qs.length)›.1 rfl
      simp [cmpP] at h0; omega
    have hcm : (qs.map entQ)[i]? = some (entQ qs[i]) := by rw [List.getElem?_map, List.getElem?_eq_getElem hlt]; rfl
    obtain ⟨m, hm8, hnode, hkey⟩ := hk qs[i] (List.getElem_mem hlt)
    have keq : (qs[i].v.1.node = Int.ofNat n ∧ qs[i].v.1.id = x.id) ↔ qs[i].key = keyS n x.id := by
      rw [hnode, hkey]; exact key_eq
    have kgt : (qs[i].v.1.node > Int.ofNat n ∨ (qs[i].v.1.node = Int.ofNat n ∧ strLess x.id qs[i].v.1.id = true)) ↔ strLess (keyS n x.id) qs[i].key = true := by
      rw [hnode, hkey]; exact key_gt
    have hd1 : qs.drop i = qs[i] :: qs.drop (i + 1) := List.drop_eq_getElem_cons hlt
    have hin1 := hp _ (List.getElem_mem hlt)
    have cte := hin1.1.cell
    have nx : ∀ (w : AV) (us : List (TE (KS × AV))) (hv : HL) (laid : Bool) (mk : Int), OwnSl w (us.map entQ).flatten us.length 7 hv → ((laid = false ∧ mk = ix ∧ us = qs.take (i + 1) ∧ AllBelow (qs.take (i + 1)) (keyS n x.id)) ∨ (laid = true ∧ us ++ qs.drop (i + 1) = putE qs (⟨keyS n x.id, (x, tv), ix, ix⟩ : TE (KS × AV)) ∧ Above (qs.drop (i + 1)) (keyS n x.id))) → us.length ≤ i + 2 → QsIn B us → WL B tab c30.nt none _ [(0, .ptr ⟨false, wp, 0⟩), (2, .int .u64 ix), (4, .ptr ⟨false, p4, 0⟩), (8, w), (9, .bool laid), (10, .int .i64 (.ofNat (i + 1)))] ((p4, .row (entQ (⟨keyS n x.id, (x, tv), mk, ix⟩ : TE (KS × AV)))) :: (hv ++ H)) _ := fun w us hv laid mk o9 hst hul hin => ih _ (by omega) (i + 1) w us hv laid mk o9 hst hul hin (by omega) rfl
    refine WC.seq (WC.block (WC.seq (WC.reg ?_)))
    repeat' (first
      | apply WOps.nil | (apply WOps.st; rfl; rfl; (first | exact tk0 | exact tk1 | exact tk2); rfl; (first | rfl | ((repeat' (first | exact ac0 | apply ac1)) <;> (first | rfl | assumption))); rfl) | (apply WOps.alc; rfl; intro _) | (apply WOps.ldG; rfl; rfl; exact (lA (X := _ :: hv)); rfl) | (apply WOps.ixSl; rfl; rfl; rfl; exact (sA (X := _ :: hv)); exact hcm; intro ax hax) | (apply WOps.ldG; rfl; rfl; exact hax; rfl) | (apply WOps.purG; rfl; (intro _; rfl)))
    rename_i p11
    refine WC.cut2 (X := Unit) (fun _ => [(0, .ptr ⟨false, wp, 0⟩), (2, .int .u64 ix), (4, .ptr ⟨false, p4, 0⟩), (8, w), (9, .bool laid), (10, .int .i64 (.ofNat i)), (11, .ptr ⟨false, p11, 0⟩)]) (fun _ => (p11, .row (entQ qs[i])) :: (p4, .row (entQ (⟨keyS n x.id, (x, tv), mk, ix⟩ : TE (KS × AV)))) :: (hv ++ H)) (fun _ => ¬ qs[i].key = keyS n x.id) ?_ ?_
    · repeat' (first
        | apply WOps.nil | apply WC.seq | apply WC.reg | apply WC.skip | (apply WC.condF; rfl) | (apply WOps.ldG; rfl; rfl; (first | exact ld0 rfl | exact ld1 rfl | exact ld2 rfl); rfl) | (apply WOps.st; rfl; rfl; (first | exact tk0 | exact tk1 | exact tk2); rfl; (first | rfl | ((repeat' (first | exact ac0 | apply ac1)) <;> (first | rfl | assumption))); rfl) | (apply WOps.bsl; rfl; (first | rfl | ((repeat' (first | exact ac0 | apply ac1)) <;> (first | rfl | assumption))); intro _) | (apply WOps.cmp; rfl; rfl; rfl; rfl; intro _ _) | (apply WOps.cmpT; rfl; rfl; rfl; rfl; intro _ _) | (apply WOps.purG; rfl; (intro _; rfl)) | (apply WOps.skp; rfl) | (apply WOps.ask; rfl; all_goals (intro hb; first | subst hb | fail_if_success (cases hb))) | (apply WC.condA; rfl; all_goals (intro hb; try subst hb)))
      · have qa := ‹true = true ↔ cmpP BinOp.eql qs[i].v.1.node _›.1 rfl
        have qb := ‹true = true ↔ cmpS BinOp.eql qs[i].v.1.id _›.1 rfl
        have hq := keq.1 ⟨qa.trans hnn, qb⟩
        rcases hst with ⟨rfl, rfl, rfl, hbel⟩ | ⟨rfl, hput, hab⟩
        · obtain ⟨st1, st2, st3⟩ := laid_step (e := (⟨keyS n x.id, (x, tv), mk, mk⟩ : TE (KS × AV))) r1 hlt hbel
          obtain ⟨f1, f2, f3⟩ := st1 hq
          refine WOps.app (n := (qs.take i).length) rfl rfl rfl o9 (List.perm_append_comm_assoc [_, _, _] hv H) (src_one Tk.head rfl) (QsIn.cell hin) (by (repeat' (first | exact ac0 | apply ac1)) <;> (first | rfl | assumption)) rfl (by omega) ?_
          intro v5 h5 o5
          repeat' (first
            | apply WOps.nil | apply WC.seq | apply WC.reg | apply WC.exit | (apply WOps.addN; rfl; rfl; rfl; omega) | (apply WOps.purG; rfl; (intro _; rfl)))
          refine WL.le (Sub1.cons rfl (Sub1.cons rfl (Sub1.cons rfl (Sub1.cons rfl (Sub1.cons rfl (Sub1.cons rfl (Sub1.nil))))))) (WL.lessP (H1 := (p4, .row (entQ (⟨keyS n x.id, (x, tv), qs[i].mke, mk⟩ : TE (KS × AV)))) :: (h5 ++ H)) (subF (by intro f; simp only [entQ, svC, List.map_cons, List.map_append, List.sum_cons, List.sum_append, List.map_nil, List.sum_nil]; omega)) (nx v5 (qs.take i ++ [(⟨keyS n x.id, (x, tv), qs[i].mke, mk⟩ : TE (KS × AV))]) h5 true qs[i].mke ?_ (.inr ⟨rfl, f2, f3⟩) (by rw [List.length_append, List.length_singleton]; omega) (fun q hq => by rcases List.mem_append.1 hq with hq | hq; exact hin q hq; rw [List.mem_singleton] at hq; subst hq; exact ⟨hx.t, hx.u⟩)))
          rw [List.map_append, List.flatten_append, List.length_append]
          exact o5
        · exfalso
          exact less_ne (hab qs[i] (by rw [hd1]; exact List.mem_cons_self)) hq.symm
      · have qb := eq_of_ff ‹false = true ↔ cmpS BinOp.eql qs[i].v.1.id _›
        exact ⟨(), Sub1.cons rfl (Sub1.cons rfl (Sub1.cons rfl (Sub1.cons rfl (Sub1.cons rfl (Sub1.cons rfl (Sub1.cons rfl (Sub1.nil))))))), SubP.refl, fun h => qb (keq.2 h).2⟩
      · have qa := eq_of_ff ‹false = true ↔ cmpP BinOp.eql qs[i].v.1.node _›
        exact ⟨(), Sub1.cons rfl (Sub1.cons rfl (Sub1.cons rfl (Sub1.cons rfl (Sub1.cons rfl (Sub1.cons rfl (Sub1.cons rfl (Sub1.nil))))))), SubP.refl, fun h => qa ((keq.2 h).1.trans hnn.symm)⟩
    intro _ hne
    refine WC.cut2 (X := AV × List (TE (KS × AV)) × HL × Bool) (fun y => [(0, .ptr ⟨false, wp, 0⟩), (2, .int .u64 ix), (4, .ptr ⟨false, p4, 0⟩), (8, y.1), (9, .bool y.2.2.2), (10, .int .i64 (.ofNat i)), (11, .ptr ⟨false, p11, 0⟩)]) (fun y => (p11, .row (entQ qs[i])) :: (p4, .row (entQ (⟨keyS n x.id, (x, tv), mk, ix⟩ : TE (KS × AV)))) :: (y.2.2.1 ++ H)) (fun y => OwnSl y.1 (y.2.1.map entQ).flatten y.2.1.length 7 y.2.2.1 ∧ ((y.2.2.2 = false ∧ mk = ix ∧ y.2.1 = qs.take i ∧ AllBelow (qs.take (i + 1)) (keyS n x.id)) ∨ (y.2.2.2 = true ∧ (y.2.1 ++ [qs[i]]) ++ qs.drop (i + 1) = putE qs (⟨keyS n x.id, (x, tv), ix, ix⟩ : TE (KS × AV)) ∧ Above (qs.drop (i + 1)) (keyS n x.id))) ∧ y.2.1.length ≤ i + 1 ∧ QsIn B y.2.1) ?_ ?_
    · rcases hst with ⟨rfl, rfl, rfl, hbel⟩ | ⟨rfl, hput, hab⟩
      · obtain ⟨st1, st2, st3⟩ := laid_step (e := (⟨keyS n x.id, (x, tv), mk, mk⟩ : TE (KS × AV))) r1 hlt hbel
        have lay : strLess (keyS n x.id) qs[i].key = true → ∀ (v5 : AV) (h5 : HL), OwnSl v5 (((qs.take i).map entQ).flatten ++ entQ (⟨keyS n x.id, (x, tv), mk, mk⟩ : TE (KS × AV))) ((qs.take i).length + 1) 7 h5 → OwnSl v5 (((qs.take i ++ [(⟨keyS n x.id, (x, tv), mk, mk⟩ : TE (KS × AV))]).map entQ).flatten) (qs.take i ++ [(⟨keyS n x.id, (x, tv), mk, mk⟩ : TE (KS × AV))]).length 7 h5 ∧ ((true = false ∧ mk = mk ∧ (qs.take i ++ [(⟨keyS n x.id, (x, tv), mk, mk⟩ : TE (KS × AV))]) = qs.take i ∧ AllBelow (qs.take (i + 1)) (keyS n x.id)) ∨ (true = true ∧ ((qs.take i ++ [(⟨keyS n x.id, (x, tv), mk, mk⟩ : TE (KS × AV))]) ++ [qs[i]]) ++ qs.drop (i + 1) = putE qs (⟨keyS n x.id, (x, tv), mk, mk⟩ : TE (KS × AV)) ∧ Above (qs.drop (i + 1)) (keyS n x.id))) ∧ (qs.take i ++ [(⟨keyS n x.id, (x, tv), mk, mk⟩ : TE (KS × AV))]).length ≤ i + 1 ∧ QsIn B (qs.take i ++ [(⟨keyS n x.id, (x, tv), mk, mk⟩ : TE (KS × AV))]) := fun hq v5 h5 o5 => by
          obtain ⟨f1, f2, f3⟩ := st2 hq
          refine ⟨?_, .inr ⟨rfl, f2, f3⟩, by rw [List.length_append, List.length_singleton, List.length_take]; omega, fun q hq => by rcases List.mem_append.1 hq with hq | hq; exact hin q hq; rw [List.mem_singleton] at hq; subst hq; exact ⟨hx.t, hx.u⟩⟩
          rw [List.map_append, List.flatten_append, List.length_append]
          simpa using o5
        have no : ¬ strLess (keyS n x.id) qs[i].key = true → OwnSl w (((qs.take i).map entQ).flatten) (qs.take i).length 7 hv ∧ ((false = false ∧ mk = mk ∧ (qs.take i) = qs.take i ∧ AllBelow (qs.take (i + 1)) (keyS n x.id)) ∨ (false = true ∧ ((qs.take i) ++ [qs[i]]) ++ qs.drop (i + 1) = putE qs (⟨keyS n x.id, (x, tv), mk, mk⟩ : TE (KS × AV)) ∧ Above (qs.drop (i + 1)) (keyS n x.id))) ∧ (qs.take i).length ≤ i + 1 ∧ QsIn B (qs.take i) := fun hq => ⟨o9, .inl ⟨rfl, rfl, rfl, st3 hne hq⟩, hul, hin⟩
        repeat' (first
          | apply WOps.nil | apply WC.seq | apply WC.reg | apply WC.skip | (apply WC.condT; rfl) | (apply WC.condF; rfl) | (apply WOps.ldG; rfl; rfl; (first | exact ld0 rfl | exact ld1 rfl | exact ld2 rfl); rfl) | (apply WOps.bsl; rfl; (first | rfl | ((repeat' (first | exact ac0 | apply ac1)) <;> (first | rfl | assumption))); intro _) | (apply WOps.cmp; rfl; rfl; rfl; rfl; intro _ _) | (apply WOps.cmpT; rfl; rfl; rfl; rfl; intro _ _) | (apply WOps.purG; rfl; (intro _; rfl)) | (apply WOps.skp; rfl) | (apply WOps.ask; rfl; all_goals (intro hb; first | subst hb | fail_if_success (cases hb))) | (apply WC.condA; rfl; all_goals (intro hb; try subst hb)))
        all_goals first
          | (have q1 := ‹true = true ↔ cmpP BinOp.gtr qs[i].v.1.node _›.1 rfl
             have hq := kgt.1 (.inl (by rw [hnn] at q1; exact q1))
             refine WOps.app (n := (qs.take i).length) rfl rfl rfl o9 (List.perm_append_comm_assoc [_, _, _] hv H) (src_one Tk.head rfl) (QsIn.cell hin) (by (repeat' (first | exact ac0 | apply ac1)) <;> (first | rfl | assumption)) rfl (by omega) ?_
             intro v5 h5 o5
             repeat' (first
               | apply WOps.nil | apply WC.reg | (apply WOps.purG; rfl; (intro _; rfl)))
             exact ⟨(v5, qs.take i ++ [(⟨keyS n x.id, (x, tv), mk, mk⟩ : TE (KS × AV))], h5, true), Sub1.cons rfl (Sub1.cons rfl (Sub1.cons rfl (Sub1.cons rfl (Sub1.cons rfl (Sub1.cons rfl (Sub1.cons rfl (Sub1.nil))))))), subF (by intro f; simp only [AV.cells, List.append_eq, List.map_cons, List.map_nil, List.sum_nil, List.map_append, List.sum_cons, List.sum_append, List.cons_append, List.nil_append, List.append_assoc, List.append_nil]; omega), lay hq v5 h5 o5⟩)
          | (have q1 := ‹true = true ↔ cmpP BinOp.eql qs[i].v.1.node _›.1 rfl
             have q2 := ‹true = true ↔ cmpS BinOp.gtr qs[i].v.1.id _›.1 rfl
             have hq := kgt.1 (.inr ⟨by rw [hnn] at q1; exact q1, not_leq q2⟩)
             refine WOps.app (n := (qs.take i).length) rfl rfl rfl o9 (List.perm_append_comm_assoc [_, _, _] hv H) (src_one Tk.head rfl) (QsIn.cell hin) (by (repeat' (first | exact ac0 | apply ac1)) <;> (first | rfl | assumption)) rfl (by omega) ?_
             intro v5 h5 o5
             repeat' (first
               | apply WOps.nil | apply WC.reg | (apply WOps.purG; rfl; (intro _; rfl)))
             exact ⟨(v5, qs.take i ++ [(⟨keyS n x.id, (x, tv), mk, mk⟩ : TE (KS × AV))], h5, true), Sub1.cons rfl (Sub1.cons rfl (Sub1.cons rfl (Sub1.cons rfl (Sub1.cons rfl (Sub1.cons rfl (Sub1.cons rfl (Sub1.nil))))))), subF (by intro f; simp only [AV.cells, List.append_eq, List.map_cons, List.map_nil, List.sum_nil, List.map_append, List.sum_cons, List.sum_append, List.cons_append, List.nil_append, List.append_assoc, List.append_nil]; omega), lay hq v5 h5 o5⟩)
          | (have q1 := eq_of_ff ‹false = true ↔ cmpP BinOp.gtr qs[i].v.1.node _›
             have q2 := eq_of_ff ‹false = true ↔ cmpS BinOp.gtr qs[i].v.1.id _›
             exact ⟨(w, qs.take i, hv, false), Sub1.cons rfl (Sub1.cons rfl (Sub1.cons rfl (Sub1.cons rfl (Sub1.cons rfl (Sub1.cons rfl (Sub1.cons rfl (Sub1.nil))))))), SubP.refl, no (fun h => by
               rcases kgt.2 h with h | ⟨_, h⟩
               · exact q1 (by rw [hnn]; exact h)
               · exact q2 (gtr_of h))⟩)
          | (have q1 := eq_of_ff ‹false = true ↔ cmpP BinOp.gtr qs[i].v.1.node _›
             have q2 := eq_of_ff ‹false = true ↔ cmpP BinOp.eql qs[i].v.1.node _›
             exact ⟨(w, qs.take i, hv, false), Sub1.cons rfl (Sub1.cons rfl (Sub1.cons rfl (Sub1.cons rfl (Sub1.cons rfl (Sub1.cons rfl (Sub1.cons rfl (Sub1.nil))))))), SubP.refl, no (fun h => by
               rcases kgt.2 h with h | ⟨h, _⟩
               · exact q1 (by rw [hnn]; exact h)
               · exact q2 (by rw [hnn]; exact h))⟩)
      · repeat' (first
          | apply WOps.nil | apply WC.seq | apply WC.reg | apply WC.skip | (apply WC.condF; rfl) | (apply WOps.purG; rfl; (intro _; rfl)) | (apply WOps.skp; rfl))
        exact ⟨(w, us, hv, true), Sub1.cons rfl (Sub1.cons rfl (Sub1.cons rfl (Sub1.cons rfl (Sub1.cons rfl (Sub1.cons rfl (Sub1.cons rfl (Sub1.nil))))))), SubP.refl, o9, .inr ⟨rfl, by rw [← hput, hd1, List.append_assoc]; rfl, fun x hx => hab x (by rw [hd1]; exact List.mem_cons_of_mem _ hx)⟩, hul, hin⟩
    rintro ⟨w, us, hv, laid⟩ ⟨o9, hst, hul, hin⟩
    simp only at o9 hst hul hin
    repeat' (first
      | apply WC.reg | (apply WOps.ldG; rfl; rfl; (first | exact ld0 rfl | exact ld1 rfl | exact ld2 rfl); rfl) | (apply WOps.bsl; rfl; (first | rfl | ((repeat' (first | exact ac0 | apply ac1)) <;> (first | rfl | assumption))); intro _) | (apply WOps.purG; rfl; (intro _; rfl)))
    refine WOps.app (n := us.length) rfl rfl rfl o9 (List.perm_append_comm_assoc [_, _, _] hv H) (src_one Tk.head rfl) (QsIn.cell hin) (by (repeat' (first | exact ac0 | apply ac1)) <;> (first | rfl | assumption)) rfl (by omega) ?_
    intro v5 h5 o5
    repeat' (first
      | apply WOps.nil | apply WC.reg | (apply WOps.addN; rfl; rfl; rfl; omega) | (apply WOps.purG; rfl; (intro _; rfl)))
    refine WL.le (Sub1.cons rfl (Sub1.cons rfl (Sub1.cons rfl (Sub1.cons rfl (Sub1.cons rfl (Sub1.cons rfl (Sub1.nil))))))) (WL.lessP (H1 := (p4, .row (entQ (⟨keyS n x.id, (x, tv), mk, ix⟩ : TE (KS × AV)))) :: (h5 ++ H)) (subF (by intro f; simp only [AV.cells, List.append_eq, List.map_cons, List.map_nil, List.sum_nil, List.map_append, List.sum_cons, List.sum_append, List.cons_append, List.nil_append, List.append_assoc, List.append_nil]; omega)) (nx v5 (us ++ [qs[i]]) h5 laid mk ?_ ?_ (by rw [List.length_append, List.length_singleton]; omega) (fun q hq => by rcases List.mem_append.1 hq with hq | hq; exact hin q hq; rw [List.mem_singleton] at hq; subst hq; exact hin1)))
    · rw [List.map_append, List.flatten_append, List.length_append]
      exact o5
    · rcases hst with ⟨rfl, rfl, rfl, hbel⟩ | ⟨rfl, hput, hab⟩
      · exact .inl ⟨rfl, rfl, (List.take_succ_eq_append_getElem hlt).symm, hbel⟩
      · exact .inr ⟨rfl, hput, hab⟩
  · have hge : i = qs.length := by
      have h0 := eq_of_ff ‹false = true ↔ cmpP BinOp.lss (Int.ofNat i) (Int.ofNat qs.length)›
      simp [cmpP] at h0; omega
    subst hge
    have fin : ∀ (v' : AV) (us' : List (TE (KS × AV))) (h' X : HL), us' = putE qs (⟨keyS n x.id, (x, tv), ix, ix⟩ : TE (KS × AV)) → QsIn B us' → OwnSl v' (us'.map entQ).flatten us'.length 7 h' → SubP ((wp, .row (refC M v1 v' v3 { s with l2 := maxI s.l2 ix })) :: (h1 ++ (h' ++ (h3 ++ R)))) X →
        ∃ H3, (AV.int IntKind.i64 (Int.ofNat 0) = .int .i64 (.ofNat 0) ∧ RefAt B H3 wp M { s with ss := putE s.ss ⟨keyS n x.id, x, ix, ix⟩, l2 := maxI s.l2 ix } R) ∧ SubP H3 X := fun v' us' h' X e hq o p => by
      subst e
      exact ⟨_, ⟨rfl, RefAt.ofQ (qs := putE qs (⟨keyS n x.id, (x, tv), ix, ix⟩ : TE (KS × AV))) (by rw [put_mp, e1]; rfl) hq o1 o o3 (List.Perm.refl _)⟩, p⟩
    have pH : ((p4, .row (entQ (⟨keyS n x.id, (x, tv), mk, ix⟩ : TE (KS × AV)))) :: (hv ++ H)).Perm ((wp, .row (refC M v1 v2 v3 s)) :: (p4, .row (entQ (⟨keyS n x.id, (x, tv), mk, ix⟩ : TE (KS × AV)))) :: (hv ++ (h1 ++ (h2 ++ (h3 ++ R))))) := by
      refine permF ?_
      intro f
      have := sum_perm q f
      simp only [List.map_cons, List.map_append, List.sum_cons, List.sum_append] at this ⊢
      omega
    refine WC.perm pH ?_
    rcases hst with ⟨rfl, rfl, rfl, hbel⟩ | ⟨rfl, hput, hab⟩
    · repeat' (first
        | apply WOps.nil | apply WC.seq | apply WC.reg | (apply WC.condT; rfl) | (apply WOps.ldG; rfl; rfl; (first | exact ld0 rfl | exact ld1 rfl | exact ld2 rfl); rfl) | (apply WOps.bsl; rfl; (first | rfl | ((repeat' (first | exact ac0 | apply ac1)) <;> (first | rfl | assumption))); intro _) | (apply WOps.purG; rfl; (intro _; rfl)))
      refine WOps.app (n := (qs.take qs.length).length) rfl rfl rfl o9 (List.perm_append_comm_assoc [_, _, _] hv _) (src_one Tk.head rfl) (QsIn.cell hin) (by (repeat' (first | exact ac0 | apply ac1)) <;> (first | rfl | assumption)) rfl (by omega) ?_
      intro v4 h4 o4
      have o5 : OwnSl v4 ((qs ++ [(⟨keyS n x.id, (x, tv), mk, mk⟩ : TE (KS × AV))]).map entQ).flatten (qs ++ [(⟨keyS n x.id, (x, tv), mk, mk⟩ : TE (KS × AV))]).length 7 h4 := by
        rw [List.map_append, List.flatten_append, List.length_append]
        rw [List.take_length] at o4
        exact o4
      repeat' (first
        | apply WOps.nil | apply WC.seq | apply WC.reg | (apply WOps.purG; rfl; (intro _; rfl)))
      refine WOps.st (cs := refC M v1 v2 v3 s) (cs' := refC M v1 v4 v3 s) rfl rfl perm_back2 (by rw [o5.cells]; rfl) (by rw [o5.cells]; exact allCell_cons o5.cell allCell_nil) (by rw [o5.cells]; rfl) ?_
      repeat' (first
        | apply WOps.nil | apply WC.seq | apply WC.reg | apply WC.ret | (apply WOps.clA; rfl; rfl; exact raise54_1 (s := s) c1 o5.cell c3; rintro _ _ rfl) | (apply WOps.purG; rfl; (intro _; rfl)))
      rw [List.take_length] at hbel
      have hpe : qs ++ [(⟨keyS n x.id, (x, tv), mk, mk⟩ : TE (KS × AV))] = putE qs (⟨keyS n x.id, (x, tv), mk, mk⟩ : TE (KS × AV)) := by
        have := put_below (Bs := []) (e := (⟨keyS n x.id, (x, tv), mk, mk⟩ : TE (KS × AV))) hbel
        rw [List.append_nil] at this
        rw [this]; rfl
      exact ⟨trivial, [_], ⟨_, [], rfl, rfl, rfl⟩, fin v4 _ h4 _ hpe (fun q hq => by rcases List.mem_append.1 hq with hq | hq; exact hp q hq; rw [List.mem_singleton] at hq; subst hq; exact ⟨hx.t, hx.u⟩) o5 (subF (by intro f; simp only [AV.cells, List.append_eq, List.map_cons, List.map_nil, List.sum_nil, List.map_append, List.sum_cons, List.sum_append, List.cons_append, List.nil_append, List.append_assoc, List.append_nil]; omega))⟩
    · repeat' (first
        | apply WOps.nil | apply WC.seq | apply WC.reg | apply WC.skip | (apply WC.condF; rfl) | (apply WOps.purG; rfl; (intro _; rfl)))
      refine WOps.st (cs := refC M v1 v2 v3 s) (cs' := refC M v1 w v3 s) rfl rfl Tk.head (by rw [o9.cells]; rfl) (by rw [o9.cells]; exact allCell_cons o9.cell allCell_nil) (by rw [o9.cells]; rfl) ?_
      repeat' (first
        | apply WOps.nil | apply WC.seq | apply WC.reg | apply WC.ret | (apply WOps.clA; rfl; rfl; exact raise54_1 (s := s) c1 o9.cell c3; rintro _ _ rfl) | (apply WOps.purG; rfl; (intro _; rfl)))
      have hpe : us = putE qs (⟨keyS n x.id, (x, tv), ix, ix⟩ : TE (KS × AV)) := by
        rw [List.drop_length, List.append_nil] at hput
        exact hput
      exact ⟨trivial, [_], ⟨_, [], rfl, rfl, rfl⟩, fin w _ hv _ hpe hin o9 (subF (by intro f; simp only [AV.cells, List.append_eq, List.map_cons, List.map_nil, List.sum_nil, List.map_append, List.sum_cons, List.sum_append, List.cons_append, List.nil_append, List.append_assoc, List.append_nil]; omega))⟩
set_option maxHeartbeats 8000000 in
theorem checkR_ok {H R : HL} {wp M : Nat} {s : RS} {x : KC} {jm ji ix : Int} (ok : RsOk M s) (ks : KsOk s) (h : RefAt B H wp M s R) (hx : CkIs x) :
    WF B tab (.func 31) [.ptr ⟨false, wp, 0⟩, .agg (ckC x jm ji), .int .u64 ix] H fun r H' => r = .int .i64 (.ofNat (checkS M s x ix).2) ∧ RefAt B H' wp M (checkS M s x ix).1 R := by
  refine WF.lessP ?_
  have hh := h
  obtain ⟨qs, v1, v2, v3, h1, h2, h3, e1, hp, o1, o2, o3, q⟩ := h.toQ
  have row : Ld B H ⟨false, wp, 0⟩ 7 (refC M v1 v2 v3 s) := Ld.perm q (Ld.own Tk.head rfl)
  have l0 := row.part 0 1 (by omega)
  have l1 := row.part 3 1 (by omega)
  have s1 : SlIs B H v3 7 (s.cs.map entC) := SlIs.perm q (SlIs.cons (SlIs.right (SlIs.right (SlIs.left (entsC_sl o3)))))
  have hl : s.cs.length ≤ 64 := Nat.le_trans ok.n3 ok.m2
  have r1 := ok.r3
  have hk := ks.kc
  have c1 := o1.cell
  have c2 := o2.cell
  have c3 := o3.cell
  refine WF.fn g31 rfl ?_
  refine WC.seq (WC.reg ?_)
  repeat' (first
    | apply WOps.nil | (apply WOps.bx; rfl; rfl; (first | rfl | ((repeat' (first | exact ac0 | apply ac1)) <;> (first | rfl | assumption))); intro _) | (apply WOps.purG; rfl; (intro _; rfl)))
  rename_i p4
  refine WC.cut2 (X := Unit) (fun _ => [(0, .ptr ⟨false, wp, 0⟩), (2, .int .u64 ix), (4, .ptr ⟨false, p4, 0⟩)]) (fun _ => (p4, .row (ckC x jm ji)) :: H) (fun _ => wrongC s x = 0) ?_ ?_
  · repeat' (first
      | apply WOps.nil | apply WC.seq | apply WC.reg | apply WC.skip | apply WC.ret | (apply WOps.ldG; rfl; rfl; (first | exact ld0 rfl | exact ld1 rfl | exact ld2 rfl); rfl) | (apply WOps.clR; rfl; rfl; exact wrong57_ok ok ks hh.cons hx; rintro _ rfl) | (apply WOps.cmp; rfl; rfl; rfl; rfl; intro _ _) | (apply WOps.purG; rfl; (intro _; rfl)) | (apply WC.condA; rfl; all_goals (intro hb; try subst hb)))
    · have q1 := ‹true = true ↔ cmpP BinOp.neq _ _›.1 rfl
      simp only [cmpP, Int.ofNat_eq_natCast] at q1
      have e : checkS M s x ix = (s, wrongC s x) := by unfold checkS; rw [if_pos (by omega)]
      exact ⟨trivial, [_], ⟨_, [], rfl, rfl, rfl⟩, H, ⟨by rw [e]; rfl, by rw [e]; exact hh⟩, SubP.of (List.sublist_cons_self _ _)⟩
    · have q1 := eq_of_ff ‹false = true ↔ cmpP BinOp.neq _ _›
      simp only [cmpP, Int.ofNat_eq_natCast] at q1
      exact ⟨(), Sub1.cons rfl (Sub1.cons rfl (Sub1.cons rfl (Sub1.nil))), SubP.refl, by omega⟩
  intro _ hw
  obtain ⟨⟨n, hn8, hnn⟩, hid⟩ := wrongC_zero hw
  have hnn2 : x.node.toNat = n := by rw [hnn]; rfl
  have lb0 : Ld B ((p4, .row (ckC x jm ji)) :: H) ⟨false, p4, 0⟩ 1 [.int .i64 x.node] := Ld.own Tk.head rfl
  have lb1 : Ld B ((p4, .row (ckC x jm ji)) :: H) ⟨false, p4, 1⟩ 1 [.str x.id] := Ld.own Tk.head rfl
  rw [hnn] at lb0
  refine WC.seq (WC.reg ?_)
  repeat' (first
    | apply WOps.nil | (apply WOps.purG; rfl; (intro _; rfl)))
  refine WC.cut2 (X := Bool) (fun b => [(0, .ptr ⟨false, wp, 0⟩), (2, .int .u64 ix), (4, .ptr ⟨false, p4, 0⟩), (8, .bool b)]) (fun _ => (p4, .row (ckC x jm ji)) :: H) (fun b => b = true ↔ ∃ e, e ∈ s.cs ∧ e.key = keyS n x.id) ?_ ?_
  · repeat' (first
      | apply WOps.nil | apply WC.seq | apply WC.reg | apply WC.block | (apply WOps.purG; rfl; (intro _; rfl)))
    refine WC.loop ?_
    obtain ⟨i, hi⟩ : ∃ i : Nat, i = 0 := ⟨0, rfl⟩
    obtain ⟨b, hb⟩ : ∃ b : Bool, b = false := ⟨_, rfl⟩
    refine WL.le (t' := [(0, .ptr ⟨false, wp, 0⟩), (2, .int .u64 ix), (4, .ptr ⟨false, p4, 0⟩), (8, .bool b), (9, .int .i64 (.ofNat i))]) (by subst hi hb; exact Sub1.cons rfl (Sub1.cons rfl (Sub1.cons rfl (Sub1.cons rfl (Sub1.cons rfl (Sub1.nil)))))) ?_
    have hle : i ≤ s.cs.length := by omega
    have hpre : b = true ↔ ∃ j, ∃ h : j < s.cs.length, j < i ∧ s.cs[j].key = keyS n x.id := by
      subst hi hb
      exact ⟨fun h => (by cases h), fun ⟨j, h, h2, _⟩ => absurd h2 (Nat.not_lt_zero _)⟩
    clear hi hb
    induction hm : s.cs.length - i using Nat.strongRecOn generalizing i b with | _ k ih => ?_
    apply WL.step
    refine WC.seq (WC.seq (WC.reg ?_))
    repeat' (first
      | apply WOps.nil | apply WC.skip | apply WC.exit | (apply WOps.ldG; rfl; rfl; exact l1.cons; rfl) | (apply WOps.lenS; rfl; rfl; exact SlIs.cons s1) | (apply WOps.cmp; rfl; rfl; rfl; rfl; intro _ _) | (apply WOps.purG; rfl; (intro _; rfl)) | (apply WC.condA; rfl; all_goals (intro hb; try subst hb)))
    all_goals rw [List.length_map] at *
    · have hlt : i < s.cs.length := by
        have h0 := ‹true = true ↔ cmpP BinOp.lss (Int.ofNat i) (Int.ofNat s.cs.length)›.1 rfl
        simp [cmpP] at h0; omega
      have hcm : (s.cs.map entC)[i]? = some (entC s.cs[i]) := by rw [List.getElem?_map, List.getElem?_eq_getElem hlt]; rfl
      obtain ⟨m, hm8, hnode, hkey⟩ := hk s.cs[i] (List.getElem_mem hlt)
      have keq : (s.cs[i].v.node = Int.ofNat n ∧ s.cs[i].v.id = x.id) ↔ s.cs[i].key = keyS n x.id := by
        rw [hnode, hkey]; exact key_eq
      have nx : ∀ b2 : Bool, (b2 = true ↔ b = true ∨ s.cs[i].key = keyS n x.id) → WL B tab c31.nt none _ [(0, .ptr ⟨false, wp, 0⟩), (2, .int .u64 ix), (4, .ptr ⟨false, p4, 0⟩), (8, .bool b2), (9, .int .i64 (.ofNat (i + 1)))] ((p4, .row (ckC x jm ji)) :: H) _ := fun b2 hb2 => ih _ (by omega) (i + 1) b2 (by omega) (by
        rw [hb2, hpre]
        constructor
        · rintro (⟨j, h, h2, h3⟩ | h3)
          · exact ⟨j, h, by omega, h3⟩
          · exact ⟨i, hlt, by omega, h3⟩
        · rintro ⟨j, h, h2, h3⟩
          rcases Nat.lt_or_ge j i with h4 | h4
          · exact .inl ⟨j, h, h4, h3⟩
          · obtain rfl : j = i := by omega
            exact .inr h3) rfl
      rw [← keq] at nx
      cases b
      · repeat' (first
          | apply WOps.nil | apply WC.seq | apply WC.reg | apply WC.block | apply WC.dreg | apply WD.nil | (apply WD.load; rfl; (first | (apply at1; exact rd_ld rfl (l1.cons) rfl; rfl) | (apply at2; exact rd_ld rfl (l1.cons) rfl; repeat' (first | exact same0 | (apply same1; exact rd_ld rfl (l1.cons) rfl; rfl) | (apply same2; exact rd_ld rfl (l1.cons) rfl))))) | (apply WD.ixSl; rfl; rfl; rfl; exact SlIs.cons s1; exact hcm; intro ax hax) | (apply WD.load; rfl; (first | (apply at1; exact rd_ld rfl (Ld.part (hax _ (SlIs.cons s1)) 0 1 (by omega)) rfl; rfl) | (apply at2; exact rd_ld rfl (Ld.part (hax _ (SlIs.cons s1)) 0 1 (by omega)) rfl; repeat' (first | exact same0 | (apply same1; exact rd_ld rfl (Ld.part (hax _ (SlIs.cons s1)) 0 1 (by omega)) rfl; rfl) | (apply same2; exact rd_ld rfl (Ld.part (hax _ (SlIs.cons s1)) 0 1 (by omega)) rfl))))) | (apply WD.load; rfl; (first | (apply at1; exact rd_ld rfl (Ld.part (hax _ (SlIs.cons s1)) 1 1 (by omega)) rfl; rfl) | (apply at2; exact rd_ld rfl (Ld.part (hax _ (SlIs.cons s1)) 1 1 (by omega)) rfl; repeat' (first | exact same0 | (apply same1; exact rd_ld rfl (Ld.part (hax _ (SlIs.cons s1)) 1 1 (by omega)) rfl; rfl) | (apply same2; exact rd_ld rfl (Ld.part (hax _ (SlIs.cons s1)) 1 1 (by omega)) rfl))))) | (apply WD.load; rfl; (first | (apply at1; exact rd_ld rfl (lb0) rfl; rfl) | (apply at2; exact rd_ld rfl (lb0) rfl; repeat' (first | exact same0 | (apply same1; exact rd_ld rfl (lb0) rfl; rfl) | (apply same2; exact rd_ld rfl (lb0) rfl))))) | (apply WD.load; rfl; (first | (apply at1; exact rd_ld rfl (lb1) rfl; rfl) | (apply at2; exact rd_ld rfl (lb1) rfl; repeat' (first | exact same0 | (apply same1; exact rd_ld rfl (lb1) rfl; rfl) | (apply same2; exact rd_ld rfl (lb1) rfl))))) | (apply WOps.addN; rfl; rfl; rfl; omega) | (apply WOps.purG; rfl; (intro _; rfl)) | (apply WD.cmp; rfl; rfl; rfl; rfl; intro _ _) | (apply WD.cmpT; rfl; rfl; rfl; rfl; intro _ _) | (apply WD.pur; rfl; (intro _; rfl)) | (apply WD.skp; rfl) | (apply WD.skpL; rfl) | (apply WD.ask; rfl; all_goals (intro hb; first | subst hb | fail_if_success (cases hb))))
        · have qa := ‹true = true ↔ cmpP BinOp.eql s.cs[i].v.node _›.1 rfl
          have qb := ‹_ = true ↔ cmpS BinOp.eql s.cs[i].v.id _›
          exact WL.le (Sub1.cons rfl (Sub1.cons rfl (Sub1.cons rfl (Sub1.cons rfl (Sub1.cons rfl (Sub1.nil)))))) (nx _ ⟨fun h => .inr ⟨qa, qb.1 h⟩, fun h => qb.2 (by rcases h with h | h; cases h; exact h.2)⟩)
        · have qa := eq_of_ff ‹false = true ↔ cmpP BinOp.eql s.cs[i].v.node _›
          exact WL.le (Sub1.cons rfl (Sub1.cons rfl (Sub1.cons rfl (Sub1.cons rfl (Sub1.cons rfl (Sub1.nil)))))) (nx false ⟨fun h => (by cases h), fun h => by rcases h with h | h; cases h; exact absurd h.1 qa⟩)
      · repeat' (first
          | apply WOps.nil | apply WC.seq | apply WC.reg | apply WC.block | apply WC.dreg | apply WD.nil | (apply WOps.addN; rfl; rfl; rfl; omega) | (apply WOps.purG; rfl; (intro _; rfl)) | (apply WD.pur; rfl; (intro _; rfl)) | (apply WD.skp; rfl) | (apply WD.skpL; rfl))
        exact WL.le (Sub1.cons rfl (Sub1.cons rfl (Sub1.cons rfl (Sub1.cons rfl (Sub1.cons rfl (Sub1.nil)))))) (nx true ⟨fun _ => .inl rfl, fun _ => rfl⟩)
    · have hge : i = s.cs.length := by
        have h0 := eq_of_ff ‹false = true ↔ cmpP BinOp.lss (Int.ofNat i) (Int.ofNat s.cs.length)›
        simp [cmpP] at h0; omega
      refine ⟨b, Sub1.cons rfl (Sub1.cons rfl (Sub1.cons rfl (Sub1.cons rfl (Sub1.nil)))), SubP.refl, hpre.trans ⟨?_, ?_⟩⟩
      · rintro ⟨j, h, _, h3⟩
        exact ⟨_, List.getElem_mem h, h3⟩
      · rintro ⟨e, he, h3⟩
        obtain ⟨j, hj, rfl⟩ := List.getElem_of_mem he
        exact ⟨j, hj, by omega, h3⟩
  intro b hb
  have hbf : b = true ↔ findE s.cs (keyS n x.id) ≠ none := by
    rw [hb, ne_eq, find_none]
    simp only [Classical.not_forall, Classical.not_not, exists_prop]
  have hfl : fullP M s.cs (keyS n x.id) ↔ ¬ b = true ∧ M ≤ s.cs.length := by
    unfold fullP
    rw [hbf, ne_eq, Classical.not_not]
  clear hb hbf
  refine WC.cut2 (X := Unit) (fun _ => [(0, .ptr ⟨false, wp, 0⟩), (2, .int .u64 ix), (4, .ptr ⟨false, p4, 0⟩)]) (fun _ => (p4, .row (ckC x jm ji)) :: H) (fun _ => ¬ fullP M s.cs (keyS n x.id)) ?_ ?_
  · cases b
    · repeat' (first
        | apply WOps.nil | apply WC.seq | apply WC.reg | apply WC.skip | apply WC.ret | apply WC.dreg | apply WD.nil | (apply WD.load; rfl; (first | (apply at1; exact rd_ld rfl (l0.cons) rfl; rfl) | (apply at2; exact rd_ld rfl (l0.cons) rfl; repeat' (first | exact same0 | (apply same1; exact rd_ld rfl (l0.cons) rfl; rfl) | (apply same2; exact rd_ld rfl (l0.cons) rfl))))) | (apply WD.load; rfl; (first | (apply at1; exact rd_ld rfl (l1.cons) rfl; rfl) | (apply at2; exact rd_ld rfl (l1.cons) rfl; repeat' (first | exact same0 | (apply same1; exact rd_ld rfl (l1.cons) rfl; rfl) | (apply same2; exact rd_ld rfl (l1.cons) rfl))))) | (apply WD.lenS; rfl; rfl; exact SlIs.cons s1) | (apply WOps.purG; rfl; (intro _; rfl)) | (apply WD.cmp; rfl; rfl; rfl; rfl; intro _ _) | (apply WD.pur; rfl; (intro _; rfl)) | (apply WC.condA; rfl; all_goals (intro hb; try subst hb)))
      · have q := ‹true = true ↔ cmpP BinOp.geq _ _›.1 rfl
        simp only [cmpP, Int.ofNat_eq_natCast, List.length_map] at q
        have e : checkS M s x ix = (s, 5) := by unfold checkS; rw [if_neg (by rw [hw]; simp), hnn2]; exact if_pos (hfl.2 ⟨by simp, by omega⟩)
        exact ⟨trivial, [_], ⟨_, [], rfl, rfl, rfl⟩, H, ⟨by rw [e]; rfl, by rw [e]; exact hh⟩, SubP.of (List.sublist_cons_self _ _)⟩
      · have q := eq_of_ff ‹false = true ↔ cmpP BinOp.geq _ _›
        simp only [cmpP, Int.ofNat_eq_natCast, List.length_map] at q
        exact ⟨(), Sub1.cons rfl (Sub1.cons rfl (Sub1.cons rfl (Sub1.nil))), SubP.refl, fun k => by have := (hfl.1 k).2; omega⟩
    · repeat' (first
        | apply WC.seq | apply WC.skip | (apply WC.condF; rfl) | apply WC.dreg | apply WD.nil | (apply WD.pur; rfl; (intro _; rfl)) | (apply WD.skp; rfl) | (apply WD.skpL; rfl))
      exact ⟨(), Sub1.cons rfl (Sub1.cons rfl (Sub1.cons rfl (Sub1.nil))), SubP.refl, fun k => (hfl.1 k).1 rfl⟩
  intro _ hnf
  have e : checkS M s x ix = ({ s with cs := putE s.cs ⟨keyS n x.id, x, ix, ix⟩, l3 := maxI s.l3 ix }, 0) := by
    unfold checkS
    rw [if_neg (by rw [hw]; simp), hnn2]
    exact if_neg hnf
  rw [e]
  clear e hh hnf hw lb0 lb1 hid hfl
  repeat' (first
    | apply WOps.nil | apply WC.seq | apply WC.reg | apply WC.block | (apply WOps.st; rfl; rfl; (first | exact tk0 | exact tk1 | exact tk2); rfl; (first | rfl | ((repeat' (first | exact ac0 | apply ac1)) <;> (first | rfl | assumption))); rfl) | (apply WOps.purG; rfl; (intro _; rfl)))
  refine WC.loop ?_
  obtain ⟨i, hi⟩ : ∃ i : Nat, i = 0 := ⟨0, rfl⟩
  obtain ⟨w, hw⟩ : ∃ v, v = AV.nilsl := ⟨_, rfl⟩
  obtain ⟨us, hus⟩ : ∃ u : List (TE KC), u = [] := ⟨_, rfl⟩
  obtain ⟨hv, hhv⟩ : ∃ h : HL, h = [] := ⟨_, rfl⟩
  obtain ⟨laid, hlaid⟩ : ∃ b : Bool, b = false := ⟨_, rfl⟩
  obtain ⟨mk, hmk⟩ : ∃ m : Int, m = ix := ⟨_, rfl⟩
  refine WL.le (t' := [(0, .ptr ⟨false, wp, 0⟩), (2, .int .u64 ix), (4, .ptr ⟨false, p4, 0⟩), (10, w), (11, .bool laid), (12, .int .i64 (.ofNat i))]) (by subst hi hw hlaid; exact Sub1.cons rfl (Sub1.cons rfl (Sub1.cons rfl (Sub1.cons rfl (Sub1.cons rfl (Sub1.cons rfl (Sub1.nil))))))) ?_
  refine WL.heq (H' := (p4, .row (entC (⟨keyS n x.id, x, mk, ix⟩ : TE KC))) :: (hv ++ H)) (by subst hhv hmk; rfl) ?_
  have o9 : OwnSl w (us.map entC).flatten us.length 7 hv := by subst hus; exact .inl ⟨hw, rfl, rfl, hhv⟩
  have hst : (laid = false ∧ mk = ix ∧ us = s.cs.take i ∧ AllBelow (s.cs.take i) (keyS n x.id)) ∨ (laid = true ∧ us ++ s.cs.drop i = putE s.cs (⟨keyS n x.id, x, ix, ix⟩ : TE KC) ∧ Above (s.cs.drop i) (keyS n x.id)) := by
    subst hi hus
    exact .inl ⟨hlaid, hmk, rfl, fun x hx => by simp at hx⟩
  have hul : us.length ≤ i + 1 := by subst hus; simp
  have hle : i ≤ s.cs.length := by omega
  clear hi hw hus hhv hlaid hmk
  induction hm : s.cs.length - i using Nat.strongRecOn generalizing i w us hv laid mk with | _ k ih => ?_
  apply WL.step
  have lA : ∀ {X : HL}, Ld B (X ++ H) ⟨false, wp, 3⟩ 1 [v3] := Ld.right l1
  have sA : ∀ {X : HL}, SlIs B (X ++ H) v3 7 (s.cs.map entC) := SlIs.right s1
  refine WC.seq (WC.seq (WC.reg ?_))
  repeat' (first
    | apply WOps.nil | apply WC.skip | apply WC.exit | (apply WOps.ldG; rfl; rfl; exact (lA (X := _ :: hv)); rfl) | (apply WOps.lenS; rfl; rfl; exact (sA (X := _ :: hv))) | (apply WOps.cmp; rfl; rfl; rfl; rfl; intro _ _) | (apply WOps.purG; rfl; (intro _; rfl)) | (apply WC.condA; rfl; all_goals (intro hb; try subst hb)))
  all_goals rw [List.length_map] at *
  · have hlt : i < s.cs.length := by
      have h0 := ‹true = true ↔ cmpP BinOp.lss (Int.ofNat i) (Int.ofNat s.cs.length)›.1 rfl
      simp [cmpP] at h0; omega
    have hcm : (s.cs.map entC)[i]? = some (entC s.cs[i]) := by rw [List.getElem?_map, List.getElem?_eq_getElem hlt]; rfl
    obtain ⟨m, hm8, hnode, hkey⟩ := hk s.cs[i] (List.getElem_mem hlt)
    have keq : (s.cs[i].v.node = Int.ofNat n ∧ s.cs[i].v.id = x.id) ↔ s.cs[i].key = keyS n x.id := by
      rw [hnode, hkey]; exact key_eq
    have kgt : (s.cs[i].v.node > Int.ofNat n ∨ (s.cs[i].v.node = Int.ofNat n ∧ strLess x.id s.cs[i].v.id = true)) ↔ strLess (keyS n x.id) s.cs[i].key = true := by
      rw [hnode, hkey]; exact key_gt
    have hd1 : s.cs.drop i = s.cs[i] :: s.cs.drop (i + 1) := List.drop_eq_getElem_cons hlt
    have nx : ∀ (w : AV) (us : List (TE KC)) (hv : HL) (laid : Bool) (mk : Int), OwnSl w (us.map entC).flatten us.length 7 hv → ((laid = false ∧ mk = ix ∧ us = s.cs.take (i + 1) ∧ AllBelow (s.cs.take (i + 1)) (keyS n x.id)) ∨ (laid = true ∧ us ++ s.cs.drop (i + 1) = putE s.cs (⟨keyS n x.id, x, ix, ix⟩ : TE KC) ∧ Above (s.cs.drop (i + 1)) (keyS n x.id))) → us.length ≤ i + 2 → WL B tab c31.nt none _ [(0, .ptr ⟨false, wp, 0⟩), (2, .int .u64 ix), (4, .ptr ⟨false, p4, 0⟩), (10, w), (11, .bool laid), (12, .int .i64 (.ofNat (i + 1)))] ((p4, .row (entC (⟨keyS n x.id, x, mk, ix⟩ : TE KC))) :: (hv ++ H)) _ := fun w us hv laid mk o9 hst hul => ih _ (by omega) (i + 1) w us hv laid mk o9 hst hul (by omega) rfl
    refine WC.seq (WC.block (WC.seq (WC.reg ?_)))
    repeat' (first
      | apply WOps.nil | (apply WOps.st; rfl; rfl; (first | exact tk0 | exact tk1 | exact tk2); rfl; (first | rfl | ((repeat' (first | exact ac0 | apply ac1)) <;> (first | rfl | assumption))); rfl) | (apply WOps.alc; rfl; intro _) | (apply WOps.ldG; rfl; rfl; exact (lA (X := _ :: hv)); rfl) | (apply WOps.ixSl; rfl; rfl; rfl; exact (sA (X := _ :: hv)); exact hcm; intro ax hax) | (apply WOps.ldG; rfl; rfl; exact hax; rfl) | (apply WOps.purG; rfl; (intro _; rfl)))
    rename_i p11
    refine WC.cut2 (X := Unit) (fun _ => [(0, .ptr ⟨false, wp, 0⟩), (2, .int .u64 ix), (4, .ptr ⟨false, p4, 0⟩), (10, w), (11, .bool laid), (12, .int .i64 (.ofNat i)), (13, .ptr ⟨false, p11, 0⟩)]) (fun _ => (p11, .row (entC s.cs[i])) :: (p4, .row (entC (⟨keyS n x.id, x, mk, ix⟩ : TE KC))) :: (hv ++ H)) (fun _ => ¬ s.cs[i].key = keyS n x.id) ?_ ?_
    · repeat' (first
        | apply WOps.nil | apply WC.seq | apply WC.reg | apply WC.skip | (apply WC.condF; rfl) | (apply WOps.ldG; rfl; rfl; (first | exact ld0 rfl | exact ld1 rfl | exact ld2 rfl); rfl) | (apply WOps.st; rfl; rfl; (first | exact tk0 | exact tk1 | exact tk2); rfl; (first | rfl | ((repeat' (first | exact ac0 | apply ac1)) <;> (first | rfl | assumption))); rfl) | (apply WOps.bsl; rfl; (first | rfl | ((repeat' (first | exact ac0 | apply ac1)) <;> (first | rfl | assumption))); intro _) | (apply WOps.cmp; rfl; rfl; rfl; rfl; intro _ _) | (apply WOps.cmpT; rfl; rfl; rfl; rfl; intro _ _) | (apply WOps.purG; rfl; (intro _; rfl)) | (apply WOps.skp; rfl) | (apply WOps.ask; rfl; all_goals (intro hb; first | subst hb | fail_if_success (cases hb))) | (apply WC.condA; rfl; all_goals (intro hb; try subst hb)))
      · have qa := ‹true = true ↔ cmpP BinOp.eql s.cs[i].v.node _›.1 rfl
        have qb := ‹true = true ↔ cmpS BinOp.eql s.cs[i].v.id _›.1 rfl
        have hq := keq.1 ⟨qa.trans hnn, qb⟩
        rcases hst with ⟨rfl, rfl, rfl, hbel⟩ | ⟨rfl, hput, hab⟩
        · obtain ⟨st1, st2, st3⟩ := laid_step (e := (⟨keyS n x.id, x, mk, mk⟩ : TE KC)) r1 hlt hbel
          obtain ⟨f1, f2, f3⟩ := st1 hq
          refine WOps.app (n := (s.cs.take i).length) rfl rfl rfl o9 (List.perm_append_comm_assoc [_, _, _] hv H) (src_one Tk.head rfl) (entsC_cell _) rfl rfl (by omega) ?_
          intro v5 h5 o5
          repeat' (first
            | apply WOps.nil | apply WC.seq | apply WC.reg | apply WC.exit | (apply WOps.addN; rfl; rfl; rfl; omega) | (apply WOps.purG; rfl; (intro _; rfl)))
          refine WL.le (Sub1.cons rfl (Sub1.cons rfl (Sub1.cons rfl (Sub1.cons rfl (Sub1.cons rfl (Sub1.cons rfl (Sub1.nil))))))) (WL.lessP (H1 := (p4, .row (entC (⟨keyS n x.id, x, s.cs[i].mke, mk⟩ : TE KC))) :: (h5 ++ H)) (subF (by intro f; simp only [entC, ckC, List.map_cons, List.map_append, List.sum_cons, List.sum_append, List.map_nil, List.sum_nil]; omega)) (nx v5 (s.cs.take i ++ [(⟨keyS n x.id, x, s.cs[i].mke, mk⟩ : TE KC)]) h5 true s.cs[i].mke ?_ (.inr ⟨rfl, f2, f3⟩) (by rw [List.length_append, List.length_singleton]; omega)))
          rw [List.map_append, List.flatten_append, List.length_append]
          exact o5
        · exfalso
          exact less_ne (hab s.cs[i] (by rw [hd1]; exact List.mem_cons_self)) hq.symm
      · have qb := eq_of_ff ‹false = true ↔ cmpS BinOp.eql s.cs[i].v.id _›
        exact ⟨(), Sub1.cons rfl (Sub1.cons rfl (Sub1.cons rfl (Sub1.cons rfl (Sub1.cons rfl (Sub1.cons rfl (Sub1.cons rfl (Sub1.nil))))))), SubP.refl, fun h => qb (keq.2 h).2⟩
      · have qa := eq_of_ff ‹false = true ↔ cmpP BinOp.eql s.cs[i].v.node _›
        exact ⟨(), Sub1.cons rfl (Sub1.cons rfl (Sub1.cons rfl (Sub1.cons rfl (Sub1.cons rfl (Sub1.cons rfl (Sub1.cons rfl (Sub1.nil))))))), SubP.refl, fun h => qa ((keq.2 h).1.trans hnn.symm)⟩
    intro _ hne
    refine WC.cut2 (X := AV × List (TE KC) × HL × Bool) (fun y => [(0, .ptr ⟨false, wp, 0⟩), (2, .int .u64 ix), (4, .ptr ⟨false, p4, 0⟩), (10, y.1), (11, .bool y.2.2.2), (12, .int .i64 (.ofNat i)), (13, .ptr ⟨false, p11, 0⟩)]) (fun y => (p11, .row (entC s.cs[i])) :: (p4, .row (entC (⟨keyS n x.id, x, mk, ix⟩ : TE KC))) :: (y.2.2.1 ++ H)) (fun y => OwnSl y.1 (y.2.1.map entC).flatten y.2.1.length 7 y.2.2.1 ∧ ((y.2.2.2 = false ∧ mk = ix ∧ y.2.1 = s.cs.take i ∧ AllBelow (s.cs.take (i + 1)) (keyS n x.id)) ∨ (y.2.2.2 = true ∧ (y.2.1 ++ [s.cs[i]]) ++ s.cs.drop (i + 1) = putE s.cs (⟨keyS n x.id, x, ix, ix⟩ : TE KC) ∧ Above (s.cs.drop (i + 1)) (keyS n x.id))) ∧ y.2.1.length ≤ i + 1) ?_ ?_
    · rcases hst with ⟨rfl, rfl, rfl, hbel⟩ | ⟨rfl, hput, hab⟩
      · obtain ⟨st1, st2, st3⟩ := laid_step (e := (⟨keyS n x.id, x, mk, mk⟩ : TE KC)) r1 hlt hbel
        have lay : strLess (keyS n x.id) s.cs[i].key = true → ∀ (v5 : AV) (h5 : HL), OwnSl v5 (((s.cs.take i).map entC).flatten ++ entC (⟨keyS n x.id, x, mk, mk⟩ : TE KC)) ((s.cs.take i).length + 1) 7 h5 → OwnSl v5 (((s.cs.take i ++ [(⟨keyS n x.id, x, mk, mk⟩ : TE KC)]).map entC).flatten) (s.cs.take i ++ [(⟨keyS n x.id, x, mk, mk⟩ : TE KC)]).length 7 h5 ∧ ((true = false ∧ mk = mk ∧ (s.cs.take i ++ [(⟨keyS n x.id, x, mk, mk⟩ : TE KC)]) = s.cs.take i ∧ AllBelow (s.cs.take (i + 1)) (keyS n x.id)) ∨ (true = true ∧ ((s.cs.take i ++ [(⟨keyS n x.id, x, mk, mk⟩ : TE KC)]) ++ [s.cs[i]]) ++ s.cs.drop (i + 1) = putE s.cs (⟨keyS n x.id, x, mk, mk⟩ : TE KC) ∧ Above (s.cs.drop (i + 1)) (keyS n x.id))) ∧ (s.cs.take i ++ [(⟨keyS n x.id, x, mk, mk⟩ : TE KC)]).length ≤ i + 1 := fun hq v5 h5 o5 => by
          obtain ⟨f1, f2, f3⟩ := st2 hq
          refine ⟨?_, .inr ⟨rfl, f2, f3⟩, by rw [List.length_append, List.length_singleton, List.length_take]; omega⟩
          rw [List.map_append, List.flatten_append, List.length_append]
          simpa using o5
        have no : ¬ strLess (keyS n x.id) s.cs[i].key = true → OwnSl w (((s.cs.take i).map entC).flatten) (s.cs.take i).length 7 hv ∧ ((false = false ∧ mk = mk ∧ (s.cs.take i) = s.cs.take i ∧ AllBelow (s.cs.take (i + 1)) (keyS n x.id)) ∨ (false = true ∧ ((s.cs.take i) ++ [s.cs[i]]) ++ s.cs.drop (i + 1) = putE s.cs (⟨keyS n x.id, x, mk, mk⟩ : TE KC) ∧ Above (s.cs.drop (i + 1)) (keyS n x.id))) ∧ (s.cs.take i).length ≤ i + 1 := fun hq => ⟨o9, .inl ⟨rfl, rfl, rfl, st3 hne hq⟩, hul⟩
        repeat' (first
          | apply WOps.nil | apply WC.seq | apply WC.reg | apply WC.skip | (apply WC.condT; rfl) | (apply WC.condF; rfl) | (apply WOps.ldG; rfl; rfl; (first | exact ld0 rfl | exact ld1 rfl | exact ld2 rfl); rfl) | (apply WOps.bsl; rfl; (first | rfl | ((repeat' (first | exact ac0 | apply ac1)) <;> (first | rfl | assumption))); intro _) | (apply WOps.cmp; rfl; rfl; rfl; rfl; intro _ _) | (apply WOps.cmpT; rfl; rfl; rfl; rfl; intro _ _) | (apply WOps.purG; rfl; (intro _; rfl)) | (apply WOps.skp; rfl) | (apply WOps.ask; rfl; all_goals (intro hb; first | subst hb | fail_if_success (cases hb))) | (apply WC.condA; rfl; all_goals (intro hb; try subst hb)))
        all_goals first
          | (have q1 := ‹true = true ↔ cmpP BinOp.gtr s.cs[i].v.node _›.1 rfl
             have hq := kgt.1 (.inl (by rw [hnn] at q1; exact q1))
             refine WOps.app (n := (s.cs.take i).length) rfl rfl rfl o9 (List.perm_append_comm_assoc [_, _, _] hv H) (src_one Tk.head rfl) (entsC_cell _) rfl rfl (by omega) ?_
             intro v5 h5 o5
             repeat' (first
               | apply WOps.nil | apply WC.reg | (apply WOps.purG; rfl; (intro _; rfl)))
             exact ⟨(v5, s.cs.take i ++ [(⟨keyS n x.id, x, mk, mk⟩ : TE KC)], h5, true), Sub1.cons rfl (Sub1.cons rfl (Sub1.cons rfl (Sub1.cons rfl (Sub1.cons rfl (Sub1.cons rfl (Sub1.cons rfl (Sub1.nil))))))), subF (by intro f; simp only [AV.cells, List.append_eq, List.map_cons, List.map_nil, List.sum_nil, List.map_append, List.sum_cons, List.sum_append, List.cons_append, List.nil_append, List.append_assoc, List.append_nil]; omega), lay hq v5 h5 o5⟩)
          | (have q1 := ‹true = true ↔ cmpP BinOp.eql s.cs[i].v.node _›.1 rfl
             have q2 := ‹true = true ↔ cmpS BinOp.gtr s.cs[i].v.id _›.1 rfl
             have hq := kgt.1 (.inr ⟨by rw [hnn] at q1; exact q1, not_leq q2⟩)
             refine WOps.app (n := (s.cs.take i).length) rfl rfl rfl o9 (List.perm_append_comm_assoc [_, _, _] hv H) (src_one Tk.head rfl) (entsC_cell _) rfl rfl (by omega) ?_
             intro v5 h5 o5
             repeat' (first
               | apply WOps.nil | apply WC.reg | (apply WOps.purG; rfl; (intro _; rfl)))
             exact ⟨(v5, s.cs.take i ++ [(⟨keyS n x.id, x, mk, mk⟩ : TE KC)], h5, true), Sub1.cons rfl (Sub1.cons rfl (Sub1.cons rfl (Sub1.cons rfl (Sub1.cons rfl (Sub1.cons rfl (Sub1.cons rfl (Sub1.nil))))))), subF (by intro f; simp only [AV.cells, List.append_eq, List.map_cons, List.map_nil, List.sum_nil, List.map_append, List.sum_cons, List.sum_append, List.cons_append, List.nil_append, List.append_assoc, List.append_nil]; omega), lay hq v5 h5 o5⟩)
          | (have q1 := eq_of_ff ‹false = true ↔ cmpP BinOp.gtr s.cs[i].v.node _›
             have q2 := eq_of_ff ‹false = true ↔ cmpS BinOp.gtr s.cs[i].v.id _›
             exact ⟨(w, s.cs.take i, hv, false), Sub1.cons rfl (Sub1.cons rfl (Sub1.cons rfl (Sub1.cons rfl (Sub1.cons rfl (Sub1.cons rfl (Sub1.cons rfl (Sub1.nil))))))), SubP.refl, no (fun h => by
               rcases kgt.2 h with h | ⟨_, h⟩
               · exact q1 (by rw [hnn]; exact h)
               · exact q2 (gtr_of h))⟩)
          | (have q1 := eq_of_ff ‹false = true ↔ cmpP BinOp.gtr s.cs[i].v.node _›
             have q2 := eq_of_ff ‹false = true ↔ cmpP BinOp.eql s.cs[i].v.node _›
             exact ⟨(w, s.cs.take i, hv, false), Sub1.cons rfl (Sub1.cons rfl (Sub1.cons rfl (Sub1.cons rfl (Sub1.cons rfl (Sub1.cons rfl (Sub1.cons rfl (Sub1.nil))))))), SubP.refl, no (fun h => by
               rcases kgt.2 h with h | ⟨h, _⟩
               · exact q1 (by rw [hnn]; exact h)
               · exact q2 (by rw [hnn]; exact h))⟩)
      · repeat' (first
          | apply WOps.nil | apply WC.seq | apply WC.reg | apply WC.skip | (apply WC.condF; rfl) | (apply WOps.purG; rfl; (intro _; rfl)) | (apply WOps.skp; rfl))
        exact ⟨(w, us, hv, true), Sub1.cons rfl (Sub1.cons rfl (Sub1.cons rfl (Sub1.cons rfl (Sub1.cons rfl (Sub1.cons rfl (Sub1.cons rfl (Sub1.nil))))))), SubP.refl, o9, .inr ⟨rfl, by rw [← hput, hd1, List.append_assoc]; rfl, fun x hx => hab x (by rw [hd1]; exact List.mem_cons_of_mem _ hx)⟩, hul⟩
    rintro ⟨w, us, hv, laid⟩ ⟨o9, hst, hul⟩
    simp only at o9 hst hul
    repeat' (first
      | apply WC.reg | (apply WOps.ldG; rfl; rfl; (first | exact ld0 rfl | exact ld1 rfl | exact ld2 rfl); rfl) | (apply WOps.bsl; rfl; (first | rfl | ((repeat' (first | exact ac0 | apply ac1)) <;> (first | rfl | assumption))); intro _) | (apply WOps.purG; rfl; (intro _; rfl)))
    refine WOps.app (n := us.length) rfl rfl rfl o9 (List.perm_append_comm_assoc [_, _, _] hv H) (src_one Tk.head rfl) (entsC_cell _) rfl rfl (by omega) ?_
    intro v5 h5 o5
    repeat' (first
      | apply WOps.nil | apply WC.reg | (apply WOps.addN; rfl; rfl; rfl; omega) | (apply WOps.purG; rfl; (intro _; rfl)))
    refine WL.le (Sub1.cons rfl (Sub1.cons rfl (Sub1.cons rfl (Sub1.cons rfl (Sub1.cons rfl (Sub1.cons rfl (Sub1.nil))))))) (WL.lessP (H1 := (p4, .row (entC (⟨keyS n x.id, x, mk, ix⟩ : TE KC))) :: (h5 ++ H)) (subF (by intro f; simp only [AV.cells, List.append_eq, List.map_cons, List.map_nil, List.sum_nil, List.map_append, List.sum_cons, List.sum_append, List.cons_append, List.nil_append, List.append_assoc, List.append_nil]; omega)) (nx v5 (us ++ [s.cs[i]]) h5 laid mk ?_ ?_ (by rw [List.length_append, List.length_singleton]; omega)))
    · rw [List.map_append, List.flatten_append, List.length_append]
      exact o5
    · rcases hst with ⟨rfl, rfl, rfl, hbel⟩ | ⟨rfl, hput, hab⟩
      · exact .inl ⟨rfl, rfl, (List.take_succ_eq_append_getElem hlt).symm, hbel⟩
      · exact .inr ⟨rfl, hput, hab⟩
  · have hge : i = s.cs.length := by
      have h0 := eq_of_ff ‹false = true ↔ cmpP BinOp.lss (Int.ofNat i) (Int.ofNat s.cs.length)›
      simp [cmpP] at h0; omega
    subst hge
    have fin : ∀ (v' : AV) (us' : List (TE KC)) (h' X : HL), us' = putE s.cs (⟨keyS n x.id, x, ix, ix⟩ : TE KC) → OwnSl v' (us'.map entC).flatten us'.length 7 h' → SubP ((wp, .row (refC M v1 v2 v' { s with l3 := maxI s.l3 ix })) :: (h1 ++ (h2 ++ (h' ++ R)))) X →
        ∃ H3, (AV.int IntKind.i64 (Int.ofNat 0) = .int .i64 (.ofNat 0) ∧ RefAt B H3 wp M { s with cs := putE s.cs ⟨keyS n x.id, x, ix, ix⟩, l3 := maxI s.l3 ix } R) ∧ SubP H3 X := fun v' us' h' X e o p => by
      subst e
      exact ⟨_, ⟨rfl, RefAt.ofQ (qs := qs) e1 hp o1 o2 o (List.Perm.refl _)⟩, p⟩
    have pH : ((p4, .row (entC (⟨keyS n x.id, x, mk, ix⟩ : TE KC))) :: (hv ++ H)).Perm ((wp, .row (refC M v1 v2 v3 s)) :: (p4, .row (entC (⟨keyS n x.id, x, mk, ix⟩ : TE KC))) :: (hv ++ (h1 ++ (h2 ++ (h3 ++ R))))) := by
      refine permF ?_
      intro f
      have := sum_perm q f
      simp only [List.map_cons, List.map_append, List.sum_cons, List.sum_append] at this ⊢
      omega
    refine WC.perm pH ?_
    rcases hst with ⟨rfl, rfl, rfl, hbel⟩ | ⟨rfl, hput, hab⟩
    · repeat' (first
        | apply WOps.nil | apply WC.seq | apply WC.reg | (apply WC.condT; rfl) | (apply WOps.ldG; rfl; rfl; (first | exact ld0 rfl | exact ld1 rfl | exact ld2 rfl); rfl) | (apply WOps.bsl; rfl; (first | rfl | ((repeat' (first | exact ac0 | apply ac1)) <;> (first | rfl | assumption))); intro _) | (apply WOps.purG; rfl; (intro _; rfl)))
      refine WOps.app (n := (s.cs.take s.cs.length).length) rfl rfl rfl o9 (List.perm_append_comm_assoc [_, _, _] hv _) (src_one Tk.head rfl) (entsC_cell _) rfl rfl (by omega) ?_
      intro v4 h4 o4
      have o5 : OwnSl v4 ((s.cs ++ [(⟨keyS n x.id, x, mk, mk⟩ : TE KC)]).map entC).flatten (s.cs ++ [(⟨keyS n x.id, x, mk, mk⟩ : TE KC)]).length 7 h4 := by
        rw [List.map_append, List.flatten_append, List.length_append]
        rw [List.take_length] at o4
        exact o4
      repeat' (first
        | apply WOps.nil | apply WC.seq | apply WC.reg | (apply WOps.purG; rfl; (intro _; rfl)))
      refine WOps.st (cs := refC M v1 v2 v3 s) (cs' := refC M v1 v2 v4 s) rfl rfl perm_back2 (by rw [o5.cells]; rfl) (by rw [o5.cells]; exact allCell_cons o5.cell allCell_nil) (by rw [o5.cells]; rfl) ?_
      repeat' (first
        | apply WOps.nil | apply WC.seq | apply WC.reg | apply WC.ret | (apply WOps.clA; rfl; rfl; exact raise54_2 (s := s) c1 c2 o5.cell; rintro _ _ rfl) | (apply WOps.purG; rfl; (intro _; rfl)))
      rw [List.take_length] at hbel
      have hpe : s.cs ++ [(⟨keyS n x.id, x, mk, mk⟩ : TE KC)] = putE s.cs (⟨keyS n x.id, x, mk, mk⟩ : TE KC) := by
        have := put_below (Bs := []) (e := (⟨keyS n x.id, x, mk, mk⟩ : TE KC)) hbel
        rw [List.append_nil] at this
        rw [this]; rfl
      exact ⟨trivial, [_], ⟨_, [], rfl, rfl, rfl⟩, fin v4 _ h4 _ hpe o5 (subF (by intro f; simp only [AV.cells, List.append_eq, List.map_cons, List.map_nil, List.sum_nil, List.map_append, List.sum_cons, List.sum_append, List.cons_append, List.nil_append, List.append_assoc, List.append_nil]; omega))⟩
    · repeat' (first
        | apply WOps.nil | apply WC.seq | apply WC.reg | apply WC.skip | (apply WC.condF; rfl) | (apply WOps.purG; rfl; (intro _; rfl)))
      refine WOps.st (cs := refC M v1 v2 v3 s) (cs' := refC M v1 v2 w s) rfl rfl Tk.head (by rw [o9.cells]; rfl) (by rw [o9.cells]; exact allCell_cons o9.cell allCell_nil) (by rw [o9.cells]; rfl) ?_
      repeat' (first
        | apply WOps.nil | apply WC.seq | apply WC.reg | apply WC.ret | (apply WOps.clA; rfl; rfl; exact raise54_2 (s := s) c1 c2 o9.cell; rintro _ _ rfl) | (apply WOps.purG; rfl; (intro _; rfl)))
      have hpe : us = putE s.cs (⟨keyS n x.id, x, ix, ix⟩ : TE KC) := by
        rw [List.drop_length, List.append_nil] at hput
        exact hput
      exact ⟨trivial, [_], ⟨_, [], rfl, rfl, rfl⟩, fin w _ hv _ hpe o9 (subF (by intro f; simp only [AV.cells, List.append_eq, List.map_cons, List.map_nil, List.sum_nil, List.map_append, List.sum_cons, List.sum_append, List.cons_append, List.nil_append, List.append_assoc, List.append_nil]; omega))⟩
end Go.Proofs.Ytgpnpcahcegadaa.RO
