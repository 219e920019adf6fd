/- What the functions do, shown by the logic. -/
import Derived.Test.YtgpnpcahcegadaaGreatRoF2
set_option linter.unusedSimpArgs false
set_option linter.unusedVariables false
set_option linter.unusedSectionVars false
set_option maxRecDepth 20000
namespace Go.Proofs.YtgpnpcahcegadaaGreat.RO
open Go.Proofs.YtgpnpcahcegadaaGreat.Abs
variable {B : Nat → List AV}
set_option maxHeartbeats 1000000 in
theorem node25_c {H R : HL} {rp a1 a2 a3 M : Nat} {s : RS} {xs : List (TE SV)} {node ix : Int} {addr : List Nat} (ok : RsOk M s) (h : RosC H rp a1 a2 a3 M s xs R) :
  WF B tab (.func 25) [.ptr ⟨false, rp, 0⟩, .int .i64 node, .str addr, .int .u64 ix] H fun r H' => r = .int .i64 (.ofNat (nodeS M s node addr ix).2) ∧ RosC H' rp a1 a2 a3 M (nodeS M s node addr ix).1 xs R := by
 refine zY ?_
 refine WF.fn g25 rfl ?_
 obtain ⟨xn, R1, e1, t, back⟩ := h.n
 have hl : xn.length ≤ 1000 := by
  have h1 := ok.n1
  have h2 := ok.m2
  rw [← e1, List.length_map] at h1; omega
 have so : Rise xn := (rise_mp (f := coN)).1 (by rw [e1]; exact ok.r1)
 have hr := h.r1 (B := B)
 have P : ∀ n, WF B tab (.func 62) [.ptr ⟨false, a1, 0⟩, .str (keyN n), .agg (valN ⟨.ofNat n, addr, .ofNat 0, .ofNat 0⟩), .int .u64 ix] H _ := fun n => put62_at (e := ⟨keyN n, ⟨.ofNat n, addr, .ofNat 0, .ofNat 0⟩, ix, ix⟩) ok.m1 hl so rfl t
 repeat' (first
  | apply zC | apply zE | apply zD | apply zJ | apply zL | (apply zS; rfl) | (apply zO; rfl) | apply zK | apply zT | apply zW | (apply WD.st; rfl; rfl; rfl; (first | exact tk0 | exact tk1 | exact tk2); rfl; (· repeat' (first | rfl | assumption | apply ac1)); rfl) | (apply WD.alc; rfl; rfl; intro _) | (apply WOps.clR; rfl; rfl; exact none39_ok hr; rintro _ rfl) | (apply WOps.clR; rfl; rfl; exact right49_ok node; rintro _ (⟨rfl, n, hn8, rfl⟩ | ⟨rfl, hno⟩)) | (apply WOps.lenT; rfl; rfl) | (apply WD.clR; rfl; rfl; exact digit52_ok hn8; rintro _ rfl) | (apply zI; rfl; · repeat' (first | refine at1 ?_ rfl | apply at2 | exact same0 | refine same1 ?_ rfl | apply same2 | exact rd_ld rfl (hr) rfl)) | (apply yI; rfl; rfl; exact P n; rintro _ H1 (⟨hf, rfl, t1⟩ | ⟨hf, e', rfl, t1⟩)) | (apply zM; rfl; rfl; rfl; rfl; intro _ _) | (apply zB; rfl; (intro _; rfl)) | (apply zQ; rfl; (intro _; rfl)) | (apply zN; rfl; all_goals (intro hb; try subst hb)))
 ·have h1 := ‹true = true ↔ cmpP BinOp.gtr _ _›.1 rfl
  simp only [cmpP, Int.ofNat_eq_natCast] at h1
  have e : nodeS M s (.ofNat n) addr ix = (s, 3) := by
   unfold nodeS
   rw [if_neg (by simp only [Int.ofNat_eq_natCast]; omega), if_pos (by omega)]
  exact ⟨trivial, [_], ⟨_, [], rfl, rfl, rfl⟩, H, ⟨by rw [e]; rfl, by rw [e]; exact h⟩, SubP.refl⟩
 ·have h1 := eq_of_ff ‹false = true ↔ cmpP BinOp.gtr _ _›
  simp only [cmpP, Int.ofNat_eq_natCast] at h1
  have e : nodeS M s (.ofNat n) addr ix = (s, 5) := by
   unfold nodeS
   rw [if_neg (by simp only [Int.ofNat_eq_natCast]; omega), if_neg (by omega), if_pos (by rw [← e1, full_mp]; exact hf)]
  have b1 := back H1 [] xn s.l1 t1
  rw [e1] at b1
  exact ⟨trivial, [_], ⟨_, [], rfl, rfl, rfl⟩, H1, ⟨by rw [e]; rfl, by rw [e]; exact b1⟩, SubP.of (List.sublist_cons_self _ _)⟩
 ·have h1 := eq_of_ff ‹false = true ↔ cmpP BinOp.gtr _ _›
  simp only [cmpP, Int.ofNat_eq_natCast] at h1
  have e : nodeS M s (.ofNat n) addr ix = ({ s with ns := putE s.ns ⟨keyN n, ⟨.ofNat n, addr⟩, ix, ix⟩, l1 := maxI s.l1 ix }, 0) := by
   unfold nodeS
   rw [if_neg (by simp only [Int.ofNat_eq_natCast]; omega), if_neg (by omega), if_neg (by rw [← e1, full_mp]; exact hf)]
   rfl
  have b1 := back H1 [] _ _ t1
  rw [put_mp, e1] at b1
  exact ⟨trivial, [_], ⟨_, [], rfl, rfl, rfl⟩, H1, ⟨by rw [e]; rfl, by rw [e]; exact b1⟩, SubP.of (List.sublist_cons_self _ _)⟩
 ·have e : nodeS M s node addr ix = (s, 2) := by
   unfold nodeS
   rw [if_pos hno]
  exact ⟨trivial, [_], ⟨_, [], rfl, rfl, rfl⟩, H, ⟨by rw [e]; rfl, by rw [e]; exact h⟩, SubP.refl⟩
theorem TagsIn.sub {G : HL} {xs ys : List (TE SV)} (h : TagsIn B G xs) (k : ys.Sublist xs) : TagsIn B G ys := fun e he => h e (k.subset he)
section at_
variable {H R : HL} {rp a1 a2 a3 M : Nat} {s : RS} {id : List Nat} {node ix : Int}
theorem dropNode27_at (ok : RsOk M s) (h : RosAt B H rp a1 a2 a3 M s R) :
  WF B tab (.func 27) [.ptr ⟨false, rp, 0⟩, .int .i64 node, .int .u64 ix] H fun r H' => r = .int .i64 (.ofNat (dropNodeS s node ix).2) ∧ RosAt B H' rp a1 a2 a3 M (dropNodeS s node ix).1 R := by
 obtain ⟨xs, G, hc, tg⟩ := h.bare
 refine (dropNode27_ok ok hc).mono ?_
 rintro r H' ⟨h1, ys, h2, h3⟩
 exact ⟨h1, h3.all (tg.sub h2)⟩
theorem dropService31_at (ok : RsOk M s) (hid : id.length ≤ 140737488351232) (h : RosAt B H rp a1 a2 a3 M s R) :
  WF B tab (.func 31) [.ptr ⟨false, rp, 0⟩, .int .i64 node, .str id, .int .u64 ix] H fun r H' => r = .int .i64 (.ofNat (dropServiceS s node id ix).2) ∧ RosAt B H' rp a1 a2 a3 M (dropServiceS s node id ix).1 R := by
 obtain ⟨xs, G, hc, tg⟩ := h.bare
 refine (dropService31_ok ok hid hc).mono ?_
 rintro r H' ⟨h1, ys, h2, h3⟩
 exact ⟨h1, h3.all (tg.sub h2)⟩
theorem dropCheck19_at (ok : RsOk M s) (hid : id.length ≤ 140737488351232) (h : RosAt B H rp a1 a2 a3 M s R) :
  WF B tab (.func 19) [.ptr ⟨false, rp, 0⟩, .int .i64 node, .str id, .int .u64 ix] H fun r H' => r = .int .i64 (.ofNat (dropCheckS s node id ix).2) ∧ RosAt B H' rp a1 a2 a3 M (dropCheckS s node id ix).1 R := by
 obtain ⟨xs, G, hc, tg⟩ := h.bare
 refine (dropCheck19_ok ok hid hc).mono ?_
 rintro r H' ⟨h1, h3⟩
 exact ⟨h1, h3.all tg⟩
theorem KsOk.subs (ks : KsOk s) {s2 : RS} (h1 : s2.ns.Sublist s.ns) (h2 : s2.ss.Sublist s.ss) (h3 : s2.cs.Sublist s.cs) : KsOk s2 :=
 ⟨fun e he => ks.kn e (h1.subset he), fun e he => ks.ks e (h2.subset he), fun e he => ks.kc e (h3.subset he)⟩
theorem RsOk.subs (ok : RsOk M s) {s2 : RS} (h1 : s2.ns.Sublist s.ns) (h2 : s2.ss.Sublist s.ss) (h3 : s2.cs.Sublist s.cs) : RsOk M s2 :=
 ⟨ok.m1, ok.m2, Nat.le_trans h1.length_le ok.n1, Nat.le_trans h2.length_le ok.n2, Nat.le_trans h3.length_le ok.n3, rise_pw.2 ((rise_pw.1 ok.r1).sublist h1), rise_pw.2 ((rise_pw.1 ok.r2).sublist h2), rise_pw.2 ((rise_pw.1 ok.r3).sublist h3), fun e he => ok.t e (h2.subset he)⟩
theorem dropNode_sub : (dropNodeS s node ix).1.ns.Sublist s.ns ∧ (dropNodeS s node ix).1.ss.Sublist s.ss ∧ (dropNodeS s node ix).1.cs.Sublist s.cs := by
 unfold dropNodeS
 split
 ·exact ⟨dropE_sub, List.filter_sublist, List.filter_sublist⟩
 ·exact ⟨List.Sublist.refl _, List.Sublist.refl _, List.Sublist.refl _⟩
theorem dropService_sub : (dropServiceS s node id ix).1.ns.Sublist s.ns ∧ (dropServiceS s node id ix).1.ss.Sublist s.ss ∧ (dropServiceS s node id ix).1.cs.Sublist s.cs := by
 unfold dropServiceS
 split
 ·exact ⟨List.Sublist.refl _, dropE_sub, List.filter_sublist⟩
 ·exact ⟨List.Sublist.refl _, List.Sublist.refl _, List.Sublist.refl _⟩
theorem dropCheck_sub : (dropCheckS s node id ix).1.ns.Sublist s.ns ∧ (dropCheckS s node id ix).1.ss.Sublist s.ss ∧ (dropCheckS s node id ix).1.cs.Sublist s.cs := by
 unfold dropCheckS
 split
 ·exact ⟨List.Sublist.refl _, List.Sublist.refl _, dropE_sub⟩
 ·exact ⟨List.Sublist.refl _, List.Sublist.refl _, List.Sublist.refl _⟩
theorem RosAt.z (h : RosAt B H rp a1 a2 a3 M s R) : ∃ Z, (∀ Y, RosAt B (Z ++ Y) rp a1 a2 a3 M s Y) ∧ H.Perm (Z ++ R) := by
 obtain ⟨xn, xs, xc, v1, v2, v3, h1, h2, h3, G, e1, e2, e3, o1, o2, o3, tg, q⟩ := h
 refine ⟨(a1, .row (tblC M v1 s.l1)) :: (a2, .row (tblC M v2 s.l2)) :: (a3, .row (tblC M v3 s.l3)) :: (rp, .row (rosC a1 a2 a3)) :: (h1 ++ (h2 ++ (h3 ++ G))), fun Y => ⟨xn, xs, xc, v1, v2, v3, h1, h2, h3, G, e1, e2, e3, o1, o2, o3, tg, ?_⟩, q.trans ?_⟩
 all_goals exact permF (by intro f; simp only [List.cons_append, List.map_cons, List.map_append, List.sum_cons, List.sum_append]; omega)
theorem RefAt.z {wp : Nat} (h : RefAt B H wp M s R) : ∃ Z, (∀ Y, RefAt B (Z ++ Y) wp M s Y) ∧ H.Perm (Z ++ R) := by
 obtain ⟨ps, v1, v2, v3, h1, h2, h3, e1, hp, o1, o2, o3, q⟩ := h
 refine ⟨(wp, .row (refC M v1 v2 v3 s)) :: (h1 ++ (h2 ++ h3)), fun Y => ⟨ps, v1, v2, v3, h1, h2, h3, e1, hp, o1, o2, o3, ?_⟩, q.trans ?_⟩
 all_goals exact permF (by intro f; simp only [List.cons_append, List.map_cons, List.map_append, List.sum_cons, List.sum_append]; omega)
theorem RefAt.perm {H' : HL} {wp : Nat} (h : RefAt B H wp M s R) (p : H'.Perm H) : RefAt B H' wp M s R := by
 obtain ⟨ps, v1, v2, v3, h1, h2, h3, e1, hp, o1, o2, o3, q⟩ := h
 exact ⟨ps, v1, v2, v3, h1, h2, h3, e1, hp, o1, o2, o3, p.trans q⟩
end at_
def Both (B : Nat → List AV) (H : HL) (rp a1 a2 a3 wp M M2 : Nat) (sk sr : RS) (R : HL) : Prop :=
 ∃ Z1 Z2, (∀ Y, RosAt B (Z1 ++ Y) rp a1 a2 a3 M sk Y) ∧ (∀ Y, RefAt B (Z2 ++ Y) wp M2 sr Y) ∧ H.Perm (Z1 ++ (Z2 ++ R))
section both
variable {H R : HL} {rp a1 a2 a3 wp M M2 : Nat} {sk sr s2 : RS} {f : AFn} {args : List AV}
theorem Both.ros (b : Both B H rp a1 a2 a3 wp M M2 sk sr R) : ∃ X, RosAt B H rp a1 a2 a3 M sk X ∧ ∀ H' s2, RosAt B H' rp a1 a2 a3 M s2 X → Both B H' rp a1 a2 a3 wp M M2 s2 sr R := by
 obtain ⟨Z1, Z2, z1, z2, p⟩ := b
 refine ⟨Z2 ++ R, (z1 _).permL p, fun H' s2 h => ?_⟩
 obtain ⟨Z, z, q⟩ := h.z
 exact ⟨Z, Z2, z, z2, q⟩
theorem Both.ref (b : Both B H rp a1 a2 a3 wp M M2 sk sr R) : ∃ X, RefAt B H wp M2 sr X ∧ ∀ H' s2, RefAt B H' wp M2 s2 X → Both B H' rp a1 a2 a3 wp M M2 sk s2 R := by
 obtain ⟨Z1, Z2, z1, z2, p⟩ := b
 refine ⟨Z1 ++ R, (z2 _).perm (p.trans (permF (by intro f; simp only [AV.cells, pm] <;> omega))), fun H' s2 h => ?_⟩
 obtain ⟨Z, z, q⟩ := h.z
 exact ⟨Z1, Z, z1, z, q.trans (permF (by intro f; simp only [AV.cells, pm] <;> omega))⟩
theorem Both.perm {H' : HL} (b : Both B H rp a1 a2 a3 wp M M2 sk sr R) (q : H'.Perm H) : Both B H' rp a1 a2 a3 wp M M2 sk sr R := by
 obtain ⟨Z1, Z2, z1, z2, p⟩ := b
 exact ⟨Z1, Z2, z1, z2, q.trans p⟩
theorem Both.app (b : Both B H rp a1 a2 a3 wp M M2 sk sr R) (X : HL) : Both B (X ++ H) rp a1 a2 a3 wp M M2 sk sr (X ++ R) := by
 obtain ⟨Z1, Z2, z1, z2, p⟩ := b
 exact ⟨Z1, Z2, z1, z2, (p.append_left X).trans (permF (by intro f; simp only [AV.cells, pm] <;> omega))⟩
theorem Both.cons {x : Nat × AObj} (b : Both B H rp a1 a2 a3 wp M M2 sk sr R) : Both B (x :: H) rp a1 a2 a3 wp M M2 sk sr (x :: R) := b.app [x]
theorem Both.less {R1 : HL} (b : Both B H rp a1 a2 a3 wp M M2 sk sr R) (q : SubP R1 R) : ∃ H3, Both B H3 rp a1 a2 a3 wp M M2 sk sr R1 ∧ SubP H3 H := by
 obtain ⟨Z1, Z2, z1, z2, p⟩ := b
 obtain ⟨G, pg⟩ := q
 refine ⟨_, ⟨Z1, Z2, z1, z2, List.Perm.refl _⟩, G, p.trans ?_⟩
 refine permF fun f => ?_
 have := sum_perm pg f
 simp only [List.map_append, List.sum_append] at this ⊢
 omega
theorem Both.ld {a : AA} {n : Nat} {l : List AV} (b : Both B H rp a1 a2 a3 wp M M2 sk sr R) (h : Ld B R a n l) : Ld B H a n l := by
 obtain ⟨Z1, Z2, z1, z2, p⟩ := b
 exact Ld.perm p (Ld.right (Ld.right h))
theorem onK {P : AV → Prop} (h : ∀ X, RosAt B H rp a1 a2 a3 M sk X → WF B tab f args H fun r H' => P r ∧ RosAt B H' rp a1 a2 a3 M s2 X) (b : Both B H rp a1 a2 a3 wp M M2 sk sr R) : WF B tab f args H fun r H' => P r ∧ Both B H' rp a1 a2 a3 wp M M2 s2 sr R := by
 obtain ⟨X, k, g⟩ := b.ros
 exact (h X k).mono fun r H' ⟨p, k'⟩ => ⟨p, g H' s2 k'⟩
theorem onR {P : AV → Prop} (h : ∀ X, RefAt B H wp M2 sr X → WF B tab f args H fun r H' => P r ∧ RefAt B H' wp M2 s2 X) (b : Both B H rp a1 a2 a3 wp M M2 sk sr R) : WF B tab f args H fun r H' => P r ∧ Both B H' rp a1 a2 a3 wp M M2 sk s2 R := by
 obtain ⟨X, k, g⟩ := b.ref
 exact (h X k).mono fun r H' ⟨p, k'⟩ => ⟨p, g H' s2 k'⟩
end both
structure Inv (M : Nat) (s : RS) : Prop where
 ok : RsOk M s
 ks : KsOk s
section inv
variable {M : Nat} {s : RS} {id : List Nat} {node ix : Int}
theorem Inv.zero (h1 : 1 ≤ M) (h2 : M ≤ 64) : Inv M rs0 := ⟨rs_zero h1 h2, ks_zero⟩
theorem Inv.iNode (h : Inv M s) : Inv M (nodeS M s node id ix).1 := ⟨rs_node h.ok, ks_node h.ks⟩
theorem Inv.iService {x : KS} (h : Inv M s) : Inv M (serviceS M s x ix).1 := ⟨rs_service h.ok, ks_service h.ks⟩
theorem Inv.iCheck {x : KC} (h : Inv M s) : Inv M (checkS M s x ix).1 := ⟨rs_check h.ok, ks_check h.ks⟩
theorem Inv.iDropNode (h : Inv M s) : Inv M (dropNodeS s node ix).1 := ⟨h.ok.subs dropNode_sub.1 dropNode_sub.2.1 dropNode_sub.2.2, h.ks.subs dropNode_sub.1 dropNode_sub.2.1 dropNode_sub.2.2⟩
theorem Inv.iDropService (h : Inv M s) : Inv M (dropServiceS s node id ix).1 := ⟨h.ok.subs dropService_sub.1 dropService_sub.2.1 dropService_sub.2.2, h.ks.subs dropService_sub.1 dropService_sub.2.1 dropService_sub.2.2⟩
theorem Inv.iDropCheck (h : Inv M s) : Inv M (dropCheckS s node id ix).1 := ⟨h.ok.subs dropCheck_sub.1 dropCheck_sub.2.1 dropCheck_sub.2.2, h.ks.subs dropCheck_sub.1 dropCheck_sub.2.1 dropCheck_sub.2.2⟩
end inv
structure St where
 kind : Int
 node : Int
 text : List Nat
 sv : KS
 tv : AV
 sjm : Int
 sji : Int
 ck : KC
 cjm : Int
 cji : Int
 ix : Int
def stepC (t : St) : List AV := [.int .i64 t.kind, .int .i64 t.node, .str t.text, .int .i64 t.sv.node, .str t.sv.id, .str t.sv.name, t.tv, .int .i64 t.sv.port, .int .u64 t.sjm, .int .u64 t.sji, .int .i64 t.ck.node, .str t.ck.id, .str t.ck.svc, .str t.ck.note, .int .i64 t.ck.st, .int .u64 t.cjm, .int .u64 t.cji, .int .u64 t.ix]
structure StIs (B : Nat → List AV) (t : St) : Prop where
 s : SvIs B [] t.sv t.tv
 c : CkIs t.ck
 x : t.text.length ≤ 140737488351232
theorem SvIs.any {G : HL} {x : KS} {tv : AV} (hx : SvIs B [] x tv) : SvIs B G x tv := ⟨SlIs.left hx.t, SrcIs.left hx.u, hx.l, hx.i, hx.n, hx.s⟩
noncomputable def stepS (M : Nat) (s : RS) (t : St) : RS :=
 if t.kind = Int.ofNat 0 then (nodeS M s t.node t.text t.ix).1
 else if t.kind = Int.ofNat 1 then (dropNodeS s t.node t.ix).1
 else if t.kind = Int.ofNat 2 then (serviceS M s t.sv t.ix).1
 else if t.kind = Int.ofNat 3 then (dropServiceS s t.node t.text t.ix).1
 else if t.kind = Int.ofNat 4 then (checkS M s t.ck t.ix).1
 else if t.kind = Int.ofNat 5 then (dropCheckS s t.node t.text t.ix).1
 else s
theorem Inv.step {M : Nat} {s : RS} {t : St} (h : Inv M s) : Inv M (stepS M s t) := by
 unfold stepS
 split
 ·exact h.iNode
 split
 ·exact h.iDropNode
 split
 ·exact h.iService
 split
 ·exact h.iDropService
 split
 ·exact h.iCheck
 split
 ·exact h.iDropCheck
 ·exact h
theorem WOps.eqlN {T : Tr FnI} {t : EL} {H : HL} {Q : EL → HL → Prop} {os : List AOper} {k : Nat} {g : Option (Nat × Bool)} {x y : AO} {ki : IntKind} {m n : Int} (hg : wantedL g t = some true) (hx : gl t x = some (.int ki m)) (hy : gl t y = some (.int ki n)) (hne : ¬ m = n)
  (w : WOps B T os ((k, .bool false) :: t) H Q) : WOps B T (⟨some k, .bin .eql x y, g⟩ :: os) t H Q := by
 refine zM (op := .eql) rfl hg hx hy fun v hv => ?_
 have : v = false := by rw [Bool.eq_false_iff]; exact fun h => hne (hv.1 h)
 rw [this]; exact w
section step
variable {H R : HL} {rp a1 a2 a3 wp M M2 : Nat} {sk sr : RS} {node ix sjm sji cjm cji : Int} {text : List Nat} {sv : KS} {tv : AV} {ck : KC}
set_option maxHeartbeats 2000000 in
theorem step9_0 (ik : Inv M sk) (ir : Inv M2 sr) (ht : StIs B ⟨Int.ofNat 0, node, text, sv, tv, sjm, sji, ck, cjm, cji, ix⟩) (b : Both B H rp a1 a2 a3 wp M M2 sk sr R) :
    WF B tab (.func 9) [.ptr ⟨false, rp, 0⟩, .ptr ⟨false, wp, 0⟩, .agg (stepC ⟨Int.ofNat 0, node, text, sv, tv, sjm, sji, ck, cjm, cji, ix⟩)] H fun r H' => ∃ c : Bool, r = .bool c ∧ (sk = sr → M = M2 → c = true) ∧ Both B H' rp a1 a2 a3 wp M M2 (nodeS M sk node text ix).1 (nodeS M2 sr node text ix).1 R := by
  refine zY ?_
  refine WF.fn g9 rfl ?_
  have ct := ht.s.t.cell
  refine zE (zD ?_)
  repeat' (first
    | apply zC | (apply yC; rfl; rfl; (· repeat' (first | rfl | assumption | apply ac1)); intro _) | (apply zB; rfl; (intro _; rfl)))
  rename_i p5
  have b0 := b.cons (x := (p5, .row (stepC ⟨Int.ofNat 0, node, text, sv, tv, sjm, sji, ck, cjm, cji, ix⟩)))
  repeat' (first
    | apply zC | apply zE | apply zD | apply zL | (apply zS; rfl) | apply zK | apply zT | apply zW | (apply zF; rfl; rfl; (first | exact ld0 rfl | exact ld1 rfl | exact ld2 rfl); rfl) | (apply zI; rfl; · repeat' (first | refine at1 ?_ rfl | apply at2 | exact same0 | refine same1 ?_ rfl | apply same2 | exact rd_ld rfl ((by first | exact ld0 rfl | exact b1.ld (ld0 rfl))) rfl)) | (apply yI; rfl; rfl; exact onK (B := B) (fun X k => node25_ok ik.ok k) b0; rintro _ H1 ⟨rfl, b1⟩) | (apply yI; rfl; rfl; exact onR (B := B) (fun X k => nodeR_ok ir.ok ir.ks k) b1; rintro _ H2 ⟨rfl, b2⟩) | (apply WOps.eqlT; rfl; rfl; rfl; decide) | (apply zB; rfl; (intro _; rfl)) | (apply WD.cmp; rfl; rfl; rfl; rfl; intro _ _) | (apply zQ; rfl; (intro _; rfl)))
  obtain ⟨H3, b3, s3⟩ := b2.less (R1 := R) (subF (by intro f; simp only [AV.cells, pm] <;> omega))
  refine ⟨trivial, [_], ⟨_, [], rfl, rfl, rfl⟩, H3, ⟨_, rfl, ?_, b3⟩, s3⟩
  rintro rfl rfl
  first
    | rfl
    | (have h0 := ‹_ = true ↔ cmpP BinOp.eql _ _›
       exact h0.2 rfl)
set_option maxHeartbeats 2000000 in
theorem step9_1 (ik : Inv M sk) (ir : Inv M2 sr) (ht : StIs B ⟨Int.ofNat 1, node, text, sv, tv, sjm, sji, ck, cjm, cji, ix⟩) (b : Both B H rp a1 a2 a3 wp M M2 sk sr R) :
    WF B tab (.func 9) [.ptr ⟨false, rp, 0⟩, .ptr ⟨false, wp, 0⟩, .agg (stepC ⟨Int.ofNat 1, node, text, sv, tv, sjm, sji, ck, cjm, cji, ix⟩)] H fun r H' => ∃ c : Bool, r = .bool c ∧ (sk = sr → M = M2 → c = true) ∧ Both B H' rp a1 a2 a3 wp M M2 (dropNodeS sk node ix).1 (dropNodeS sr node ix).1 R := by
  refine zY ?_
  refine WF.fn g9 rfl ?_
  have ct := ht.s.t.cell
  refine zE (zD ?_)
  repeat' (first
    | apply zC | (apply yC; rfl; rfl; (· repeat' (first | rfl | assumption | apply ac1)); intro _) | (apply zB; rfl; (intro _; rfl)))
  rename_i p5
  have b0 := b.cons (x := (p5, .row (stepC ⟨Int.ofNat 1, node, text, sv, tv, sjm, sji, ck, cjm, cji, ix⟩)))
  repeat' (first
    | apply zC | apply zE | apply zD | apply zL | (apply zS; rfl) | (apply zO; rfl) | apply zK | apply zT | apply zW | (apply zF; rfl; rfl; (first | exact ld0 rfl | exact ld1 rfl | exact ld2 rfl); rfl) | (apply zI; rfl; · repeat' (first | refine at1 ?_ rfl | apply at2 | exact same0 | refine same1 ?_ rfl | apply same2 | exact rd_ld rfl ((by first | exact ld0 rfl | exact b1.ld (ld0 rfl))) rfl)) | (apply yI; rfl; rfl; exact onK (B := B) (fun X k => dropNode27_at ik.ok k) b0; rintro _ H1 ⟨rfl, b1⟩) | (apply yI; rfl; rfl; exact onR (B := B) (fun X k => dropNode28_ok ir.ok ir.ks k) b1; rintro _ H2 ⟨rfl, b2⟩) | (apply WOps.eqlF; rfl; rfl; rfl; decide) | (apply WOps.eqlT; rfl; rfl; rfl; decide) | (apply zB; rfl; (intro _; rfl)) | (apply WD.cmp; rfl; rfl; rfl; rfl; intro _ _) | (apply zQ; rfl; (intro _; rfl)))
  obtain ⟨H3, b3, s3⟩ := b2.less (R1 := R) (subF (by intro f; simp only [AV.cells, pm] <;> omega))
  refine ⟨trivial, [_], ⟨_, [], rfl, rfl, rfl⟩, H3, ⟨_, rfl, ?_, b3⟩, s3⟩
  rintro rfl rfl
  first
    | rfl
    | (have h0 := ‹_ = true ↔ cmpP BinOp.eql _ _›
       exact h0.2 rfl)
set_option maxHeartbeats 2000000 in
theorem step9_2 (ik : Inv M sk) (ir : Inv M2 sr) (ht : StIs B ⟨Int.ofNat 2, node, text, sv, tv, sjm, sji, ck, cjm, cji, ix⟩) (b : Both B H rp a1 a2 a3 wp M M2 sk sr R) :
    WF B tab (.func 9) [.ptr ⟨false, rp, 0⟩, .ptr ⟨false, wp, 0⟩, .agg (stepC ⟨Int.ofNat 2, node, text, sv, tv, sjm, sji, ck, cjm, cji, ix⟩)] H fun r H' => ∃ c : Bool, r = .bool c ∧ (sk = sr → M = M2 → c = true) ∧ Both B H' rp a1 a2 a3 wp M M2 (serviceS M sk sv ix).1 (serviceS M2 sr sv ix).1 R := by
  refine zY ?_
  refine WF.fn g9 rfl ?_
  have ct := ht.s.t.cell
  refine zE (zD ?_)
  repeat' (first
    | apply zC | (apply yC; rfl; rfl; (· repeat' (first | rfl | assumption | apply ac1)); intro _) | (apply zB; rfl; (intro _; rfl)))
  rename_i p5
  have b0 := b.cons (x := (p5, .row (stepC ⟨Int.ofNat 2, node, text, sv, tv, sjm, sji, ck, cjm, cji, ix⟩)))
  repeat' (first
    | apply zC | apply zE | apply zD | apply zL | (apply zS; rfl) | (apply zO; rfl) | apply zK | apply zT | apply zW | (apply zF; rfl; rfl; (first | exact ld0 rfl | exact ld1 rfl | exact ld2 rfl); rfl) | (apply zI; rfl; · repeat' (first | refine at1 ?_ rfl | apply at2 | exact same0 | refine same1 ?_ rfl | apply same2 | exact rd_ld rfl ((by first | exact ld0 rfl | exact b1.ld (ld0 rfl))) rfl)) | (apply yI; rfl; rfl; exact onK (B := B) (fun X k => service29_ok ik.ok k ht.s.any) b0; rintro _ H1 ⟨rfl, b1⟩) | (apply yI; rfl; rfl; exact onR (B := B) (fun X k => serviceR_ok ir.ok ir.ks k ht.s) b1; rintro _ H2 ⟨rfl, b2⟩) | (apply WOps.eqlF; rfl; rfl; rfl; decide) | (apply WOps.eqlT; rfl; rfl; rfl; decide) | (apply zB; rfl; (intro _; rfl)) | (apply WD.cmp; rfl; rfl; rfl; rfl; intro _ _) | (apply zQ; rfl; (intro _; rfl)))
  obtain ⟨H3, b3, s3⟩ := b2.less (R1 := R) (subF (by intro f; simp only [AV.cells, pm] <;> omega))
  refine ⟨trivial, [_], ⟨_, [], rfl, rfl, rfl⟩, H3, ⟨_, rfl, ?_, b3⟩, s3⟩
  rintro rfl rfl
  first
    | rfl
    | (have h0 := ‹_ = true ↔ cmpP BinOp.eql _ _›
       exact h0.2 rfl)
set_option maxHeartbeats 2000000 in
theorem step9_3 (ik : Inv M sk) (ir : Inv M2 sr) (ht : StIs B ⟨Int.ofNat 3, node, text, sv, tv, sjm, sji, ck, cjm, cji, ix⟩) (b : Both B H rp a1 a2 a3 wp M M2 sk sr R) :
    WF B tab (.func 9) [.ptr ⟨false, rp, 0⟩, .ptr ⟨false, wp, 0⟩, .agg (stepC ⟨Int.ofNat 3, node, text, sv, tv, sjm, sji, ck, cjm, cji, ix⟩)] H fun r H' => ∃ c : Bool, r = .bool c ∧ (sk = sr → M = M2 → c = true) ∧ Both B H' rp a1 a2 a3 wp M M2 (dropServiceS sk node text ix).1 (dropServiceS sr node text ix).1 R := by
  refine zY ?_
  refine WF.fn g9 rfl ?_
  have ct := ht.s.t.cell
  refine zE (zD ?_)
  repeat' (first
    | apply zC | (apply yC; rfl; rfl; (· repeat' (first | rfl | assumption | apply ac1)); intro _) | (apply zB; rfl; (intro _; rfl)))
  rename_i p5
  have b0 := b.cons (x := (p5, .row (stepC ⟨Int.ofNat 3, node, text, sv, tv, sjm, sji, ck, cjm, cji, ix⟩)))
  repeat' (first
    | apply zC | apply zE | apply zD | apply zL | (apply zS; rfl) | (apply zO; rfl) | apply zK | apply zT | apply zW | (apply zF; rfl; rfl; (first | exact ld0 rfl | exact ld1 rfl | exact ld2 rfl); rfl) | (apply zI; rfl; · repeat' (first | refine at1 ?_ rfl | apply at2 | exact same0 | refine same1 ?_ rfl | apply same2 | exact rd_ld rfl ((by first | exact ld0 rfl | exact b1.ld (ld0 rfl))) rfl)) | (apply yI; rfl; rfl; exact onK (B := B) (fun X k => dropService31_at ik.ok ht.x k) b0; rintro _ H1 ⟨rfl, b1⟩) | (apply yI; rfl; rfl; exact onR (B := B) (fun X k => dropService32_ok ir.ok ir.ks k) b1; rintro _ H2 ⟨rfl, b2⟩) | (apply WOps.eqlF; rfl; rfl; rfl; decide) | (apply WOps.eqlT; rfl; rfl; rfl; decide) | (apply zB; rfl; (intro _; rfl)) | (apply WD.cmp; rfl; rfl; rfl; rfl; intro _ _) | (apply zQ; rfl; (intro _; rfl)))
  obtain ⟨H3, b3, s3⟩ := b2.less (R1 := R) (subF (by intro f; simp only [AV.cells, pm] <;> omega))
  refine ⟨trivial, [_], ⟨_, [], rfl, rfl, rfl⟩, H3, ⟨_, rfl, ?_, b3⟩, s3⟩
  rintro rfl rfl
  first
    | rfl
    | (have h0 := ‹_ = true ↔ cmpP BinOp.eql _ _›
       exact h0.2 rfl)
set_option maxHeartbeats 2000000 in
theorem step9_4 (ik : Inv M sk) (ir : Inv M2 sr) (ht : StIs B ⟨Int.ofNat 4, node, text, sv, tv, sjm, sji, ck, cjm, cji, ix⟩) (b : Both B H rp a1 a2 a3 wp M M2 sk sr R) :
    WF B tab (.func 9) [.ptr ⟨false, rp, 0⟩, .ptr ⟨false, wp, 0⟩, .agg (stepC ⟨Int.ofNat 4, node, text, sv, tv, sjm, sji, ck, cjm, cji, ix⟩)] H fun r H' => ∃ c : Bool, r = .bool c ∧ (sk = sr → M = M2 → c = true) ∧ Both B H' rp a1 a2 a3 wp M M2 (checkS M sk ck ix).1 (checkS M2 sr ck ix).1 R := by
  refine zY ?_
  refine WF.fn g9 rfl ?_
  have ct := ht.s.t.cell
  refine zE (zD ?_)
  repeat' (first
    | apply zC | (apply yC; rfl; rfl; (· repeat' (first | rfl | assumption | apply ac1)); intro _) | (apply zB; rfl; (intro _; rfl)))
  rename_i p5
  have b0 := b.cons (x := (p5, .row (stepC ⟨Int.ofNat 4, node, text, sv, tv, sjm, sji, ck, cjm, cji, ix⟩)))
  repeat' (first
    | apply zC | apply zE | apply zD | apply zL | (apply zS; rfl) | (apply zO; rfl) | apply zK | apply zT | apply zW | (apply zF; rfl; rfl; (first | exact ld0 rfl | exact ld1 rfl | exact ld2 rfl); rfl) | (apply zI; rfl; · repeat' (first | refine at1 ?_ rfl | apply at2 | exact same0 | refine same1 ?_ rfl | apply same2 | exact rd_ld rfl ((by first | exact ld0 rfl | exact b1.ld (ld0 rfl))) rfl)) | (apply yI; rfl; rfl; exact onK (B := B) (fun X k => check18_ok ik.ok k ht.c) b0; rintro _ H1 ⟨rfl, b1⟩) | (apply yI; rfl; rfl; exact onR (B := B) (fun X k => checkR_ok ir.ok ir.ks k ht.c) b1; rintro _ H2 ⟨rfl, b2⟩) | (apply WOps.eqlF; rfl; rfl; rfl; decide) | (apply WOps.eqlT; rfl; rfl; rfl; decide) | (apply zB; rfl; (intro _; rfl)) | (apply WD.cmp; rfl; rfl; rfl; rfl; intro _ _) | (apply zQ; rfl; (intro _; rfl)))
  obtain ⟨H3, b3, s3⟩ := b2.less (R1 := R) (subF (by intro f; simp only [AV.cells, pm] <;> omega))
  refine ⟨trivial, [_], ⟨_, [], rfl, rfl, rfl⟩, H3, ⟨_, rfl, ?_, b3⟩, s3⟩
  rintro rfl rfl
  first
    | rfl
    | (have h0 := ‹_ = true ↔ cmpP BinOp.eql _ _›
       exact h0.2 rfl)
set_option maxHeartbeats 2000000 in
theorem step9_5 (ik : Inv M sk) (ir : Inv M2 sr) (ht : StIs B ⟨Int.ofNat 5, node, text, sv, tv, sjm, sji, ck, cjm, cji, ix⟩) (b : Both B H rp a1 a2 a3 wp M M2 sk sr R) :
    WF B tab (.func 9) [.ptr ⟨false, rp, 0⟩, .ptr ⟨false, wp, 0⟩, .agg (stepC ⟨Int.ofNat 5, node, text, sv, tv, sjm, sji, ck, cjm, cji, ix⟩)] H fun r H' => ∃ c : Bool, r = .bool c ∧ (sk = sr → M = M2 → c = true) ∧ Both B H' rp a1 a2 a3 wp M M2 (dropCheckS sk node text ix).1 (dropCheckS sr node text ix).1 R := by
  refine zY ?_
  refine WF.fn g9 rfl ?_
  have ct := ht.s.t.cell
  refine zE (zD ?_)
  repeat' (first
    | apply zC | (apply yC; rfl; rfl; (· repeat' (first | rfl | assumption | apply ac1)); intro _) | (apply zB; rfl; (intro _; rfl)))
  rename_i p5
  have b0 := b.cons (x := (p5, .row (stepC ⟨Int.ofNat 5, node, text, sv, tv, sjm, sji, ck, cjm, cji, ix⟩)))
  repeat' (first
    | apply zC | apply zE | apply zD | apply zL | (apply zS; rfl) | (apply zO; rfl) | apply zK | apply zT | apply zW | (apply zF; rfl; rfl; (first | exact ld0 rfl | exact ld1 rfl | exact ld2 rfl); rfl) | (apply zI; rfl; · repeat' (first | refine at1 ?_ rfl | apply at2 | exact same0 | refine same1 ?_ rfl | apply same2 | exact rd_ld rfl ((by first | exact ld0 rfl | exact b1.ld (ld0 rfl))) rfl)) | (apply yI; rfl; rfl; exact onK (B := B) (fun X k => dropCheck19_at ik.ok ht.x k) b0; rintro _ H1 ⟨rfl, b1⟩) | (apply yI; rfl; rfl; exact onR (B := B) (fun X k => dropCheck34_ok ir.ok ir.ks k) b1; rintro _ H2 ⟨rfl, b2⟩) | (apply WOps.eqlF; rfl; rfl; rfl; decide) | (apply WOps.eqlT; rfl; rfl; rfl; decide) | (apply zB; rfl; (intro _; rfl)) | (apply WD.cmp; rfl; rfl; rfl; rfl; intro _ _) | (apply zQ; rfl; (intro _; rfl)))
  obtain ⟨H3, b3, s3⟩ := b2.less (R1 := R) (subF (by intro f; simp only [AV.cells, pm] <;> omega))
  refine ⟨trivial, [_], ⟨_, [], rfl, rfl, rfl⟩, H3, ⟨_, rfl, ?_, b3⟩, s3⟩
  rintro rfl rfl
  first
    | rfl
    | (have h0 := ‹_ = true ↔ cmpP BinOp.eql _ _›
       exact h0.2 rfl)
theorem step9_o {kind : Int} (hne : ¬ kind = Int.ofNat 0 ∧ ¬ kind = Int.ofNat 1 ∧ ¬ kind = Int.ofNat 2 ∧ ¬ kind = Int.ofNat 3 ∧ ¬ kind = Int.ofNat 4 ∧ ¬ kind = Int.ofNat 5 ∧ ¬ kind = Int.ofNat 6) (ht : StIs B ⟨kind, node, text, sv, tv, sjm, sji, ck, cjm, cji, ix⟩) (b : Both B H rp a1 a2 a3 wp M M2 sk sr R) :
  WF B tab (.func 9) [.ptr ⟨false, rp, 0⟩, .ptr ⟨false, wp, 0⟩, .agg (stepC ⟨kind, node, text, sv, tv, sjm, sji, ck, cjm, cji, ix⟩)] H fun r H' => ∃ c : Bool, r = .bool c ∧ (sk = sr → M = M2 → c = true) ∧ Both B H' rp a1 a2 a3 wp M M2 sk sr R := by
 obtain ⟨n0, n1, n2, n3, n4, n5, n6⟩ := hne
 refine zY ?_
 refine WF.fn g9 rfl ?_
 have ct := ht.s.t.cell
 repeat' (first
  | apply zC | apply zE | apply zD | apply zJ | apply zL | (apply zO; rfl) | apply zK | (apply zF; rfl; rfl; (first | exact ld0 rfl | exact ld1 rfl | exact ld2 rfl); rfl) | (apply yC; rfl; rfl; (· repeat' (first | rfl | assumption | apply ac1)); intro _) | (apply WOps.eqlN; rfl; rfl; rfl; assumption) | (apply zB; rfl; (intro _; rfl)))
 exact ⟨trivial, [_], ⟨_, [], rfl, rfl, rfl⟩, H, ⟨true, rfl, fun _ _ => rfl, b⟩, subF (by intro f; simp only [AV.cells, pm] <;> omega)⟩
end step
theorem WD.eqA3b {T : Tr FnI} {t : EL} {H : HL} {HH : List (Nat × HL)} {Q : EL → HL → Prop} {os : List DOper} {k : Nat} {g : Option (Nat × Bool)} {i bs : Nat} {x y : AO} {a b c d e f : Int} (hg : wantedL g t = some true) (hx : gl t x = some (.agg [.int .u64 a, .int .u64 b, .int .u64 c])) (hy : gl t y = some (.agg [.int .u64 d, .int .u64 e, .int .u64 f]))
  (w : ∀ v : Bool, WD B T os ((k, .bool v) :: t) H HH Q) : WD B T (⟨⟨some k, .eq false (.arr 3 1 false .int) x y, g⟩, .quiet, i, bs⟩ :: os) t H HH Q := by
 obtain ⟨v, hv⟩ : ∃ v : Bool, aEq (.arr 3 1 false .int) (.agg [.int .u64 a, .int .u64 b, .int .u64 c]) (.agg [.int .u64 d, .int .u64 e, .int .u64 f]) = some v := by
  cases ha : (a == d) <;> cases hb : (b == e) <;> cases hc : (c == f) <;> simp [aEq, two, eqArr, eqInt, partOf, ha, hb, hc]
 exact zQ (v := .bool v) hg (fun h => by simp only [aopL, hx, hy, hv, pure1]) (w v)
section nil
variable {H : HL} {v w : AV}
theorem same36_nil {l : List (TE KN)} (hv : SlIs B H v 4 (l.map entN)) (hw : SlIs B H w 4 (([] : List (TE KN)).map entN)) (hl : l.length ≤ 1000000000) :
  WF B tab (.func 36) [v, w] H fun r H' => H' = H ∧ ∃ c : Bool, r = .bool c := by
 cases l with
 | nil => exact (same36_true hv hw hl).mono fun r H' ⟨h1, h2⟩ => ⟨h1, _, h2⟩
 | cons e l =>
  refine WF.fnR g36 rfl ?_
  repeat' (first
   | apply zC | apply zE | apply zD | apply zJ | apply zL | apply zK | (apply zU; rfl; rfl; exact hv) | (apply zU; rfl; rfl; exact hw) | (apply zM; rfl; rfl; rfl; rfl; intro _ _) | (apply zB; rfl; (intro _; rfl)) | (apply zN; rfl; all_goals (intro hb; try subst hb)))
  ·exact ⟨trivial, List.Sublist.refl _, [_], ⟨_, [], rfl, rfl, rfl⟩, _, rfl⟩
  ·have h0 := eq_of_ff ‹false = true ↔ cmpP BinOp.neq _ _›
   simp [cmpP] at h0
   omega
theorem same38_nil {l : List (TE KC)} (hv : SlIs B H v 7 (l.map entC)) (hw : SlIs B H w 7 (([] : List (TE KC)).map entC)) (hl : l.length ≤ 1000000000) :
  WF B tab (.func 38) [v, w] H fun r H' => H' = H ∧ ∃ c : Bool, r = .bool c := by
 cases l with
 | nil => exact (same38_true hv hw hl).mono fun r H' ⟨h1, h2⟩ => ⟨h1, _, h2⟩
 | cons e l =>
  refine WF.fnR g38 rfl ?_
  repeat' (first
   | apply zC | apply zE | apply zD | apply zJ | apply zL | apply zK | (apply zU; rfl; rfl; exact hv) | (apply zU; rfl; rfl; exact hw) | (apply zM; rfl; rfl; rfl; rfl; intro _ _) | (apply zB; rfl; (intro _; rfl)) | (apply zN; rfl; all_goals (intro hb; try subst hb)))
  ·exact ⟨trivial, List.Sublist.refl _, [_], ⟨_, [], rfl, rfl, rfl⟩, _, rfl⟩
  ·have h0 := eq_of_ff ‹false = true ↔ cmpP BinOp.neq _ _›
   simp [cmpP] at h0
   omega
theorem same37_nil {l : List (TE KS × AV)} (hv : SlIs B H v 7 (l.map fun p => entS p.1 p.2)) (hw : SlIs B H w 7 (([] : List (TE KS × AV)).map fun p => entS p.1 p.2)) (hl : l.length ≤ 1000000000) :
  WF B tab (.func 37) [v, w] H fun r H' => H' = H ∧ ∃ c : Bool, r = .bool c := by
 cases l with
 | nil => exact (same37_true hv hw rfl (fun p hp => by cases hp) (fun p hp => by cases hp) hl (fun p hp => by cases hp)).mono fun r H' ⟨h1, h2⟩ => ⟨h1, _, h2⟩
 | cons e l =>
  refine WF.fnR g37 rfl ?_
  repeat' (first
   | apply zC | apply zE | apply zD | apply zJ | apply zL | apply zK | (apply zU; rfl; rfl; exact hv) | (apply zU; rfl; rfl; exact hw) | (apply zM; rfl; rfl; rfl; rfl; intro _ _) | (apply zB; rfl; (intro _; rfl)) | (apply zN; rfl; all_goals (intro hb; try subst hb)))
  ·exact ⟨trivial, List.Sublist.refl _, [_], ⟨_, [], rfl, rfl, rfl⟩, _, rfl⟩
  ·have h0 := eq_of_ff ‹false = true ↔ cmpP BinOp.neq _ _›
   simp [cmpP] at h0
   omega
end nil
set_option maxHeartbeats 4000000 in
theorem same10_nil {H R R2 : HL} {rp a1 a2 a3 wp M M2 : Nat} {s : RS} (ok : RsOk M s) (h : RosAt B H rp a1 a2 a3 M s R) (r : RefAt B H wp M2 rs0 R2) :
  WF B tab (.func 10) [.ptr ⟨false, rp, 0⟩, .ptr ⟨false, wp, 0⟩] H fun r H' => H' = H ∧ ∃ c : Bool, r = .bool c := by
 obtain ⟨ps, v1, v2, v3, e1, hp, row, q1, q2, q3⟩ := r.rd
 obtain rfl : ps = [] := by cases ps with | nil => rfl | cons p l => cases e1
 have L1 := row.part 1 1 (by omega)
 have L2 := row.part 2 1 (by omega)
 have L3 := row.part 3 1 (by omega)
 have L4 := row.part 4 3 (by omega)
 have n1 : s.ns.length ≤ 1000000000 := by have := ok.n1; have := ok.m2; omega
 have n2 : s.ss.length ≤ 1000000000 := by have := ok.n2; have := ok.m2; omega
 have n3 : s.cs.length ≤ 1000000000 := by have := ok.n3; have := ok.m2; omega
 have ql : ∀ qs : List (TE KS × AV), qs.map (·.1) = s.ss.map (fun e => (⟨[], e.v, e.mke, e.ix⟩ : TE KS)) → qs.length ≤ 1000000000 := fun qs e => by
  have := congrArg List.length e
  rw [List.length_map, List.length_map] at this; omega
 refine zY ?_
 refine WF.fn g10 rfl ?_
 repeat' (first
  | apply zC | apply zE | apply zD | apply zL | apply zT | apply zW | (apply yI; rfl; rfl; exact told14_at ok h; rintro t9 _ ⟨h9, o9, rfl⟩) | (apply zI; rfl; · repeat' (first | refine at1 ?_ rfl | apply at2 | exact same0 | refine same1 ?_ rfl | apply same2 | exact rd_ld rfl ((by first | exact L1 | exact Ld.right L1)) rfl)) | (apply WD.clR; rfl; rfl; exact same36_nil (SlIs.left (entsN_sl o9)) (SlIs.right q1) n1; rintro _ ⟨c1, rfl⟩; cases c1) | (apply yI; rfl; rfl; exact told15_at ok (h.add h9); rintro t11 _ ⟨h11, G11, qs, hqs, o11, hin, rfl⟩) | (apply zI; rfl; · repeat' (first | refine at1 ?_ rfl | apply at2 | exact same0 | refine same1 ?_ rfl | apply same2 | exact rd_ld rfl ((by first | exact L2 | exact Ld.right L2 | exact Ld.right (Ld.right (Ld.right L2)))) rfl)) | (apply WD.clR; rfl; rfl; exact same37_nil (SlIs.left (entP_sl o11)) (SlIs.right (SlIs.right (SlIs.right q2))) (ql qs hqs); rintro _ ⟨c2, rfl⟩; cases c2) | (apply yI; rfl; rfl; exact told16_at ok (((h.add h9).add G11).add h11); rintro t13 _ ⟨h13, o13, rfl⟩) | (apply zI; rfl; · repeat' (first | refine at1 ?_ rfl | apply at2 | exact same0 | refine same1 ?_ rfl | apply same2 | exact rd_ld rfl ((by first | exact L3 | exact Ld.right L3 | exact Ld.right (Ld.right (Ld.right L3)) | exact Ld.right (Ld.right (Ld.right (Ld.right L3))))) rfl)) | (apply WD.clR; rfl; rfl; exact same38_nil (SlIs.left (entsC_sl o13)) (SlIs.right (SlIs.right (SlIs.right (SlIs.right q3)))) n3; rintro _ ⟨c3, rfl⟩; cases c3) | (apply WD.clR; rfl; rfl; exact last21_ok ok ((((h.add h9).add G11).add h11).add h13); rintro _ rfl) | (apply zI; rfl; · repeat' (first | refine at1 ?_ rfl | apply at2 | exact same0 | refine same1 ?_ rfl | apply same2 | exact rd_ld rfl ((by first | exact L4 | exact Ld.right L4 | exact Ld.right (Ld.right (Ld.right L4)) | exact Ld.right (Ld.right (Ld.right (Ld.right L4))))) rfl)) | (apply WD.eqA3b; rfl; rfl; rfl; intro _) | (apply zB; rfl; (intro _; rfl)) | (apply zQ; rfl; (intro _; rfl)) | (apply WD.skp; rfl) | (apply WD.skpL; rfl) | (apply WD.skpX; rfl))
 all_goals exact ⟨trivial, [_], ⟨_, [], rfl, rfl, rfl⟩, H, ⟨rfl, _, rfl⟩, subF (by intro f; simp only [AV.cells, pm] <;> omega)⟩
section step
variable {H R : HL} {rp a1 a2 a3 wp M M2 : Nat} {sk sr : RS} {node ix sjm sji cjm cji : Int} {text : List Nat} {sv : KS} {tv : AV} {ck : KC}
theorem RefAt.add {wp : Nat} {s : RS} (h : RefAt B H wp M s R) (X : HL) : RefAt B (X ++ H) wp M s (X ++ R) := by
 induction X with
 | nil => exact h
 | cons x X ih => exact ih.cons
set_option maxHeartbeats 2000000 in
theorem step9_6 (ik : Inv M sk) (ir : Inv M2 sr) (hs : (sk = sr ∧ M = M2) ∨ sr = rs0) (ht : StIs B ⟨Int.ofNat 6, node, text, sv, tv, sjm, sji, ck, cjm, cji, ix⟩) (b : Both B H rp a1 a2 a3 wp M M2 sk sr R) :
  WF B tab (.func 9) [.ptr ⟨false, rp, 0⟩, .ptr ⟨false, wp, 0⟩, .agg (stepC ⟨Int.ofNat 6, node, text, sv, tv, sjm, sji, ck, cjm, cji, ix⟩)] H fun r H' => ∃ c : Bool, r = .bool c ∧ (sk = sr → M = M2 → c = true) ∧ Both B H' rp a1 a2 a3 wp M M2 sk sr R := by
 refine zY ?_
 refine WF.fn g9 rfl ?_
 have ct := ht.s.t.cell
 refine zE (zD ?_)
 repeat' (first
  | apply zC | (apply yC; rfl; rfl; (· repeat' (first | rfl | assumption | apply ac1)); intro _) | (apply zB; rfl; (intro _; rfl)))
 rename_i p5
 have b0 := b.cons (x := (p5, .row (stepC ⟨Int.ofNat 6, node, text, sv, tv, sjm, sji, ck, cjm, cji, ix⟩)))
 simp only [AV.cells]
 generalize hHp : (p5, AObj.row (stepC ⟨Int.ofNat 6, node, text, sv, tv, sjm, sji, ck, cjm, cji, ix⟩)) :: H = Hp at b0 ⊢
 have lp : ∀ n o l, takeN ((stepC ⟨Int.ofNat 6, node, text, sv, tv, sjm, sji, ck, cjm, cji, ix⟩).drop o) n = some l → Ld B Hp ⟨false, p5, o⟩ n l := fun n o l e => by rw [← hHp]; exact Ld.own zG e
 obtain ⟨X0, k0, _⟩ := b0.ros
 obtain ⟨xs, G, hc, tg⟩ := k0.bare
 obtain ⟨X1, r0, _⟩ := b0.ref
 have C := copy35_ok (B := B) ik.ok hc
 have S : ∀ {H1 : HL} {cp b1 b2 b3 : Nat}, RosC H1 cp b1 b2 b3 M sk xs Hp → WF B tab (.func 10) [.ptr ⟨false, cp, 0⟩, .ptr ⟨false, wp, 0⟩] H1 fun r H' => H' = H1 ∧ ∃ c : Bool, r = .bool c ∧ (sk = sr → M = M2 → c = true) := by
  intro H1 cp b1 b2 b3 h1
  obtain ⟨Z, pz, _⟩ := hc.z
  have hA := (h1.permR (pz.trans (permF (by intro f; simp only [AV.cells, pm] <;> omega)) : Hp.Perm (G ++ (Z ++ X0)))).all tg
  obtain ⟨Z1, pz1, _⟩ := h1.z
  have hR := (r0.add Z1).perm pz1
  rcases hs with ⟨rfl, rfl⟩ | rfl
  ·exact (same10_ok ik.ok hA hR).mono fun r H' ⟨q1, q2⟩ => ⟨q1, true, q2, fun _ _ => rfl⟩
  ·by_cases hq : sk = rs0 ∧ M = M2
   ·obtain ⟨rfl, rfl⟩ := hq
    exact (same10_ok ik.ok hA hR).mono fun r H' ⟨q1, q2⟩ => ⟨q1, true, q2, fun _ _ => rfl⟩
   ·exact (same10_nil ik.ok hA hR).mono fun r H' ⟨q1, c, q2⟩ => ⟨q1, c, q2, fun e1 e2 => absurd ⟨e1, e2⟩ hq⟩
 repeat' (first
  | apply zC | apply zE | apply zD | apply zJ | apply zL | (apply zS; rfl) | (apply zO; rfl) | apply zK | (apply zF; rfl; rfl; exact (by first | exact lp _ _ _ rfl | exact h1.ld (lp _ _ _ rfl) | exact h2.ld (lp _ _ _ rfl)); rfl) | (apply WOps.clA; rfl; rfl; exact C; rintro _ H1 ⟨cp, b1, b2, b3, rfl, h1⟩) | (apply WOps.clR; rfl; rfl; exact S h1; rintro _ ⟨c, rfl, hcc⟩; cases c) | (apply WOps.clA; rfl; rfl; exact dropNode27_ok ik.ok h1; rintro _ H2 ⟨rfl, xs', sb, h2⟩) | (apply WOps.clA; rfl; rfl; exact node25_c ik.iDropNode.ok h2; rintro _ H3 ⟨rfl, h3⟩) | (apply WOps.eqlF; rfl; rfl; rfl; decide) | (apply WOps.eqlT; rfl; rfl; rfl; decide) | (apply zB; rfl; (intro _; rfl)))
 ·have sH : SubP H H1 := by
   obtain ⟨Z, pz, _⟩ := h1.z
   rw [← hHp] at pz
   exact ⟨(p5, AObj.row (stepC ⟨Int.ofNat 6, node, text, sv, tv, sjm, sji, ck, cjm, cji, ix⟩)) :: Z, pz.trans (permF (by intro f; simp only [AV.cells, pm] <;> omega))⟩
  exact ⟨trivial, [_], ⟨_, [], rfl, rfl, rfl⟩, H, ⟨false, rfl, hcc, b⟩, sH⟩
 ·have sH : SubP H H3 := by
   obtain ⟨Z, pz, _⟩ := h3.z
   rw [← hHp] at pz
   exact ⟨(p5, AObj.row (stepC ⟨Int.ofNat 6, node, text, sv, tv, sjm, sji, ck, cjm, cji, ix⟩)) :: Z, pz.trans (permF (by intro f; simp only [AV.cells, pm] <;> omega))⟩
  exact ⟨trivial, [_], ⟨_, [], rfl, rfl, rfl⟩, H, ⟨true, rfl, fun _ _ => rfl, b⟩, sH⟩
end step
theorem step9_ok {H R : HL} {rp a1 a2 a3 wp M M2 : Nat} {sk sr : RS} {t : St} (ik : Inv M sk) (ir : Inv M2 sr) (hs : (sk = sr ∧ M = M2) ∨ sr = rs0) (ht : StIs B t) (b : Both B H rp a1 a2 a3 wp M M2 sk sr R) :
  WF B tab (.func 9) [.ptr ⟨false, rp, 0⟩, .ptr ⟨false, wp, 0⟩, .agg (stepC t)] H fun r H' => ∃ c : Bool, r = .bool c ∧ (sk = sr → M = M2 → c = true) ∧ Both B H' rp a1 a2 a3 wp M M2 (stepS M sk t) (stepS M2 sr t) R := by
 obtain ⟨kind, node, text, sv, tv, sjm, sji, ck, cjm, cji, ix⟩ := t
 by_cases h0 : kind = Int.ofNat 0
 ·subst h0; exact step9_0 ik ir ht b
 by_cases h1 : kind = Int.ofNat 1
 ·subst h1; exact step9_1 ik ir ht b
 by_cases h2 : kind = Int.ofNat 2
 ·subst h2; exact step9_2 ik ir ht b
 by_cases h3 : kind = Int.ofNat 3
 ·subst h3; exact step9_3 ik ir ht b
 by_cases h4 : kind = Int.ofNat 4
 ·subst h4; exact step9_4 ik ir ht b
 by_cases h5 : kind = Int.ofNat 5
 ·subst h5; exact step9_5 ik ir ht b
 have e : ∀ M s, stepS M s ⟨kind, node, text, sv, tv, sjm, sji, ck, cjm, cji, ix⟩ = s := fun M s => by
  simp only [stepS, if_neg h0, if_neg h1, if_neg h2, if_neg h3, if_neg h4, if_neg h5]
 rw [e, e]
 by_cases h6 : kind = Int.ofNat 6
 ·subst h6; exact step9_6 ik ir hs ht b
 exact step9_o ⟨h0, h1, h2, h3, h4, h5, h6⟩ ht b
theorem Both.mk0 {H1 H2 R : HL} {rp a1 a2 a3 wp M M2 : Nat} {sk sr : RS} (h : RosAt B H1 rp a1 a2 a3 M sk R) (k : RefAt B H2 wp M2 sr H1) : Both B H2 rp a1 a2 a3 wp M M2 sk sr R := by
 obtain ⟨Z1, z1, p1⟩ := h.z
 obtain ⟨Z2, z2, p2⟩ := k.z
 exact ⟨Z1, Z2, z1, z2, p2.trans ((p1.append_left Z2).trans (permF (by intro f; simp only [AV.cells, pm] <;> omega)))⟩
theorem WD.neI {T : Tr FnI} {t : EL} {H : HL} {HH : List (Nat × HL)} {Q : EL → HL → Prop} {os : List DOper} {k : Nat} {g : Option (Nat × Bool)} {i bs : Nat} {x y : AO} {ki : IntKind} {m : Int} (hg : wantedL g t = some true) (hx : gl t x = some (.int ki m)) (hy : gl t y = some (.int ki m))
  (w : WD B T os ((k, .bool false) :: t) H HH Q) : WD B T (⟨⟨some k, .bin .neq x y, g⟩, .quiet, i, bs⟩ :: os) t H HH Q := by
 refine WD.cmp (op := .neq) rfl hg hx hy fun v hv => ?_
 have : v = false := by rw [Bool.eq_false_iff]; exact fun h => hv.1 h rfl
 rw [this]; exact w
theorem wrongS_iff {s : RS} {x : KS} : wrongS s x = 0 ↔ (0 ≤ x.node ∧ x.node < 8) ∧ 0 ≤ x.port ∧ x.port ≤ 65535 ∧ nameP x.id ∧ nameP x.name ∧ tagsP x.tags ∧ thereK s.ns x.node := by
 unfold wrongS
 split
 ·rename_i h
  constructor
  ·intro k; cases k
  ·rintro ⟨h1, h2, h3, _⟩
   rcases h with h | h | h
   ·exact absurd h1 h
   ·omega
   ·omega
 ·rename_i h
  simp only [not_or, Classical.not_not] at h
  split
  ·rename_i h2
   constructor
   ·intro k; cases k
   ·rintro ⟨_, _, _, k1, k2, k3, _⟩
    exact absurd ⟨k1, k2, k3⟩ h2
  ·rename_i h2
   rw [Classical.not_not] at h2
   split
   ·rename_i h3
    constructor
    ·intro k; cases k
    ·rintro ⟨_, _, _, _, _, _, k⟩
     exact absurd k h3
   ·rename_i h3
    rw [Classical.not_not] at h3
    exact ⟨fun _ => ⟨h.1, by omega, by omega, h2.1, h2.2.1, h2.2.2, h3⟩, fun _ => rfl⟩
theorem wrongC_iff {s : RS} {x : KC} : wrongC s x = 0 ↔ (0 ≤ x.node ∧ x.node < 8) ∧ 0 ≤ x.st ∧ x.st ≤ 3 ∧ nameP x.id ∧ (x.svc = [] ∨ nameP x.svc) ∧ x.note.length ≤ 32 ∧ thereK s.ns x.node ∧ (x.svc ≠ [] → findE s.ss (keyS x.node.toNat x.svc) ≠ none) := by
 unfold wrongC
 split
 ·rename_i h
  constructor
  ·intro k; cases k
  ·rintro ⟨h1, h2, h3, _⟩
   rcases h with h | h | h
   ·exact absurd h1 h
   ·omega
   ·omega
 ·rename_i h
  simp only [not_or, Classical.not_not] at h
  split
  ·rename_i h2
   constructor
   ·intro k; cases k
   ·rintro ⟨_, _, _, k1, k2, _⟩
    exact absurd ⟨k1, k2⟩ h2
  ·rename_i h2
   rw [Classical.not_not] at h2
   split
   ·rename_i h3
    constructor
    ·intro k; cases k
    ·rintro ⟨_, _, _, _, _, k, _⟩
     omega
   ·rename_i h3
    split
    ·rename_i h4
     constructor
     ·intro k; cases k
     ·rintro ⟨_, _, _, _, _, _, k, _⟩
      exact absurd k h4
    ·rename_i h4
     rw [Classical.not_not] at h4
     split
     ·rename_i h5
      constructor
      ·intro k; cases k
      ·rintro ⟨_, _, _, _, _, _, _, k⟩
       exact absurd h5.2 (k h5.1)
     ·rename_i h5
      exact ⟨fun _ => ⟨h.1, by omega, by omega, h2.1, h2.2, by omega, h4, fun k q => h5 ⟨k, q⟩⟩, fun _ => rfl⟩
theorem wrongS_mono {s s' : RS} {x : KS} (h : wrongS s x = 0) (k : thereK s.ns x.node → thereK s'.ns x.node) : wrongS s' x = 0 := by
 rw [wrongS_iff] at h ⊢
 exact ⟨h.1, h.2.1, h.2.2.1, h.2.2.2.1, h.2.2.2.2.1, h.2.2.2.2.2.1, k h.2.2.2.2.2.2⟩
theorem wrongC_mono {s s' : RS} {x : KC} (h : wrongC s x = 0) (k : thereK s.ns x.node → thereK s'.ns x.node) (k2 : x.svc ≠ [] → findE s.ss (keyS x.node.toNat x.svc) ≠ none → findE s'.ss (keyS x.node.toNat x.svc) ≠ none) : wrongC s' x = 0 := by
 rw [wrongC_iff] at h ⊢
 obtain ⟨h1, h2, h3, h4, h5, h6, h7, h8⟩ := h
 exact ⟨h1, h2, h3, h4, h5, h6, k h7, fun q => k2 q (h8 q)⟩
structure Good (s : RS) : Prop where
 gn : ∀ e, e ∈ s.ns → e.v.addr.length ≤ 32
 gs : ∀ e, e ∈ s.ss → wrongS s e.v = 0
 gc : ∀ e, e ∈ s.cs → wrongC s e.v = 0
theorem find_put_any {V : Type} {es : List (TE V)} {e : TE V} {key : List Nat} (so : Rise es) (h : findE es key ≠ none) : findE (putE es e) key ≠ none := by
 by_cases hk : e.key = key
 ·rw [← hk, find_put so]; simp
 ·rw [find_put_ne hk]; exact h
theorem there_put {ns : List (TE KN)} {e : TE KN} {m : Int} (so : Rise ns) (h : thereK ns m) : thereK (putE ns e) m := by
 obtain ⟨n, hn, rfl, h⟩ := h
 exact ⟨n, hn, rfl, find_put_any so h⟩
theorem good_node {M : Nat} {s : RS} {node ix : Int} {addr : List Nat} (ok : RsOk M s) (g : Good s) : Good (nodeS M s node addr ix).1 := by
 unfold nodeS
 split
 ·exact g
 split
 ·exact g
 split
 ·exact g
 ·rename_i h1 h2 h3
  refine ⟨fun e he => ?_, fun e he => wrongS_mono (g.gs e he) (there_put ok.r1), fun e he => wrongC_mono (g.gc e he) (there_put ok.r1) (fun _ k => k)⟩
  rcases mem_put he with he | ⟨_, hv⟩
  ·exact g.gn e he
  ·rw [hv]; simp only; omega
theorem good_service {M : Nat} {s : RS} {x : KS} {ix : Int} (ok : RsOk M s) (g : Good s) : Good (serviceS M s x ix).1 := by
 unfold serviceS
 split
 ·exact g
 split
 ·exact g
 ·rename_i h1 h2
  rw [Classical.not_not] at h1
  refine ⟨g.gn, fun e he => ?_, fun e he => wrongC_mono (g.gc e he) (fun k => k) (fun _ k => find_put_any ok.r2 k)⟩
  rcases mem_put he with he | ⟨_, hv⟩
  ·exact g.gs e he
  ·rw [hv]; exact h1
theorem good_check {M : Nat} {s : RS} {x : KC} {ix : Int} (ok : RsOk M s) (g : Good s) : Good (checkS M s x ix).1 := by
 unfold checkS
 split
 ·exact g
 split
 ·exact g
 ·rename_i h1 h2
  rw [Classical.not_not] at h1
  refine ⟨g.gn, g.gs, fun e he => ?_⟩
  rcases mem_put he with he | ⟨_, hv⟩
  ·exact g.gc e he
  ·rw [hv]; exact h1
theorem mem_cut {V : Type} {p : V → Bool} {es : List (TE V)} {e : TE V} (h : e ∈ cutE p es) : e ∈ es ∧ p e.v = false := by
 unfold cutE at h
 rw [List.mem_filter] at h
 exact ⟨h.1, by simpa using h.2⟩
theorem find_cut {V : Type} {p : V → Bool} {es : List (TE V)} {key : List Nat} (h : findE es key ≠ none) (k : ∀ e, e ∈ es → e.key = key → p e.v = false) : findE (cutE p es) key ≠ none := by
 rw [ne_eq, find_none] at h ⊢
 intro q
 refine h fun e he hk => q e ?_ hk
 unfold cutE
 rw [List.mem_filter]
 exact ⟨he, by rw [k e he hk]; rfl⟩
theorem good_dropNode {s : RS} {node ix : Int} (ks : KsOk s) (g : Good s) : Good (dropNodeS s node ix).1 := by
 unfold dropNodeS
 split
 ·rename_i h
  obtain ⟨n, hn, rfl, hf⟩ := h
  have hth : ∀ m, ¬ m = Int.ofNat n → thereK s.ns m → thereK (dropE s.ns (keyN n)) m := by
   rintro m hm ⟨n2, hn2, rfl, k⟩
   refine ⟨n2, hn2, rfl, ?_⟩
   rw [find_drop_ne]
   ·exact k
   ·intro q; rw [keyN_inj q] at hm; exact hm rfl
  refine ⟨fun e he => g.gn e (mem_drop he), fun e he => ?_, fun e he => ?_⟩
  ·obtain ⟨h1, h2⟩ := mem_cut (p := fun v : KS => decide (v.node = Int.ofNat n)) (es := s.ss) he
   exact wrongS_mono (g.gs e h1) (hth _ (by simpa using h2))
  ·obtain ⟨h1, h2⟩ := mem_cut (p := fun v : KC => decide (v.node = Int.ofNat n)) (es := s.cs) he
   have h3 : ¬ e.v.node = Int.ofNat n := by simpa using h2
   refine wrongC_mono (g.gc e h1) (hth _ h3) fun _ k => find_cut (p := fun v : KS => decide (v.node = Int.ofNat n)) (es := s.ss) k fun y hy hk => ?_
   obtain ⟨m, hm, h4, h5⟩ := ks.ks y hy
   obtain ⟨m2, hm2, h6, h7⟩ := ks.kc e h1
   rw [decide_eq_false_iff_not, h4]
   intro q
   rw [h5, h6] at hk
   obtain ⟨h8, _⟩ := keyS_inj hk
   apply h3
   rw [h6, ← q]
   have : (Int.ofNat m2).toNat = m2 := rfl
   rw [this] at h8
   rw [h8]
 ·exact g
theorem good_dropService {s : RS} {node ix : Int} {id : List Nat} (ks : KsOk s) (g : Good s) : Good (dropServiceS s node id ix).1 := by
 unfold dropServiceS
 split
 ·rename_i h
  obtain ⟨hn, hf⟩ := h
  obtain ⟨n, hn8, rfl⟩ := near hn
  refine ⟨g.gn, fun e he => g.gs e (mem_drop he), fun e he => ?_⟩
  obtain ⟨h1, h2⟩ := mem_cut (p := fun v : KC => decide (v.node = Int.ofNat n ∧ v.svc = id)) (es := s.cs) he
  have h3 : ¬ (e.v.node = Int.ofNat n ∧ e.v.svc = id) := by simpa using h2
  refine wrongC_mono (g.gc e h1) (fun k => k) fun _ k => ?_
  show findE (dropE s.ss (keyS n id)) _ ≠ none
  rw [find_drop_ne]
  ·exact k
  ·intro q
   obtain ⟨m2, hm2, h6, h7⟩ := ks.kc e h1
   rw [h6] at q
   obtain ⟨h8, h9⟩ := keyS_inj q
   apply h3
   rw [h6, h9]
   have : (Int.ofNat m2).toNat = m2 := rfl
   rw [this] at h8
   rw [h8]
   exact ⟨rfl, rfl⟩
 ·exact g
theorem good_dropCheck {s : RS} {node ix : Int} {id : List Nat} (g : Good s) : Good (dropCheckS s node id ix).1 := by
 unfold dropCheckS
 split
 ·exact ⟨g.gn, g.gs, fun e he => g.gc e (mem_drop he)⟩
 ·exact g
theorem good_zero : Good rs0 := ⟨fun e he => (by cases he), fun e he => (by cases he), fun e he => (by cases he)⟩
theorem good_step {M : Nat} {s : RS} {t : St} (hI : Inv M s) (g : Good s) : Good (stepS M s t) := by
 unfold stepS
 split
 ·exact good_node hI.ok g
 split
 ·exact good_dropNode hI.ks g
 split
 ·exact good_service hI.ok g
 split
 ·exact good_dropService hI.ks g
 split
 ·exact good_check hI.ok g
 split
 ·exact good_dropCheck g
 ·exact g
/-! ### Indexes -/
def IxOk {V : Type} (es : List (TE V)) (l k : Int) : Prop := l ≤ k ∧ ∀ e, e ∈ es → e.mke ≤ e.ix ∧ e.ix ≤ l
theorem mem_put3 {V : Type} {es : List (TE V)} {e x : TE V} (h : x ∈ putE es e) : x ∈ es ∨ x.ix = e.ix ∧ (x.mke = e.mke ∨ ∃ y, y ∈ es ∧ x.mke = y.mke) := by
 induction es with
 | nil => rw [putE, List.mem_singleton] at h; subst h; exact .inr ⟨rfl, .inl rfl⟩
 | cons y r ih =>
  simp only [putE] at h
  split at h
  ·rcases List.mem_cons.1 h with rfl | h
   ·exact .inr ⟨rfl, .inr ⟨y, List.mem_cons_self, rfl⟩⟩
   ·exact .inl (List.mem_cons_of_mem _ h)
  ·split at h
   ·rcases List.mem_cons.1 h with rfl | h
    ·exact .inr ⟨rfl, .inl rfl⟩
    ·exact .inl h
   ·rcases List.mem_cons.1 h with rfl | h
    ·exact .inl List.mem_cons_self
    ·rcases ih h with h | ⟨h1, h2 | ⟨z, hz, h2⟩⟩
     ·exact .inl (List.mem_cons_of_mem _ h)
     ·exact .inr ⟨h1, .inl h2⟩
     ·exact .inr ⟨h1, .inr ⟨z, List.mem_cons_of_mem _ hz, h2⟩⟩
theorem IxOk.put {V : Type} {es : List (TE V)} {l k ix : Int} {e : TE V} (h : IxOk es l k) (hk : k < ix) (e1 : e.mke = ix) (e2 : e.ix = ix) : IxOk (putE es e) (maxI l ix) ix := by
 obtain ⟨h1, h2⟩ := h
 have hm : maxI l ix = ix := by unfold maxI; rw [if_pos (by omega)]
 rw [hm]
 refine ⟨Int.le_refl _, fun x hx => ?_⟩
 rcases mem_put3 hx with hx | ⟨h3, h4 | ⟨y, hy, h4⟩⟩
 ·have := h2 x hx; omega
 ·omega
 ·have := h2 y hy; omega
theorem IxOk.sub {V : Type} {es es2 : List (TE V)} {l l2 k ix : Int} (h : IxOk es l k) (hk : k < ix) (hs : es2.Sublist es) (hl : l2 = l ∨ l2 = maxI l ix) : IxOk es2 l2 ix := by
 obtain ⟨h1, h2⟩ := h
 have hm : maxI l ix = ix := by unfold maxI; rw [if_pos (by omega)]
 rw [hm] at hl
 refine ⟨by omega, fun x hx => ?_⟩
 have := h2 x (hs.subset hx); omega
theorem lastX_or {V : Type} {p : V → Bool} {es : List (TE V)} {l ix : Int} : lastX p es l ix = l ∨ lastX p es l ix = maxI l ix := by
 unfold lastX; split
 ·exact .inr rfl
 ·exact .inl rfl
structure Up (s : RS) (k : Int) : Prop where
 u1 : IxOk s.ns s.l1 k
 u2 : IxOk s.ss s.l2 k
 u3 : IxOk s.cs s.l3 k
theorem Up.zero : Up rs0 0 := ⟨⟨Int.le_refl _, fun e he => by cases he⟩, ⟨Int.le_refl _, fun e he => by cases he⟩, ⟨Int.le_refl _, fun e he => by cases he⟩⟩
theorem Up.up {s : RS} {k ix : Int} (h : Up s k) (hk : k < ix) : Up s ix := ⟨h.u1.sub hk (List.Sublist.refl _) (.inl rfl), h.u2.sub hk (List.Sublist.refl _) (.inl rfl), h.u3.sub hk (List.Sublist.refl _) (.inl rfl)⟩
theorem Up.step {M : Nat} {s : RS} {t : St} {k : Int} (h : Up s k) (hk : k < t.ix) : Up (stepS M s t) t.ix := by
 have h0 := h.up hk
 unfold stepS
 split
 ·unfold nodeS
  split
  ·exact h0
  split
  ·exact h0
  split
  ·exact h0
  ·exact ⟨h.u1.put hk rfl rfl, h0.u2, h0.u3⟩
 split
 ·unfold dropNodeS
  split
  ·exact ⟨h.u1.sub hk dropE_sub (.inr rfl), h.u2.sub hk List.filter_sublist (lastX_or (p := fun v : KS => decide (v.node = t.node)) (es := s.ss)), h.u3.sub hk List.filter_sublist (lastX_or (p := fun v : KC => decide (v.node = t.node)) (es := s.cs))⟩
  ·exact h0
 split
 ·unfold serviceS
  split
  ·exact h0
  split
  ·exact h0
  ·exact ⟨h0.u1, h.u2.put hk rfl rfl, h0.u3⟩
 split
 ·unfold dropServiceS
  split
  ·exact ⟨h0.u1, h.u2.sub hk dropE_sub (.inr rfl), h.u3.sub hk List.filter_sublist (lastX_or (p := fun v : KC => decide (v.node = t.node ∧ v.svc = t.text)) (es := s.cs))⟩
  ·exact h0
 split
 ·unfold checkS
  split
  ·exact h0
  split
  ·exact h0
  ·exact ⟨h0.u1, h0.u2, h.u3.put hk rfl rfl⟩
 split
 ·unfold dropCheckS
  split
  ·exact ⟨h0.u1, h0.u2, h.u3.sub hk dropE_sub (.inr rfl)⟩
  ·exact h0
 ·exact h0
theorem maxI_ge {a b : Int} (h : 0 ≤ a) : 0 ≤ maxI a b := by unfold maxI; split <;> omega
theorem lastX_ge {V : Type} {p : V → Bool} {es : List (TE V)} {l ix : Int} (h : 0 ≤ l) : 0 ≤ lastX p es l ix := by
 unfold lastX; split
 ·exact maxI_ge h
 ·exact h
structure Nn (s : RS) : Prop where
 p1 : 0 ≤ s.l1
 p2 : 0 ≤ s.l2
 p3 : 0 ≤ s.l3
theorem Nn.step {M : Nat} {s : RS} {t : St} (h : Nn s) : Nn (stepS M s t) := by
 unfold stepS
 split
 ·unfold nodeS
  split
  ·exact h
  split
  ·exact h
  split
  ·exact h
  ·exact ⟨maxI_ge h.p1, h.p2, h.p3⟩
 split
 ·unfold dropNodeS
  split
  ·exact ⟨maxI_ge h.p1, lastX_ge (p := fun v : KS => decide (v.node = t.node)) (es := s.ss) h.p2, lastX_ge (p := fun v : KC => decide (v.node = t.node)) (es := s.cs) h.p3⟩
  ·exact h
 split
 ·unfold serviceS
  split
  ·exact h
  split
  ·exact h
  ·exact ⟨h.p1, maxI_ge h.p2, h.p3⟩
 split
 ·unfold dropServiceS
  split
  ·exact ⟨h.p1, maxI_ge h.p2, lastX_ge (p := fun v : KC => decide (v.node = t.node ∧ v.svc = t.text)) (es := s.cs) h.p3⟩
  ·exact h
 split
 ·unfold checkS
  split
  ·exact h
  split
  ·exact h
  ·exact ⟨h.p1, h.p2, maxI_ge h.p3⟩
 split
 ·unfold dropCheckS
  split
  ·exact ⟨h.p1, h.p2, maxI_ge h.p3⟩
  ·exact h
 ·exact h
end Go.Proofs.YtgpnpcahcegadaaGreat.RO
