/- What the functions do, shown by the logic. -/
import Derived.Test.YtgpnpcahcegadaaGreatRoD
set_option linter.unusedSimpArgs false
set_option linter.unusedVariables false
set_option linter.unusedSectionVars false
set_option maxRecDepth 20000
namespace Go.Proofs.YtgpnpcahcegadaaGreat.RO
open Go.Proofs.YtgpnpcahcegadaaGreat.Abs
variable {B : Nat → List AV}
theorem laid_step {V : Type} {es : List (TE V)} {e : TE V} {j : Nat} (so : Rise es) (hj : j < es.length) (hb : AllBelow (es.take j) e.key) :
  (es[j].key = e.key → findE es e.key = some es[j] ∧ (es.take j ++ [{ e with mke := es[j].mke }]) ++ es.drop (j + 1) = putE es e ∧ Above (es.drop (j + 1)) e.key) ∧
  (strLess e.key es[j].key = true → findE es e.key = none ∧ ((es.take j ++ [e]) ++ [es[j]]) ++ es.drop (j + 1) = putE es e ∧ Above (es.drop (j + 1)) e.key) ∧
  (¬ es[j].key = e.key → ¬ strLess e.key es[j].key = true → AllBelow (es.take (j + 1)) e.key) := by
 have hd : es.drop j = es[j] :: es.drop (j + 1) := List.drop_eq_getElem_cons hj
 have hab : Above (es.drop (j + 1)) es[j].key := by
  intro x hx
  obtain ⟨i, hi, rfl⟩ := List.getElem_of_mem hx
  rw [List.length_drop] at hi
  rw [List.getElem_drop]
  exact sorted_of so j (j + 1 + i) hj (by omega) (by omega)
 have ep : putE es e = es.take j ++ putE (es.drop j) e := by rw [← put_below hb, List.take_append_drop]
 have ef : findE es e.key = findE (es.drop j) e.key := by
  have : findE es e.key = findE (es.take j ++ es.drop j) e.key := by rw [List.take_append_drop]
  rw [this, find_below hb]
 refine ⟨fun hk => ⟨?_, ?_, ?_⟩, fun hl => ?_, fun hne hnl => ?_⟩
 ·rw [ef, hd, find_hit hk]
 ·rw [ep, hd, put_hit hk]; simp
 ·rw [← hk]; exact hab
 ·have ha2 : Above (es.drop (j + 1)) e.key := fun x hx => less_trans hl (hab x hx)
  have ha3 : Above (es.drop j) e.key := by
   rw [hd]
   intro x hx
   rcases List.mem_cons.1 hx with rfl | hx
   ·exact hl
   ·exact ha2 x hx
  refine ⟨by rw [ef, find_above ha3], ?_, ha2⟩
  rw [ep, put_above ha3, hd]
  simp
 ·intro x hx
  rw [List.take_succ_eq_append_getElem hj] at hx
  rcases List.mem_append.1 hx with hx | hx
  ·exact hb x hx
  ·rw [List.mem_singleton] at hx
   subst hx
   cases hb : strLess es[j].key e.key with
   | true => rfl
   | false => exact absurd (less_total hb (Bool.eq_false_iff.2 hnl)) hne
theorem keyN_less {a b : Nat} : strLess (keyN a) (keyN b) = true ↔ a < b := by
 unfold keyN
 rw [less_cons]
 simp only [less_irr, Bool.false_eq_true, and_false, or_false]
 omega
theorem keyS_less {a b : Nat} {x y : List Nat} : strLess (keyS a x) (keyS b y) = true ↔ a < b ∨ (a = b ∧ strLess x y = true) := by
 unfold keyS
 rw [less_cons, less_cons]
 constructor
 ·rintro (h | ⟨h, h2⟩)
  ·left; omega
  ·rcases h2 with h2 | ⟨_, h2⟩
   ·omega
   ·right; exact ⟨by omega, h2⟩
 ·rintro (h | ⟨h, h2⟩)
  ·left; omega
  ·right; exact ⟨by omega, .inr ⟨rfl, h2⟩⟩
theorem full_there {s : RS} {M n : Nat} (hn : n < 8) : fullP M s.ns (keyN n) ↔ ¬ thereK s.ns (.ofNat n) ∧ M ≤ s.ns.length := by
 unfold fullP thereK
 constructor
 ·rintro ⟨h1, h2⟩
  refine ⟨?_, h2⟩
  rintro ⟨n2, _, h3, h4⟩
  have : n2 = n := by simp only [Int.ofNat_eq_natCast] at h3; omega
  subst this
  exact h4 h1
 ·rintro ⟨h1, h2⟩
  refine ⟨?_, h2⟩
  cases hf : findE s.ns (keyN n) with
  | none => rfl
  | some x => exact absurd ⟨n, hn, rfl, by rw [hf]; simp⟩ h1
theorem raise64_0 {H : HL} {wp M : Nat} {v1 v2 v3 : AV} {s : RS} {ix : Int} (c1 : v1.isCell = true) (c2 : v2.isCell = true) (c3 : v3.isCell = true) :
  WF B tab (.func 64) [.ptr ⟨false, wp, 0⟩, .int .i64 (.ofNat 0), .int .u64 ix] ((wp, .row (refC M v1 v2 v3 s)) :: H) fun r H' =>
   H' = (wp, .row (refC M v1 v2 v3 { s with l1 := maxI s.l1 ix })) :: H := raise64_ok (i := 0) (by omega) c1 c2 c3
theorem raise64_1 {H : HL} {wp M : Nat} {v1 v2 v3 : AV} {s : RS} {ix : Int} (c1 : v1.isCell = true) (c2 : v2.isCell = true) (c3 : v3.isCell = true) :
  WF B tab (.func 64) [.ptr ⟨false, wp, 0⟩, .int .i64 (.ofNat 1), .int .u64 ix] ((wp, .row (refC M v1 v2 v3 s)) :: H) fun r H' =>
   H' = (wp, .row (refC M v1 v2 v3 { s with l2 := maxI s.l2 ix })) :: H := raise64_ok (i := 1) (by omega) c1 c2 c3
theorem raise64_2 {H : HL} {wp M : Nat} {v1 v2 v3 : AV} {s : RS} {ix : Int} (c1 : v1.isCell = true) (c2 : v2.isCell = true) (c3 : v3.isCell = true) :
  WF B tab (.func 64) [.ptr ⟨false, wp, 0⟩, .int .i64 (.ofNat 2), .int .u64 ix] ((wp, .row (refC M v1 v2 v3 s)) :: H) fun r H' =>
   H' = (wp, .row (refC M v1 v2 v3 { s with l3 := maxI s.l3 ix })) :: H := raise64_ok (i := 2) (by omega) c1 c2 c3
set_option maxHeartbeats 4000000 in
theorem nodeR_ok {H R : HL} {wp M : Nat} {s : RS} {node ix : Int} {addr : List Nat} (ok : RsOk M s) (ks : KsOk s) (h : RefAt B H wp M s R) :
    WF B tab (.func 26) [.ptr ⟨false, wp, 0⟩, .int .i64 node, .str addr, .int .u64 ix] H fun r H' => r = .int .i64 (.ofNat (nodeS M s node addr ix).2) ∧ RefAt B H' wp M (nodeS M s node addr ix).1 R := by
  refine zY ?_
  have hth := fun m => RefAt.there (B := B) (m := m) ok ks h
  have hh := h
  obtain ⟨ps, v1, v2, v3, h1, h2, h3, e1, hp, o1, o2, o3, q⟩ := h
  have tkW : Tk H wp (.row (refC M v1 v2 v3 s)) (h1 ++ (h2 ++ (h3 ++ R))) := q
  have row : Ld B H ⟨false, wp, 0⟩ 7 (refC M v1 v2 v3 s) := Ld.perm q (Ld.own zG rfl)
  have l0 := row.part 0 1 (by omega)
  have l1 := row.part 1 1 (by omega)
  have s1 : SlIs B H v1 4 (s.ns.map entN) := SlIs.perm q (SlIs.cons (SlIs.left (entsN_sl o1)))
  have c1 := o1.cell
  have c2 := o2.cell
  have c3 := o3.cell
  have hl : s.ns.length ≤ 64 := Nat.le_trans ok.n1 ok.m2
  refine WF.fn g26 rfl ?_
  by_cases hd : 0 ≤ node ∧ node < 8
  case neg =>
    have e : nodeS M s node addr ix = (s, 2) := by unfold nodeS; rw [if_pos hd]
    repeat' (first
      | apply zC | apply zE | apply zD | apply zJ | apply zL | (apply zS; rfl) | apply zT | (apply zM; rfl; rfl; rfl; rfl; intro _ _) | (apply zB; rfl; (intro _; rfl)) | (apply zV; rfl) | (apply zQ; rfl; (intro _; rfl)) | (apply WOps.ask; rfl; all_goals (intro hb; first | subst hb | fail_if_success (cases hb))) | (apply zN; rfl; all_goals (intro hb; try subst hb)))
    all_goals first
      | exact ⟨trivial, [_], ⟨_, [], rfl, rfl, rfl⟩, H, ⟨by rw [e]; rfl, by rw [e]; exact hh⟩, SubP.refl⟩
      | (exfalso
         simp only [cmpP, true_iff, Bool.false_eq_true, false_iff, Int.ofNat_eq_natCast] at *
         omega)
  obtain ⟨n, hn8, rfl⟩ : ∃ n : Nat, n < 8 ∧ node = .ofNat n := ⟨node.toNat, by omega, by simp only [Int.ofNat_eq_natCast]; omega⟩
  refine zE (zD ?_)
  repeat' (first
    | apply zC | (apply zB; rfl; (intro _; rfl)))
  refine WC.cut2 (X := Unit) (fun _ => [(0, .ptr ⟨false, wp, 0⟩), (1, .int .i64 (.ofNat n)), (2, .str addr), (3, .int .u64 ix)]) (fun _ => H) (fun _ => True) ?_ ?_
  · repeat' (first
      | apply zC | apply zE | apply zD | apply zJ | apply zL | (apply zS; rfl) | (apply zM; rfl; rfl; rfl; rfl; intro _ _) | (apply zB; rfl; (intro _; rfl)) | (apply zV; rfl) | (apply WOps.ask; rfl; all_goals (intro hb; first | subst hb | fail_if_success (cases hb))) | (apply zN; rfl; all_goals (intro hb; try subst hb)))
    · exfalso
      have q := ‹true = true ↔ cmpP BinOp.lss (Int.ofNat n) (Int.ofNat 0)›.1 rfl
      have q2 : (n : Int) < 0 := q
      omega
    · exfalso
      have q := ‹true = true ↔ cmpP BinOp.gtr (Int.ofNat n) (Int.ofNat 7)›.1 rfl
      have q2 : (7 : Int) < (n : Int) := q
      omega
    · exact ⟨(), zA rfl (zA rfl (zA rfl (zA rfl zH))), SubP.refl, trivial⟩
  intro _ _
  refine WC.cut2 (X := Unit) (fun _ => [(0, .ptr ⟨false, wp, 0⟩), (1, .int .i64 (.ofNat n)), (2, .str addr), (3, .int .u64 ix)]) (fun _ => H) (fun _ => ¬ 32 < addr.length) ?_ ?_
  · repeat' (first
      | apply zC | apply zE | apply zD | apply zJ | apply zL | (apply WOps.lenT; rfl; rfl) | (apply zM; rfl; rfl; rfl; rfl; intro _ _) | (apply zB; rfl; (intro _; rfl)) | (apply zN; rfl; all_goals (intro hb; try subst hb)))
    · have q := ‹true = true ↔ cmpP BinOp.gtr _ _›.1 rfl
      simp only [cmpP, Int.ofNat_eq_natCast] at q
      have e : nodeS M s (.ofNat n) addr ix = (s, 3) := by unfold nodeS; rw [if_neg (fun q => q hd), if_pos (by omega)]
      exact ⟨trivial, [_], ⟨_, [], rfl, rfl, rfl⟩, H, ⟨by rw [e]; rfl, by rw [e]; exact hh⟩, SubP.refl⟩
    · have q := eq_of_ff ‹false = true ↔ cmpP BinOp.gtr _ _›
      simp only [cmpP, Int.ofNat_eq_natCast] at q
      exact ⟨(), zA rfl (zA rfl (zA rfl (zA rfl zH))), SubP.refl, by omega⟩
  intro _ ha
  refine WC.cut2 (X := Unit) (fun _ => [(0, .ptr ⟨false, wp, 0⟩), (1, .int .i64 (.ofNat n)), (2, .str addr), (3, .int .u64 ix)]) (fun _ => H) (fun _ => ¬ fullP M s.ns (keyN n)) ?_ ?_
  · repeat' (first
      | apply zC | apply zE | apply zD | apply zJ | apply zL | (apply zO; rfl) | apply zT | apply zW | (apply WD.clR; rfl; rfl; exact hth _; rintro _ ⟨bb, rfl, hbb⟩; cases bb) | (apply zI; rfl; · repeat' (first | refine at1 ?_ rfl | apply at2 | exact same0 | refine same1 ?_ rfl | apply same2 | exact rd_ld rfl (l0) rfl)) | (apply zI; rfl; · repeat' (first | refine at1 ?_ rfl | apply at2 | exact same0 | refine same1 ?_ rfl | apply same2 | exact rd_ld rfl (l1) rfl)) | (apply WD.lenS; rfl; rfl; exact s1) | (apply zB; rfl; (intro _; rfl)) | (apply WD.cmp; rfl; rfl; rfl; rfl; intro _ _) | (apply zQ; rfl; (intro _; rfl)) | (apply WD.skp; rfl) | (apply WD.skpL; rfl) | (apply zN; rfl; all_goals (intro hb; try subst hb)))
    · have q := ‹true = true ↔ cmpP BinOp.geq _ _›.1 rfl
      simp only [cmpP, Int.ofNat_eq_natCast, List.length_map] at q
      have e : nodeS M s (.ofNat n) addr ix = (s, 5) := by unfold nodeS; rw [if_neg (fun q => q hd), if_neg ha]; exact if_pos ((full_there (M := M) hn8).2 ⟨eq_of_ff hbb, by omega⟩)
      exact ⟨trivial, [_], ⟨_, [], rfl, rfl, rfl⟩, H, ⟨by rw [e]; rfl, by rw [e]; exact hh⟩, SubP.refl⟩
    · have q := eq_of_ff ‹false = true ↔ cmpP BinOp.geq _ _›
      simp only [cmpP, Int.ofNat_eq_natCast, List.length_map] at q
      exact ⟨(), zA rfl (zA rfl (zA rfl (zA rfl zH))), SubP.refl, fun k => by have := k.2; omega⟩
    · exact ⟨(), zA rfl (zA rfl (zA rfl (zA rfl zH))), SubP.refl, fun k => ((full_there hn8).1 k).1 (hbb.1 rfl)⟩
  intro _ hnf
  have e : nodeS M s (.ofNat n) addr ix = ({ s with ns := putE s.ns (⟨keyN n, ⟨.ofNat n, addr⟩, ix, ix⟩ : TE KN), l1 := maxI s.l1 ix }, 0) := by
    unfold nodeS
    rw [if_neg (fun q => q hd), if_neg ha]
    exact if_neg hnf
  rw [e]
  clear e hth hh hnf ha
  repeat' (first
    | apply zC | apply zE | apply zD | apply zK | (apply zP; rfl; rfl; (first | exact tk0 | exact tk1 | exact tk2); rfl; (· repeat' (first | rfl | assumption | apply ac1)); rfl) | (apply yE; rfl; intro _) | (apply zB; rfl; (intro _; rfl)))
  rename_i p9
  refine yG ?_
  obtain ⟨i, hi⟩ : ∃ i : Nat, i = 0 := ⟨0, rfl⟩
  obtain ⟨w9, hw9⟩ : ∃ v, v = AV.nilsl := ⟨_, rfl⟩
  obtain ⟨us, hus⟩ : ∃ u : List (TE KN), u = [] := ⟨_, rfl⟩
  obtain ⟨hw, hhw⟩ : ∃ h : HL, h = [] := ⟨_, rfl⟩
  obtain ⟨laid, hlaid⟩ : ∃ b : Bool, b = false := ⟨_, rfl⟩
  obtain ⟨mk, hmk⟩ : ∃ m : Int, m = ix := ⟨_, rfl⟩
  refine WL.le (t' := [(0, .ptr ⟨false, wp, 0⟩), (1, .int .i64 (.ofNat n)), (3, .int .u64 ix), (9, .ptr ⟨false, p9, 0⟩), (10, w9), (11, .bool laid), (12, .int .i64 (.ofNat i))]) (by subst hi hw9 hlaid; exact zA rfl (zA rfl (zA rfl (zA rfl (zA rfl (zA rfl (zA rfl zH))))))) ?_
  refine WL.heq (H' := (p9, .row (entN (⟨keyN n, ⟨.ofNat n, addr⟩, mk, ix⟩ : TE KN))) :: (hw ++ H)) (by subst hhw hmk; rfl) ?_
  have o9 : OwnSl w9 (us.map entN).flatten us.length 4 hw := by subst hus; exact .inl ⟨hw9, rfl, rfl, hhw⟩
  have hst : (laid = false ∧ mk = ix ∧ us = s.ns.take i ∧ AllBelow (s.ns.take i) (keyN n)) ∨ (laid = true ∧ us ++ s.ns.drop i = putE s.ns (⟨keyN n, ⟨.ofNat n, addr⟩, ix, ix⟩ : TE KN) ∧ Above (s.ns.drop i) (keyN n)) := by
    subst hi hus
    exact .inl ⟨hlaid, hmk, rfl, fun x hx => by simp at hx⟩
  have hul : us.length ≤ i + 1 := by subst hus; simp
  have hle : i ≤ s.ns.length := by omega
  clear hi hw9 hus hhw hlaid hmk
  have r1 := ok.r1
  induction hk : s.ns.length - i using Nat.strongRecOn generalizing i w9 us hw laid mk with | _ k ih => ?_
  apply WL.step
  have lA : Ld B ((p9, .row (entN (⟨keyN n, ⟨.ofNat n, addr⟩, mk, ix⟩ : TE KN))) :: (hw ++ H)) ⟨false, wp, 1⟩ 1 [v1] := (Ld.right l1).cons
  have sA : SlIs B ((p9, .row (entN (⟨keyN n, ⟨.ofNat n, addr⟩, mk, ix⟩ : TE KN))) :: (hw ++ H)) v1 4 (s.ns.map entN) := SlIs.cons (SlIs.right s1)
  refine zE (zE (zD ?_))
  repeat' (first
    | apply zC | apply zJ | apply zZ | (apply zF; rfl; rfl; exact lA; rfl) | (apply zU; rfl; rfl; exact sA) | (apply zM; rfl; rfl; rfl; rfl; intro _ _) | (apply zB; rfl; (intro _; rfl)) | (apply zN; rfl; all_goals (intro hb; try subst hb)))
  all_goals rw [List.length_map] at *
  · have hlt : i < s.ns.length := by
      have h0 := ‹true = true ↔ cmpP BinOp.lss (Int.ofNat i) (Int.ofNat s.ns.length)›.1 rfl
      simp [cmpP] at h0; omega
    have hcm : (s.ns.map entN)[i]? = some (entN s.ns[i]) := by rw [List.getElem?_map, List.getElem?_eq_getElem hlt]; rfl
    obtain ⟨m, hm8, hnode, hkey⟩ := ks.kn s.ns[i] (List.getElem_mem hlt)
    have keq : s.ns[i].v.node = Int.ofNat n ↔ s.ns[i].key = keyN n := by
      rw [hnode, hkey]
      exact ⟨fun h => by have : m = n := by simp only [Int.ofNat_eq_natCast] at h; omega
                         rw [this], fun h => by rw [keyN_inj h]⟩
    have kgt : s.ns[i].v.node > Int.ofNat n ↔ strLess (keyN n) s.ns[i].key = true := by
      rw [hnode, hkey, keyN_less]
      simp only [Int.ofNat_eq_natCast, gt_iff_lt]; omega
    have hd1 : s.ns.drop i = s.ns[i] :: s.ns.drop (i + 1) := List.drop_eq_getElem_cons hlt
    -- the round's end
    have nx : ∀ (w9 : AV) (us : List (TE KN)) (hw : HL) (laid : Bool) (mk : Int) (X : List (Nat × AObj)), OwnSl w9 (us.map entN).flatten us.length 4 hw → ((laid = false ∧ mk = ix ∧ us = s.ns.take (i + 1) ∧ AllBelow (s.ns.take (i + 1)) (keyN n)) ∨ (laid = true ∧ us ++ s.ns.drop (i + 1) = putE s.ns (⟨keyN n, ⟨.ofNat n, addr⟩, ix, ix⟩ : TE KN) ∧ Above (s.ns.drop (i + 1)) (keyN n))) → us.length ≤ i + 2 → WL B tab c26.nt none _ [(0, .ptr ⟨false, wp, 0⟩), (1, .int .i64 (.ofNat n)), (3, .int .u64 ix), (9, .ptr ⟨false, p9, 0⟩), (10, w9), (11, .bool laid), (12, .int .i64 (.ofNat (i + 1)))] ((p9, .row (entN (⟨keyN n, ⟨.ofNat n, addr⟩, mk, ix⟩ : TE KN))) :: (hw ++ H)) _ := fun w9 us hw laid mk X o9 hst hul => ih _ (by omega) (i + 1) w9 us hw laid mk o9 hst hul (by omega) rfl
    rcases hst with ⟨rfl, rfl, rfl, hbel⟩ | ⟨rfl, hput, hab⟩
    · obtain ⟨st1, st2, st3⟩ := laid_step (e := (⟨keyN n, ⟨.ofNat n, addr⟩, mk, mk⟩ : TE KN)) r1 hlt hbel
      repeat' (first
        | apply zC | apply zE | apply zD | apply zJ | apply zK | (apply zF; rfl; rfl; (first | exact ld0 rfl | exact ld1 rfl | exact ld2 rfl); rfl) | (apply zP; rfl; rfl; (first | exact tk0 | exact tk1 | exact tk2); rfl; (· repeat' (first | rfl | assumption | apply ac1)); rfl) | (apply yF; rfl; (· repeat' (first | rfl | assumption | apply ac1)); intro _) | (apply zF; rfl; rfl; exact lA; rfl) | (apply yA; rfl; rfl; rfl; exact sA; exact hcm; intro ax hax) | (apply zF; rfl; rfl; exact Ld.part hax 0 1 (by omega); rfl) | (apply zF; rfl; rfl; exact Ld.part hax 2 1 (by omega); rfl) | (apply zF; rfl; rfl; exact hax; rfl) | (apply zM; rfl; rfl; rfl; rfl; intro _ _) | (apply zB; rfl; (intro _; rfl)) | (apply zN; rfl; all_goals (intro hb; try subst hb)))
      · have hq := keq.1 (‹true = true ↔ cmpP BinOp.eql s.ns[i].v.node (Int.ofNat n)›.1 rfl)
        obtain ⟨f1, f2, f3⟩ := st1 hq
        refine yD (n := (s.ns.take i).length) rfl rfl rfl o9 (List.perm_append_comm_assoc [_, _] hw H) (src_one zG rfl) (entsN_cell _) rfl rfl (by omega) ?_
        intro v2 h2 o2
        repeat' (first
          | apply zC | apply zE | apply zD | apply zZ | (apply zR; rfl; rfl; rfl; omega) | (apply zB; rfl; (intro _; rfl)))
        refine WL.le (zA rfl (zA rfl (zA rfl (zA rfl (zA rfl (zA rfl (zA rfl zH))))))) (yB (H1 := (p9, .row (entN (⟨keyN n, ⟨.ofNat n, addr⟩, s.ns[i].mke, mk⟩ : TE KN))) :: (h2 ++ H)) (subF (by intro f; simp only [entN, List.map_cons, List.map_append, List.sum_cons, List.sum_append, List.map_nil, List.sum_nil]; omega)) (nx v2 (s.ns.take i ++ [(⟨keyN n, ⟨.ofNat n, addr⟩, s.ns[i].mke, mk⟩ : TE KN)]) h2 true s.ns[i].mke [] ?_ (.inr ⟨rfl, f2, f3⟩) (by rw [List.length_append, List.length_singleton]; omega)))
        rw [List.map_append, List.flatten_append, List.length_append]
        exact o2
      · have hq := kgt.1 (‹true = true ↔ cmpP BinOp.gtr s.ns[i].v.node (Int.ofNat n)›.1 rfl)
        obtain ⟨f1, f2, f3⟩ := st2 hq
        refine yD (n := (s.ns.take i).length) rfl rfl rfl o9 (List.perm_append_comm_assoc [_, _] hw H) (src_one zG rfl) (entsN_cell _) rfl rfl (by omega) ?_
        intro v2 h2 o2
        have lB : ∀ {a b : Nat × AObj}, Ld B (h2 ++ (a :: b :: H)) ⟨false, wp, 1⟩ 1 [v1] := Ld.right l1.cons.cons
        have sB : ∀ {a b : Nat × AObj}, SlIs B (h2 ++ (a :: b :: H)) v1 4 (s.ns.map entN) := SlIs.right (SlIs.cons (SlIs.cons s1))
        repeat' (first
          | apply zC | apply zD | (apply yF; rfl; (· repeat' (first | rfl | assumption | apply ac1)); intro _) | (apply zF; rfl; rfl; exact lB; rfl) | (apply yA; rfl; rfl; rfl; exact sB; exact hcm; intro ay hay) | (apply zF; rfl; rfl; exact hay; rfl) | (apply zB; rfl; (intro _; rfl)))
        have o4 : OwnSl v2 ((s.ns.take i ++ [(⟨keyN n, ⟨.ofNat n, addr⟩, mk, mk⟩ : TE KN)]).map entN).flatten (s.ns.take i ++ [(⟨keyN n, ⟨.ofNat n, addr⟩, mk, mk⟩ : TE KN)]).length 4 h2 := by
          rw [List.map_append, List.flatten_append, List.length_append]
          exact o2
        refine yD (n := (s.ns.take i ++ [(⟨keyN n, ⟨.ofNat n, addr⟩, mk, mk⟩ : TE KN)]).length) rfl rfl rfl o4 List.perm_middle.symm (src_one zG rfl) (entsN_cell _) rfl rfl (by rw [List.length_append, List.length_singleton]; omega) ?_
        intro v3 h3 o3
        repeat' (first
          | apply zC | apply zD | (apply zR; rfl; rfl; rfl; omega) | (apply zB; rfl; (intro _; rfl)))
        refine WL.le (zA rfl (zA rfl (zA rfl (zA rfl (zA rfl (zA rfl (zA rfl zH))))))) (yB (H1 := (p9, .row (entN (⟨keyN n, ⟨.ofNat n, addr⟩, mk, mk⟩ : TE KN))) :: (h3 ++ H)) (subF (by intro f; simp only [entN, List.map_cons, List.map_append, List.sum_cons, List.sum_append, List.map_nil, List.sum_nil]; omega)) (nx v3 (s.ns.take i ++ [(⟨keyN n, ⟨.ofNat n, addr⟩, mk, mk⟩ : TE KN)] ++ [s.ns[i]]) h3 true mk [] ?_ (.inr ⟨rfl, f2, f3⟩) (by simp only [List.length_append, List.length_take, List.length_cons, List.length_nil]; omega)))
        rw [List.map_append, List.flatten_append, List.length_append]
        exact o3
      · have hq1 := eq_of_ff ‹false = true ↔ cmpP BinOp.eql s.ns[i].v.node (Int.ofNat n)›
        have hq2 := eq_of_ff ‹false = true ↔ cmpP BinOp.gtr s.ns[i].v.node (Int.ofNat n)›
        have f := st3 (fun h => hq1 (keq.2 h)) (fun h => hq2 (kgt.2 h))
        refine yD (n := (s.ns.take i).length) rfl rfl rfl o9 (List.perm_append_comm_assoc [_, _] hw H) (src_one zG rfl) (entsN_cell _) rfl rfl (by omega) ?_
        intro v2 h2 o2
        repeat' (first
          | apply zC | apply zD | (apply zR; rfl; rfl; rfl; omega) | (apply zB; rfl; (intro _; rfl)))
        refine WL.le (zA rfl (zA rfl (zA rfl (zA rfl (zA rfl (zA rfl (zA rfl zH))))))) (yB (H1 := (p9, .row (entN (⟨keyN n, ⟨.ofNat n, addr⟩, mk, mk⟩ : TE KN))) :: (h2 ++ H)) (subF (by intro f; simp only [entN, List.map_cons, List.map_append, List.sum_cons, List.sum_append, List.map_nil, List.sum_nil]; omega)) (nx v2 (s.ns.take i ++ [s.ns[i]]) h2 false mk [] ?_ (.inl ⟨rfl, rfl, (List.take_succ_eq_append_getElem hlt).symm, f⟩) (by rw [List.length_append, List.length_singleton]; omega)))
        rw [List.map_append, List.flatten_append, List.length_append]
        exact o2
    · repeat' (first
        | apply zC | apply zE | apply zD | apply zJ | (apply zO; rfl) | apply zK | (apply zF; rfl; rfl; (first | exact ld0 rfl | exact ld1 rfl | exact ld2 rfl); rfl) | (apply zP; rfl; rfl; (first | exact tk0 | exact tk1 | exact tk2); rfl; (· repeat' (first | rfl | assumption | apply ac1)); rfl) | (apply yF; rfl; (· repeat' (first | rfl | assumption | apply ac1)); intro _) | (apply zF; rfl; rfl; exact lA; rfl) | (apply yA; rfl; rfl; rfl; exact sA; exact hcm; intro ax hax) | (apply zF; rfl; rfl; exact Ld.part hax 0 1 (by omega); rfl) | (apply zF; rfl; rfl; exact Ld.part hax 2 1 (by omega); rfl) | (apply zF; rfl; rfl; exact hax; rfl) | (apply zM; rfl; rfl; rfl; rfl; intro _ _) | (apply zB; rfl; (intro _; rfl)) | (apply zV; rfl) | (apply zN; rfl; all_goals (intro hb; try subst hb)))
      · exfalso
        have hq := keq.1 (‹true = true ↔ cmpP BinOp.eql s.ns[i].v.node (Int.ofNat n)›.1 rfl)
        exact less_ne (hab s.ns[i] (by rw [hd1]; exact List.mem_cons_self)) hq.symm
      · refine yD (n := us.length) rfl rfl rfl o9 (List.perm_append_comm_assoc [_, _] hw H) (src_one zG rfl) (entsN_cell _) rfl rfl (by omega) ?_
        intro v2 h2 o2
        repeat' (first
          | apply zC | apply zD | (apply zR; rfl; rfl; rfl; omega) | (apply zB; rfl; (intro _; rfl)))
        refine WL.le (zA rfl (zA rfl (zA rfl (zA rfl (zA rfl (zA rfl (zA rfl zH))))))) (yB (H1 := (p9, .row (entN (⟨keyN n, ⟨.ofNat n, addr⟩, mk, ix⟩ : TE KN))) :: (h2 ++ H)) (subF (by intro f; simp only [entN, List.map_cons, List.map_append, List.sum_cons, List.sum_append, List.map_nil, List.sum_nil]; omega)) (nx v2 (us ++ [s.ns[i]]) h2 true mk [] ?_ (.inr ⟨rfl, by rw [← hput, hd1, List.append_assoc]; rfl, fun x hx => hab x (by rw [hd1]; exact List.mem_cons_of_mem _ hx)⟩) (by rw [List.length_append, List.length_singleton]; omega)))
        rw [List.map_append, List.flatten_append, List.length_append]
        exact o2
  · have hge : i = s.ns.length := by
      have h0 := eq_of_ff ‹false = true ↔ cmpP BinOp.lss (Int.ofNat i) (Int.ofNat s.ns.length)›
      simp [cmpP] at h0; omega
    subst hge
    have fin : ∀ (v' : AV) (us' : List (TE KN)) (h' X : HL), us' = putE s.ns (⟨keyN n, ⟨.ofNat n, addr⟩, ix, ix⟩ : TE KN) → OwnSl v' (us'.map entN).flatten us'.length 4 h' → SubP ((wp, .row (refC M v' v2 v3 { s with l1 := maxI s.l1 ix })) :: (h' ++ (h2 ++ (h3 ++ R)))) X →
        ∃ H3, (AV.int IntKind.i64 (Int.ofNat 0) = .int .i64 (.ofNat 0) ∧ RefAt B H3 wp M { s with ns := putE s.ns (⟨keyN n, ⟨.ofNat n, addr⟩, ix, ix⟩ : TE KN), l1 := maxI s.l1 ix } R) ∧ SubP H3 X := fun v' us' h' X e o p => by
      subst e
      exact ⟨_, ⟨rfl, ps, v', v2, v3, h', h2, h3, e1, hp, o, o2, o3, List.Perm.refl _⟩, p⟩
    have pH : ((p9, .row (entN (⟨keyN n, ⟨.ofNat n, addr⟩, mk, ix⟩ : TE KN))) :: (hw ++ H)).Perm ((wp, .row (refC M v1 v2 v3 s)) :: (p9, .row (entN (⟨keyN n, ⟨.ofNat n, addr⟩, mk, ix⟩ : TE KN))) :: (hw ++ (h1 ++ (h2 ++ (h3 ++ R))))) := by
      refine permF ?_
      intro f
      have := sum_perm q f
      simp only [List.map_cons, List.map_append, List.sum_cons, List.sum_append] at this ⊢
      omega
    refine WC.perm pH ?_
    rcases hst with ⟨rfl, rfl, rfl, hbel⟩ | ⟨rfl, hput, hab⟩
    · repeat' (first
        | apply zC | apply zE | apply zD | (apply zS; rfl) | (apply zF; rfl; rfl; (first | exact ld0 rfl | exact ld1 rfl | exact ld2 rfl); rfl) | (apply yF; rfl; (· repeat' (first | rfl | assumption | apply ac1)); intro _) | (apply zB; rfl; (intro _; rfl)))
      refine yD (n := (s.ns.take s.ns.length).length) rfl rfl rfl o9 (List.perm_append_comm_assoc [_, _, _] hw _) (src_one zG rfl) (entsN_cell _) rfl rfl (by omega) ?_
      intro v4 h4 o4
      have o5 : OwnSl v4 ((s.ns ++ [(⟨keyN n, ⟨.ofNat n, addr⟩, mk, mk⟩ : TE KN)]).map entN).flatten (s.ns ++ [(⟨keyN n, ⟨.ofNat n, addr⟩, mk, mk⟩ : TE KN)]).length 4 h4 := by
        rw [List.map_append, List.flatten_append, List.length_append]
        rw [List.take_length] at o4
        exact o4
      repeat' (first
        | apply zC | apply zE | apply zD | (apply zB; rfl; (intro _; rfl)))
      refine zP (cs := refC M v1 v2 v3 s) (cs' := refC M v4 v2 v3 s) rfl rfl perm_back2 (by rw [o5.cells]; rfl) (by rw [o5.cells]; exact allCell_cons o5.cell allCell_nil) (by rw [o5.cells]; rfl) ?_
      repeat' (first
        | apply zC | apply zE | apply zD | apply zL | (apply WOps.clA; rfl; rfl; exact raise64_0 (s := s) o5.cell c2 c3; rintro _ _ rfl) | (apply zB; rfl; (intro _; rfl)))
      rw [List.take_length] at hbel
      have hpe : s.ns ++ [(⟨keyN n, ⟨.ofNat n, addr⟩, mk, mk⟩ : TE KN)] = putE s.ns (⟨keyN n, ⟨.ofNat n, addr⟩, mk, mk⟩ : TE KN) := by
        have := put_below (Bs := []) (e := (⟨keyN n, ⟨.ofNat n, addr⟩, mk, mk⟩ : TE KN)) hbel
        rw [List.append_nil] at this
        rw [this]; rfl
      exact ⟨trivial, [_], ⟨_, [], rfl, rfl, rfl⟩, fin v4 _ h4 _ hpe o5 (subF (by intro f; simp only [AV.cells, pm] <;> omega))⟩
    · repeat' (first
        | apply zC | apply zE | apply zD | apply zJ | (apply zO; rfl) | (apply zB; rfl; (intro _; rfl)))
      refine zP (cs := refC M v1 v2 v3 s) (cs' := refC M w9 v2 v3 s) rfl rfl zG (by rw [o9.cells]; rfl) (by rw [o9.cells]; exact allCell_cons o9.cell allCell_nil) (by rw [o9.cells]; rfl) ?_
      repeat' (first
        | apply zC | apply zE | apply zD | apply zL | (apply WOps.clA; rfl; rfl; exact raise64_0 (s := s) o9.cell c2 c3; rintro _ _ rfl) | (apply zB; rfl; (intro _; rfl)))
      have hpe : us = putE s.ns (⟨keyN n, ⟨.ofNat n, addr⟩, ix, ix⟩ : TE KN) := by
        rw [List.drop_length, List.append_nil] at hput
        exact hput
      exact ⟨trivial, [_], ⟨_, [], rfl, rfl, rfl⟩, fin w9 _ hw _ hpe o9 (subF (by intro f; simp only [AV.cells, pm] <;> omega))⟩
end Go.Proofs.YtgpnpcahcegadaaGreat.RO
