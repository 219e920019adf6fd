/- What the functions do, shown by the logic. -/
import Derived.Test.YtgpnpcahcegadaaGreatRoX
set_option linter.unusedSimpArgs false
set_option linter.unusedVariables false
set_option linter.unusedSectionVars false
set_option maxRecDepth 20000
namespace Go.Proofs.YtgpnpcahcegadaaGreat.RO
open Go.Proofs.YtgpnpcahcegadaaGreat.Abs
variable {B : Nat → List AV}
theorem raise56_at {H R : HL} {a most : Nat} {last ix : Int} {es : List (TE NV)} (hm : 1 ≤ most) (t : TbN H a most es last R) : WF B tab (.func 56) [.ptr ⟨false, a, 0⟩, .int .u64 ix] H fun r H' => TbN H' a most es (maxI last ix) R := by
 obtain ⟨v, hs, ow, q⟩ := t
 refine WF.perm q (WF.mono (raise56_ok hm) ?_)
 rintro r _ rfl
 exact ⟨v, hs, ow, List.Perm.refl _⟩
theorem raise57_at {H R : HL} {a most : Nat} {last ix : Int} {es : List (TE SV)} (hm : 1 ≤ most) (t : TbS H a most es last R) : WF B tab (.func 57) [.ptr ⟨false, a, 0⟩, .int .u64 ix] H fun r H' => TbS H' a most es (maxI last ix) R := by
 obtain ⟨v, hs, ow, q⟩ := t
 refine WF.perm q (WF.mono (raise57_ok hm) ?_)
 rintro r _ rfl
 exact ⟨v, hs, ow, List.Perm.refl _⟩
theorem raise58_at {H R : HL} {a most : Nat} {last ix : Int} {es : List (TE CV)} (hm : 1 ≤ most) (t : TbC H a most es last R) : WF B tab (.func 58) [.ptr ⟨false, a, 0⟩, .int .u64 ix] H fun r H' => TbC H' a most es (maxI last ix) R := by
 obtain ⟨v, hs, ow, q⟩ := t
 refine WF.perm q (WF.mono (raise58_ok hm) ?_)
 rintro r _ rfl
 exact ⟨v, hs, ow, List.Perm.refl _⟩
def ldC (rp : Nat) (l1 l2 l3 : Int) (k1 k2 k3 : List Nat) (w : Bool) : List AV := [.ptr ⟨false, rp, 0⟩, .int .u64 l1, .int .u64 l2, .int .u64 l3, .str k1, .str k2, .str k3, .bool w]
theorem lay53_ok {H R : HL} {rp a1 a2 a3 M pl lp pn : Nat} {s : RS} {node ix : Int} {addr : List Nat} (ok : RsOk M s) (h : RosAt B H rp a1 a2 a3 M s R) (c1 : Ld B R ⟨false, pl, 0⟩ 1 [.ptr ⟨false, lp, 0⟩]) (c2 : Ld B R ⟨false, lp, 0⟩ 1 [.ptr ⟨false, rp, 0⟩])
  (c3 : Ld B R ⟨false, pn, 0⟩ 1 [.int .i64 node]) (c4 : Ld B R ⟨false, pn, 1⟩ 1 [.str addr]) :
  WF B tab (.func 53) [.int .u64 ix, .ptr ⟨false, pl, 0⟩, .ptr ⟨false, pn, 0⟩] H fun r H' => r = .int .i64 (.ofNat (nodeS M s node addr ix).2) ∧ RosAt B H' rp a1 a2 a3 M (nodeS M s node addr ix).1 R := by
 refine zY ?_
 refine WF.fn g53 rfl ?_
 repeat' (first
  | apply zC | apply zE | apply zD | apply zL | apply zT | apply zW | (apply zI; rfl; · repeat' (first | refine at1 ?_ rfl | apply at2 | exact same0 | refine same1 ?_ rfl | apply same2 | exact rd_ld rfl (h.ld c1) rfl)) | (apply zI; rfl; · repeat' (first | refine at1 ?_ rfl | apply at2 | exact same0 | refine same1 ?_ rfl | apply same2 | exact rd_ld rfl (h.ld c2) rfl)) | (apply zI; rfl; · repeat' (first | refine at1 ?_ rfl | apply at2 | exact same0 | refine same1 ?_ rfl | apply same2 | exact rd_ld rfl (h.ld c3) rfl)) | (apply zI; rfl; · repeat' (first | refine at1 ?_ rfl | apply at2 | exact same0 | refine same1 ?_ rfl | apply same2 | exact rd_ld rfl (h.ld c4) rfl)) | (apply yI; rfl; rfl; exact node25_ok ok h; rintro _ H1 ⟨rfl, h1⟩) | (apply zB; rfl; (intro _; rfl)) | (apply zQ; rfl; (intro _; rfl)))
 exact ⟨trivial, [_], ⟨_, [], rfl, rfl, rfl⟩, H1, ⟨rfl, h1⟩, SubP.refl⟩
theorem lay54_ok {H R : HL} {rp a1 a2 a3 M pl lp pn : Nat} {s : RS} {x : KS} {tv : AV} {jm ji ix : Int} (ok : RsOk M s) (h : RosAt B H rp a1 a2 a3 M s R) (c1 : Ld B R ⟨false, pl, 0⟩ 1 [.ptr ⟨false, lp, 0⟩]) (c2 : Ld B R ⟨false, lp, 0⟩ 1 [.ptr ⟨false, rp, 0⟩])
  (c3 : Ld B R ⟨false, pn, 0⟩ 7 (svC x tv jm ji)) (hx : SvIs B H x tv) :
  WF B tab (.func 54) [.int .u64 ix, .ptr ⟨false, pl, 0⟩, .ptr ⟨false, pn, 0⟩] H fun r H' => r = .int .i64 (.ofNat (serviceS M s x ix).2) ∧ RosAt B H' rp a1 a2 a3 M (serviceS M s x ix).1 R := by
 refine zY ?_
 refine WF.fn g54 rfl ?_
 repeat' (first
  | apply zC | apply zE | apply zD | apply zL | apply zT | apply zW | (apply zI; rfl; · repeat' (first | refine at1 ?_ rfl | apply at2 | exact same0 | refine same1 ?_ rfl | apply same2 | exact rd_ld rfl (h.ld c1) rfl)) | (apply zI; rfl; · repeat' (first | refine at1 ?_ rfl | apply at2 | exact same0 | refine same1 ?_ rfl | apply same2 | exact rd_ld rfl (h.ld c2) rfl)) | (apply zI; rfl; · repeat' (first | refine at1 ?_ rfl | apply at2 | exact same0 | refine same1 ?_ rfl | apply same2 | exact rd_ld rfl (h.ld c3) rfl)) | (apply yI; rfl; rfl; exact service29_ok ok h hx; rintro _ H1 ⟨rfl, h1⟩) | (apply zB; rfl; (intro _; rfl)) | (apply zQ; rfl; (intro _; rfl)))
 exact ⟨trivial, [_], ⟨_, [], rfl, rfl, rfl⟩, H1, ⟨rfl, h1⟩, SubP.refl⟩
theorem lay55_ok {H R : HL} {rp a1 a2 a3 M pl lp pn : Nat} {s : RS} {x : KC} {jm ji ix : Int} (ok : RsOk M s) (h : RosAt B H rp a1 a2 a3 M s R) (c1 : Ld B R ⟨false, pl, 0⟩ 1 [.ptr ⟨false, lp, 0⟩]) (c2 : Ld B R ⟨false, lp, 0⟩ 1 [.ptr ⟨false, rp, 0⟩])
  (c3 : Ld B R ⟨false, pn, 0⟩ 7 (ckC x jm ji)) (hx : CkIs x) :
  WF B tab (.func 55) [.int .u64 ix, .ptr ⟨false, pl, 0⟩, .ptr ⟨false, pn, 0⟩] H fun r H' => r = .int .i64 (.ofNat (checkS M s x ix).2) ∧ RosAt B H' rp a1 a2 a3 M (checkS M s x ix).1 R := by
 refine zY ?_
 refine WF.fn g55 rfl ?_
 repeat' (first
  | apply zC | apply zE | apply zD | apply zL | apply zT | apply zW | (apply zI; rfl; · repeat' (first | refine at1 ?_ rfl | apply at2 | exact same0 | refine same1 ?_ rfl | apply same2 | exact rd_ld rfl (h.ld c1) rfl)) | (apply zI; rfl; · repeat' (first | refine at1 ?_ rfl | apply at2 | exact same0 | refine same1 ?_ rfl | apply same2 | exact rd_ld rfl (h.ld c2) rfl)) | (apply zI; rfl; · repeat' (first | refine at1 ?_ rfl | apply at2 | exact same0 | refine same1 ?_ rfl | apply same2 | exact rd_ld rfl (h.ld c3) rfl)) | (apply yI; rfl; rfl; exact check18_ok ok h hx; rintro _ H1 ⟨rfl, h1⟩) | (apply zB; rfl; (intro _; rfl)) | (apply zQ; rfl; (intro _; rfl)))
 exact ⟨trivial, [_], ⟨_, [], rfl, rfl, rfl⟩, H1, ⟨rfl, h1⟩, SubP.refl⟩
def oneP (st : RS → Int → RS × Nat) (s : RS) (last : Int) (kp key : List Nat) (mk ix : Int) : Prop := strLess kp key = true ∧ mk ≤ ix ∧ ix ≤ last ∧ (st s mk).2 = 0 ∧ (st (st s mk).1 ix).2 = 0
set_option maxHeartbeats 4000000 in
theorem one0_ok {H X : HL} {rp a1 a2 a3 M lp g : Nat} {s : RS} {cap : List AV} {l1 l2 l3 mk ix : Int} {k1 k2 k3 key : List Nat} {w : Bool} (st : RS → Int → RS × Nat) (ok : RsOk M s) (hst : ∀ s ix, RsOk M s → RsOk M (st s ix).1)
  (h : RosAt B H rp a1 a2 a3 M s ((lp, .row (ldC rp l1 l2 l3 k1 k2 k3 w)) :: X))
  (hy : ∀ s i H', RsOk M s → RosAt B H' rp a1 a2 a3 M s ((lp, .row (ldC rp l1 l2 l3 key k2 k3 w)) :: X) → WF B tab (.func g) ([] ++ ([.int .u64 i] ++ cap)) H' fun r H2 => r = .int .i64 (.ofNat (st s i).2) ∧ RosAt B H2 rp a1 a2 a3 M (st s i).1 ((lp, .row (ldC rp l1 l2 l3 key k2 k3 w)) :: X)) :
  WF B tab (.func 51) [.ptr ⟨false, lp, 0⟩, .int .i64 (.ofNat 0), .str key, .int .u64 mk, .int .u64 ix, .fn (.func g) [] cap] H fun _ H' => ∃ s' k' w', RsOk M s' ∧ RosAt B H' rp a1 a2 a3 M s' ((lp, .row (ldC rp l1 l2 l3 k' k2 k3 w')) :: X) ∧
   ((w = false ∧ w' = false ∧ oneP st s l1 k1 key mk ix ∧ s' = (st (st s mk).1 ix).1 ∧ k' = key) ∨ (w' = true ∧ ¬ (w = false ∧ oneP st s l1 k1 key mk ix))) := by
 refine WF.fn g51 rfl ?_
 obtain ⟨R2, tk, back⟩ := h.tk zG
 have row : Ld B H ⟨false, lp, 0⟩ 8 (ldC rp l1 l2 l3 k1 k2 k3 w) := h.ld (Ld.own zG rfl)
 have d7 : Ld B H ⟨false, lp, 7⟩ 1 [.bool w] := row.part 7 1 (by omega)
 have dk : Ld B H ⟨false, lp, 4⟩ 1 [.str k1] := row.part 4 1 (by omega)
 have dl : Ld B H ⟨false, lp, 1⟩ 1 [.int .u64 l1] := row.part 1 1 (by omega)
 cases w
 ·repeat' (first
   | apply zC | apply zE | apply zD | apply zJ | apply zL | (apply zS; rfl) | (apply zF; rfl; rfl; exact d7; rfl) | (apply zF; rfl; rfl; exact dk; rfl) | (apply zF; rfl; rfl; exact dl; rfl) | (apply zP; rfl; rfl; exact tk; rfl; rfl; rfl) | (apply zM; rfl; rfl; rfl; rfl; intro _ _) | (apply yH; rfl; rfl; rfl; rfl; intro _ _) | (apply zB; rfl; (intro _; rfl)) | (apply zV; rfl) | (apply WOps.ask; rfl; all_goals (intro hb; first | subst hb | fail_if_success (cases hb))) | (apply zN; rfl; all_goals (intro hb; try subst hb)))
  ·have q := ‹true = true ↔ cmpS BinOp.leq _ _›.1 rfl
   exact ⟨trivial, [], rfl, s, _, true, ok, back _, .inr ⟨rfl, fun p => by
    rcases q with q | q
    ·exact less_asymm p.2.1 q
    ·have := p.2.1; rw [q, less_irr] at this; cases this⟩⟩
  ·have q := ‹true = true ↔ cmpP BinOp.gtr mk ix›.1 rfl
   simp only [cmpP] at q
   exact ⟨trivial, [], rfl, s, _, true, ok, back _, .inr ⟨rfl, fun p => by have := p.2.2.1; omega⟩⟩
  ·have q := ‹true = true ↔ cmpP BinOp.gtr ix l1›.1 rfl
   simp only [cmpP] at q
   exact ⟨trivial, [], rfl, s, _, true, ok, back _, .inr ⟨rfl, fun p => by have := p.2.2.2.1; omega⟩⟩
  have q1 := not_leq (eq_of_ff ‹false = true ↔ cmpS BinOp.leq _ _›)
  have q2 := eq_of_ff ‹false = true ↔ cmpP BinOp.gtr mk ix›
  have q3 := eq_of_ff ‹false = true ↔ cmpP BinOp.gtr ix l1›
  simp only [cmpP] at q2 q3
  repeat' (first
   | (apply WOps.cvA; rfl; rfl; rfl; exact hy s mk _ ok (back _); rintro _ H1 ⟨rfl, h1⟩) | (apply WOps.cvA; rfl; rfl; rfl; exact hy _ ix _ (hst s mk ok) h1; rintro _ H2 ⟨rfl, h2⟩) | (apply zM; rfl; rfl; rfl; rfl; intro _ _) | (apply zB; rfl; (intro _; rfl)) | (apply zV; rfl) | (apply WOps.ask; rfl; all_goals (intro hb; first | subst hb | fail_if_success (cases hb))))
  ·have e1 := ‹true = true ↔ cmpP BinOp.neq _ _›.1 rfl
   simp only [cmpP, Int.ofNat_eq_natCast] at e1
   obtain ⟨R3, tk3, back3⟩ := h1.tk zG
   refine zP rfl rfl tk3 rfl rfl rfl ?_
   repeat' (first
    | apply zC)
   exact ⟨trivial, [], rfl, _, _, true, hst s mk ok, back3 _, .inr ⟨rfl, fun p => by have := p.2.2.2.2.1; omega⟩⟩
  ·have e1 := eq_of_ff ‹false = true ↔ cmpP BinOp.neq (Int.ofNat (st s mk).2) _›
   simp only [cmpP, Int.ofNat_eq_natCast] at e1
   rename_i v hv
   obtain ⟨R3, tk3, back3⟩ := h2.tk zG
   refine zP rfl rfl tk3 rfl rfl rfl ?_
   repeat' (first
    | apply zC)
   refine ⟨trivial, [], rfl, _, _, v, hst _ ix (hst s mk ok), back3 _, ?_⟩
   cases v
   ·have e2 := eq_of_ff hv
    simp only [cmpP, Int.ofNat_eq_natCast] at e2
    exact .inl ⟨rfl, rfl, ⟨q1, by omega, by omega, by omega, by omega⟩, rfl, rfl⟩
   ·have e2 := hv.1 rfl
    simp only [cmpP, Int.ofNat_eq_natCast] at e2
    exact .inr ⟨rfl, fun p => by have := p.2.2.2.2.2; omega⟩
 ·repeat' (first
   | apply zC | apply zE | apply zD | apply zL | (apply zS; rfl) | (apply zF; rfl; rfl; exact d7; rfl) | (apply zP; rfl; rfl; exact tk; rfl; rfl; rfl) | (apply zB; rfl; (intro _; rfl)) | (apply zV; rfl))
  exact ⟨trivial, [], rfl, s, _, true, ok, back _, .inr ⟨rfl, fun q => by cases q.1⟩⟩
set_option maxHeartbeats 4000000 in
theorem one1_ok {H X : HL} {rp a1 a2 a3 M lp g : Nat} {s : RS} {cap : List AV} {l1 l2 l3 mk ix : Int} {k1 k2 k3 key : List Nat} {w : Bool} (st : RS → Int → RS × Nat) (ok : RsOk M s) (hst : ∀ s ix, RsOk M s → RsOk M (st s ix).1)
  (h : RosAt B H rp a1 a2 a3 M s ((lp, .row (ldC rp l1 l2 l3 k1 k2 k3 w)) :: X))
  (hy : ∀ s i H', RsOk M s → RosAt B H' rp a1 a2 a3 M s ((lp, .row (ldC rp l1 l2 l3 k1 key k3 w)) :: X) → WF B tab (.func g) ([] ++ ([.int .u64 i] ++ cap)) H' fun r H2 => r = .int .i64 (.ofNat (st s i).2) ∧ RosAt B H2 rp a1 a2 a3 M (st s i).1 ((lp, .row (ldC rp l1 l2 l3 k1 key k3 w)) :: X)) :
  WF B tab (.func 51) [.ptr ⟨false, lp, 0⟩, .int .i64 (.ofNat 1), .str key, .int .u64 mk, .int .u64 ix, .fn (.func g) [] cap] H fun _ H' => ∃ s' k' w', RsOk M s' ∧ RosAt B H' rp a1 a2 a3 M s' ((lp, .row (ldC rp l1 l2 l3 k1 k' k3 w')) :: X) ∧
   ((w = false ∧ w' = false ∧ oneP st s l2 k2 key mk ix ∧ s' = (st (st s mk).1 ix).1 ∧ k' = key) ∨ (w' = true ∧ ¬ (w = false ∧ oneP st s l2 k2 key mk ix))) := by
 refine WF.fn g51 rfl ?_
 obtain ⟨R2, tk, back⟩ := h.tk zG
 have row : Ld B H ⟨false, lp, 0⟩ 8 (ldC rp l1 l2 l3 k1 k2 k3 w) := h.ld (Ld.own zG rfl)
 have d7 : Ld B H ⟨false, lp, 7⟩ 1 [.bool w] := row.part 7 1 (by omega)
 have dk : Ld B H ⟨false, lp, 5⟩ 1 [.str k2] := row.part 5 1 (by omega)
 have dl : Ld B H ⟨false, lp, 2⟩ 1 [.int .u64 l2] := row.part 2 1 (by omega)
 cases w
 ·repeat' (first
   | apply zC | apply zE | apply zD | apply zJ | apply zL | (apply zS; rfl) | (apply zF; rfl; rfl; exact d7; rfl) | (apply zF; rfl; rfl; exact dk; rfl) | (apply zF; rfl; rfl; exact dl; rfl) | (apply zP; rfl; rfl; exact tk; rfl; rfl; rfl) | (apply zM; rfl; rfl; rfl; rfl; intro _ _) | (apply yH; rfl; rfl; rfl; rfl; intro _ _) | (apply zB; rfl; (intro _; rfl)) | (apply zV; rfl) | (apply WOps.ask; rfl; all_goals (intro hb; first | subst hb | fail_if_success (cases hb))) | (apply zN; rfl; all_goals (intro hb; try subst hb)))
  ·have q := ‹true = true ↔ cmpS BinOp.leq _ _›.1 rfl
   exact ⟨trivial, [], rfl, s, _, true, ok, back _, .inr ⟨rfl, fun p => by
    rcases q with q | q
    ·exact less_asymm p.2.1 q
    ·have := p.2.1; rw [q, less_irr] at this; cases this⟩⟩
  ·have q := ‹true = true ↔ cmpP BinOp.gtr mk ix›.1 rfl
   simp only [cmpP] at q
   exact ⟨trivial, [], rfl, s, _, true, ok, back _, .inr ⟨rfl, fun p => by have := p.2.2.1; omega⟩⟩
  ·have q := ‹true = true ↔ cmpP BinOp.gtr ix l2›.1 rfl
   simp only [cmpP] at q
   exact ⟨trivial, [], rfl, s, _, true, ok, back _, .inr ⟨rfl, fun p => by have := p.2.2.2.1; omega⟩⟩
  have q1 := not_leq (eq_of_ff ‹false = true ↔ cmpS BinOp.leq _ _›)
  have q2 := eq_of_ff ‹false = true ↔ cmpP BinOp.gtr mk ix›
  have q3 := eq_of_ff ‹false = true ↔ cmpP BinOp.gtr ix l2›
  simp only [cmpP] at q2 q3
  repeat' (first
   | (apply WOps.cvA; rfl; rfl; rfl; exact hy s mk _ ok (back _); rintro _ H1 ⟨rfl, h1⟩) | (apply WOps.cvA; rfl; rfl; rfl; exact hy _ ix _ (hst s mk ok) h1; rintro _ H2 ⟨rfl, h2⟩) | (apply zM; rfl; rfl; rfl; rfl; intro _ _) | (apply zB; rfl; (intro _; rfl)) | (apply zV; rfl) | (apply WOps.ask; rfl; all_goals (intro hb; first | subst hb | fail_if_success (cases hb))))
  ·have e1 := ‹true = true ↔ cmpP BinOp.neq _ _›.1 rfl
   simp only [cmpP, Int.ofNat_eq_natCast] at e1
   obtain ⟨R3, tk3, back3⟩ := h1.tk zG
   refine zP rfl rfl tk3 rfl rfl rfl ?_
   repeat' (first
    | apply zC)
   exact ⟨trivial, [], rfl, _, _, true, hst s mk ok, back3 _, .inr ⟨rfl, fun p => by have := p.2.2.2.2.1; omega⟩⟩
  ·have e1 := eq_of_ff ‹false = true ↔ cmpP BinOp.neq (Int.ofNat (st s mk).2) _›
   simp only [cmpP, Int.ofNat_eq_natCast] at e1
   rename_i v hv
   obtain ⟨R3, tk3, back3⟩ := h2.tk zG
   refine zP rfl rfl tk3 rfl rfl rfl ?_
   repeat' (first
    | apply zC)
   refine ⟨trivial, [], rfl, _, _, v, hst _ ix (hst s mk ok), back3 _, ?_⟩
   cases v
   ·have e2 := eq_of_ff hv
    simp only [cmpP, Int.ofNat_eq_natCast] at e2
    exact .inl ⟨rfl, rfl, ⟨q1, by omega, by omega, by omega, by omega⟩, rfl, rfl⟩
   ·have e2 := hv.1 rfl
    simp only [cmpP, Int.ofNat_eq_natCast] at e2
    exact .inr ⟨rfl, fun p => by have := p.2.2.2.2.2; omega⟩
 ·repeat' (first
   | apply zC | apply zE | apply zD | apply zL | (apply zS; rfl) | (apply zF; rfl; rfl; exact d7; rfl) | (apply zP; rfl; rfl; exact tk; rfl; rfl; rfl) | (apply zB; rfl; (intro _; rfl)) | (apply zV; rfl))
  exact ⟨trivial, [], rfl, s, _, true, ok, back _, .inr ⟨rfl, fun q => by cases q.1⟩⟩
set_option maxHeartbeats 4000000 in
theorem one2_ok {H X : HL} {rp a1 a2 a3 M lp g : Nat} {s : RS} {cap : List AV} {l1 l2 l3 mk ix : Int} {k1 k2 k3 key : List Nat} {w : Bool} (st : RS → Int → RS × Nat) (ok : RsOk M s) (hst : ∀ s ix, RsOk M s → RsOk M (st s ix).1)
  (h : RosAt B H rp a1 a2 a3 M s ((lp, .row (ldC rp l1 l2 l3 k1 k2 k3 w)) :: X))
  (hy : ∀ s i H', RsOk M s → RosAt B H' rp a1 a2 a3 M s ((lp, .row (ldC rp l1 l2 l3 k1 k2 key w)) :: X) → WF B tab (.func g) ([] ++ ([.int .u64 i] ++ cap)) H' fun r H2 => r = .int .i64 (.ofNat (st s i).2) ∧ RosAt B H2 rp a1 a2 a3 M (st s i).1 ((lp, .row (ldC rp l1 l2 l3 k1 k2 key w)) :: X)) :
  WF B tab (.func 51) [.ptr ⟨false, lp, 0⟩, .int .i64 (.ofNat 2), .str key, .int .u64 mk, .int .u64 ix, .fn (.func g) [] cap] H fun _ H' => ∃ s' k' w', RsOk M s' ∧ RosAt B H' rp a1 a2 a3 M s' ((lp, .row (ldC rp l1 l2 l3 k1 k2 k' w')) :: X) ∧
   ((w = false ∧ w' = false ∧ oneP st s l3 k3 key mk ix ∧ s' = (st (st s mk).1 ix).1 ∧ k' = key) ∨ (w' = true ∧ ¬ (w = false ∧ oneP st s l3 k3 key mk ix))) := by
 refine WF.fn g51 rfl ?_
 obtain ⟨R2, tk, back⟩ := h.tk zG
 have row : Ld B H ⟨false, lp, 0⟩ 8 (ldC rp l1 l2 l3 k1 k2 k3 w) := h.ld (Ld.own zG rfl)
 have d7 : Ld B H ⟨false, lp, 7⟩ 1 [.bool w] := row.part 7 1 (by omega)
 have dk : Ld B H ⟨false, lp, 6⟩ 1 [.str k3] := row.part 6 1 (by omega)
 have dl : Ld B H ⟨false, lp, 3⟩ 1 [.int .u64 l3] := row.part 3 1 (by omega)
 cases w
 ·repeat' (first
   | apply zC | apply zE | apply zD | apply zJ | apply zL | (apply zS; rfl) | (apply zF; rfl; rfl; exact d7; rfl) | (apply zF; rfl; rfl; exact dk; rfl) | (apply zF; rfl; rfl; exact dl; rfl) | (apply zP; rfl; rfl; exact tk; rfl; rfl; rfl) | (apply zM; rfl; rfl; rfl; rfl; intro _ _) | (apply yH; rfl; rfl; rfl; rfl; intro _ _) | (apply zB; rfl; (intro _; rfl)) | (apply zV; rfl) | (apply WOps.ask; rfl; all_goals (intro hb; first | subst hb | fail_if_success (cases hb))) | (apply zN; rfl; all_goals (intro hb; try subst hb)))
  ·have q := ‹true = true ↔ cmpS BinOp.leq _ _›.1 rfl
   exact ⟨trivial, [], rfl, s, _, true, ok, back _, .inr ⟨rfl, fun p => by
    rcases q with q | q
    ·exact less_asymm p.2.1 q
    ·have := p.2.1; rw [q, less_irr] at this; cases this⟩⟩
  ·have q := ‹true = true ↔ cmpP BinOp.gtr mk ix›.1 rfl
   simp only [cmpP] at q
   exact ⟨trivial, [], rfl, s, _, true, ok, back _, .inr ⟨rfl, fun p => by have := p.2.2.1; omega⟩⟩
  ·have q := ‹true = true ↔ cmpP BinOp.gtr ix l3›.1 rfl
   simp only [cmpP] at q
   exact ⟨trivial, [], rfl, s, _, true, ok, back _, .inr ⟨rfl, fun p => by have := p.2.2.2.1; omega⟩⟩
  have q1 := not_leq (eq_of_ff ‹false = true ↔ cmpS BinOp.leq _ _›)
  have q2 := eq_of_ff ‹false = true ↔ cmpP BinOp.gtr mk ix›
  have q3 := eq_of_ff ‹false = true ↔ cmpP BinOp.gtr ix l3›
  simp only [cmpP] at q2 q3
  repeat' (first
   | (apply WOps.cvA; rfl; rfl; rfl; exact hy s mk _ ok (back _); rintro _ H1 ⟨rfl, h1⟩) | (apply WOps.cvA; rfl; rfl; rfl; exact hy _ ix _ (hst s mk ok) h1; rintro _ H2 ⟨rfl, h2⟩) | (apply zM; rfl; rfl; rfl; rfl; intro _ _) | (apply zB; rfl; (intro _; rfl)) | (apply zV; rfl) | (apply WOps.ask; rfl; all_goals (intro hb; first | subst hb | fail_if_success (cases hb))))
  ·have e1 := ‹true = true ↔ cmpP BinOp.neq _ _›.1 rfl
   simp only [cmpP, Int.ofNat_eq_natCast] at e1
   obtain ⟨R3, tk3, back3⟩ := h1.tk zG
   refine zP rfl rfl tk3 rfl rfl rfl ?_
   repeat' (first
    | apply zC)
   exact ⟨trivial, [], rfl, _, _, true, hst s mk ok, back3 _, .inr ⟨rfl, fun p => by have := p.2.2.2.2.1; omega⟩⟩
  ·have e1 := eq_of_ff ‹false = true ↔ cmpP BinOp.neq (Int.ofNat (st s mk).2) _›
   simp only [cmpP, Int.ofNat_eq_natCast] at e1
   rename_i v hv
   obtain ⟨R3, tk3, back3⟩ := h2.tk zG
   refine zP rfl rfl tk3 rfl rfl rfl ?_
   repeat' (first
    | apply zC)
   refine ⟨trivial, [], rfl, _, _, v, hst _ ix (hst s mk ok), back3 _, ?_⟩
   cases v
   ·have e2 := eq_of_ff hv
    simp only [cmpP, Int.ofNat_eq_natCast] at e2
    exact .inl ⟨rfl, rfl, ⟨q1, by omega, by omega, by omega, by omega⟩, rfl, rfl⟩
   ·have e2 := hv.1 rfl
    simp only [cmpP, Int.ofNat_eq_natCast] at e2
    exact .inr ⟨rfl, fun p => by have := p.2.2.2.2.2; omega⟩
 ·repeat' (first
   | apply zC | apply zE | apply zD | apply zL | (apply zS; rfl) | (apply zF; rfl; rfl; exact d7; rfl) | (apply zP; rfl; rfl; exact tk; rfl; rfl; rfl) | (apply zB; rfl; (intro _; rfl)) | (apply zV; rfl))
  exact ⟨trivial, [], rfl, s, _, true, ok, back _, .inr ⟨rfl, fun q => by cases q.1⟩⟩
theorem raiseN_ok {H R : HL} {rp a1 a2 a3 M : Nat} {s : RS} {ix : Int} (ok : RsOk M s) (h : RosAt B H rp a1 a2 a3 M s R) : WF B tab (.func 56) [.ptr ⟨false, a1, 0⟩, .int .u64 ix] H fun r H' => RosAt B H' rp a1 a2 a3 M { s with l1 := maxI s.l1 ix } R := by
 obtain ⟨xn, R1, e1, t, back⟩ := h.n
 refine WF.mono (raise56_at ok.m1 t) fun r H' t1 => ?_
 have := back H' [] xn _ t1
 rw [e1] at this
 exact this
theorem raiseS_ok {H R : HL} {rp a1 a2 a3 M : Nat} {s : RS} {ix : Int} (ok : RsOk M s) (h : RosAt B H rp a1 a2 a3 M s R) : WF B tab (.func 57) [.ptr ⟨false, a2, 0⟩, .int .u64 ix] H fun r H' => RosAt B H' rp a1 a2 a3 M { s with l2 := maxI s.l2 ix } R := by
 obtain ⟨xn, G, R1, e1, tg, t, back⟩ := h.s
 refine WF.mono (raise57_at ok.m1 t) fun r H' t1 => ?_
 have := back H' [] G xn _ tg t1
 rw [e1] at this
 exact this
theorem raiseC_ok {H R : HL} {rp a1 a2 a3 M : Nat} {s : RS} {ix : Int} (ok : RsOk M s) (h : RosAt B H rp a1 a2 a3 M s R) : WF B tab (.func 58) [.ptr ⟨false, a3, 0⟩, .int .u64 ix] H fun r H' => RosAt B H' rp a1 a2 a3 M { s with l3 := maxI s.l3 ix } R := by
 obtain ⟨xn, R1, e1, t, back⟩ := h.c
 refine WF.mono (raise58_at ok.m1 t) fun r H' t1 => ?_
 have := back H' [] xn _ t1
 rw [e1] at this
 exact this
noncomputable def stN (M : Nat) (e : TE KN) (s : RS) (ix : Int) : RS × Nat := by classical exact nodeS M s e.v.node e.v.addr ix
noncomputable def stS (M : Nat) (e : TE KS) (s : RS) (ix : Int) : RS × Nat := by classical exact serviceS M s e.v ix
noncomputable def stC (M : Nat) (e : TE KC) (s : RS) (ix : Int) : RS × Nat := by classical exact checkS M s e.v ix
open Classical in
noncomputable def loadN (M : Nat) (last : Int) : List (TE KN) → RS → List Nat → Option RS
 | [], s, _ => some s
 | e :: r, s, kp => if (0 ≤ e.v.node ∧ e.v.node < 8) ∧ oneP (stN M e) s last kp (keyN e.v.node.toNat) e.mke e.ix then loadN M last r (stN M e (stN M e s e.mke).1 e.ix).1 (keyN e.v.node.toNat) else none
open Classical in
noncomputable def loadS (M : Nat) (last : Int) : List (TE KS) → RS → List Nat → Option RS
 | [], s, _ => some s
 | e :: r, s, kp => if (0 ≤ e.v.node ∧ e.v.node < 8) ∧ oneP (stS M e) s last kp (keyS e.v.node.toNat e.v.id) e.mke e.ix then loadS M last r (stS M e (stS M e s e.mke).1 e.ix).1 (keyS e.v.node.toNat e.v.id) else none
open Classical in
noncomputable def loadC (M : Nat) (last : Int) : List (TE KC) → RS → List Nat → Option RS
 | [], s, _ => some s
 | e :: r, s, kp => if (0 ≤ e.v.node ∧ e.v.node < 8) ∧ oneP (stC M e) s last kp (keyS e.v.node.toNat e.v.id) e.mke e.ix then loadC M last r (stC M e (stC M e s e.mke).1 e.ix).1 (keyS e.v.node.toNat e.v.id) else none
theorem RosAt.tgi {H R : HL} {rp a1 a2 a3 M : Nat} {s : RS} {a : AV} {l : List (List Nat)} (h : RosAt B H rp a1 a2 a3 M s R) (k : TgIn B R a l) : TgIn B H a l := by
 obtain ⟨xn, ys, xc, v1, v2, v3, h1, h2, h3, G, e1, e2, e3, o1, o2, o3, tg, q⟩ := h
 exact TgIn.perm q (TgIn.cons (TgIn.cons (TgIn.cons (TgIn.cons (TgIn.right (TgIn.right (TgIn.right (TgIn.right k))))))))
set_option maxHeartbeats 8000000 in
theorem load20_ok {H0 : HL} {most l1 l2 l3 : Int} {vn vs vc : AV} {nl : List (TE KN)} {sl : List (TE KS × AV)} {cl : List (TE KC)} (hn : SlIs B H0 vn 4 (nl.map entN)) (hs : SlIs B H0 vs 7 (sl.map fun p => entS p.1 p.2)) (hc : SlIs B H0 vc 7 (cl.map entC))
  (ln : nl.length ≤ 9223372036854775807) (ls : sl.length ≤ 9223372036854775807) (lc : cl.length ≤ 9223372036854775807)
  (os : ∀ p, p ∈ sl → TgIn B H0 p.2 p.1.v.tags ∧ p.1.v.tags.length ≤ 8796093021952 ∧ p.1.v.id.length ≤ 140737488351232 ∧ p.1.v.name.length ≤ 140737488351232 ∧ shortL p.1.v.tags) (oc : ∀ e, e ∈ cl → CkIs e.v) :
  WF B tab (.func 20) [.int .i64 most, vn, vs, vc, .agg [.int .u64 l1, .int .u64 l2, .int .u64 l3]] H0 fun r H' =>
   match ((loadN (mostOf most) l1 nl rs0 []).bind fun s => loadS (mostOf most) l2 (sl.map (·.1)) s []).bind fun s => loadC (mostOf most) l3 cl s [] with
   | none => r = .tup [.nilp, .int .i64 (.ofNat 2)] ∧ H' = H0
   | some s => ∃ rp a1 a2 a3, r = .tup [.ptr ⟨false, rp, 0⟩, .int .i64 (.ofNat 0)] ∧ RosAt B H' rp a1 a2 a3 (mostOf most) { s with l1 := maxI s.l1 l1, l2 := maxI s.l2 l2, l3 := maxI s.l3 l3 } H0 := by
 refine zY ?_
 refine WF.fn g20 rfl ?_
 have hM1 := mostOf_ge most
 have hM2 := mostOf_le most
 have cn := hn.cell
 have cs := hs.cell
 have cc := hc.cell
 refine zE (zD ?_)
 repeat' (first
  | apply zC | (apply yC; rfl; rfl; (· repeat' (first | rfl | assumption | apply ac1)); intro _) | (apply zB; rfl; (intro _; rfl)))
 refine zE (zT ?_)
 repeat' (first
  | apply zW | (apply WD.st; rfl; rfl; rfl; (first | exact tk0 | exact tk1 | exact tk2); rfl; (· repeat' (first | rfl | assumption | apply ac1)); rfl) | (apply WD.alc; rfl; rfl; intro _) | (apply yI; rfl; rfl; exact new7_ok _; rintro _ H1 ⟨rp, a1, a2, a3, rfl, h1⟩) | (apply WD.bx; rfl; rfl; rfl; rfl; intro _) | (apply zI; rfl; · repeat' (first | refine at1 ?_ rfl | apply at2 | exact same0 | refine same1 ?_ rfl | apply same2 | exact rd_ld rfl ((by first | exact h1.ld (Ld.own zG rfl) | exact Ld.own zG rfl)) rfl)) | (apply zQ; rfl; (intro _; rfl)))
 rename_i p9 lp p12
 generalize mostOf most = M at *
 have hX : RosAt B ((p12, .row [.ptr ⟨false, lp, 0⟩]) :: (lp, .row (ldC rp l1 l2 l3 [] [] [] false)) :: H1) rp a1 a2 a3 M rs0 ((lp, .row (ldC rp l1 l2 l3 [] [] [] false)) :: (p12, .row [.ptr ⟨false, lp, 0⟩]) :: (p9, .row [.int .u64 l1, .int .u64 l2, .int .u64 l3]) :: H0) := (h1.cons.cons).permR (List.Perm.swap _ _ _)
 refine WC.cut2 (X := HL × RS × List Nat × Bool) (fun _ => [(2, vs), (3, vc), (9, .ptr ⟨false, p9, 0⟩), (12, .ptr ⟨false, p12, 0⟩)]) (fun x => x.1) (fun x => RsOk M x.2.1 ∧ RosAt B x.1 rp a1 a2 a3 M x.2.1 ((lp, .row (ldC rp l1 l2 l3 x.2.2.1 [] [] x.2.2.2)) :: (p12, .row [.ptr ⟨false, lp, 0⟩]) :: (p9, .row [.int .u64 l1, .int .u64 l2, .int .u64 l3]) :: H0) ∧
  ((x.2.2.2 = false ∧ loadN M l1 nl rs0 [] = some x.2.1) ∨ (x.2.2.2 = true ∧ loadN M l1 nl rs0 [] = none))) ?_ ?_
 ·have hsl := hX.sl (SlIs.cons (SlIs.cons (SlIs.cons hn)))
  repeat' (first
   | apply zC | apply zE | apply zD | apply zK | (apply zU; rfl; rfl; exact hsl) | (apply zB; rfl; (intro _; rfl)))
  rw [List.length_map]
  refine yG ?_
  obtain ⟨i, hi⟩ : ∃ i : Nat, i = 0 := ⟨0, rfl⟩
  obtain ⟨H, s, k, w, hH, hX, ok, J⟩ : ∃ (H : HL) (s : RS) (k : List Nat) (w : Bool), ((p12, .row [.ptr ⟨false, lp, 0⟩]) :: (lp, .row (ldC rp l1 l2 l3 [] [] [] false)) :: H1) = H ∧ RosAt B H rp a1 a2 a3 M s ((lp, .row (ldC rp l1 l2 l3 k [] [] w)) :: (p12, .row [.ptr ⟨false, lp, 0⟩]) :: (p9, .row [.int .u64 l1, .int .u64 l2, .int .u64 l3]) :: H0) ∧ RsOk M s ∧ ((w = false ∧ loadN M l1 nl rs0 [] = loadN M l1 (nl.drop i) s k) ∨ (w = true ∧ loadN M l1 nl rs0 [] = none)) := ⟨_, rs0, [], false, rfl, hX, rs_zero hM1 hM2, .inl ⟨rfl, by subst hi; rfl⟩⟩
  refine WL.heq (H' := H) hH ?_
  refine WL.le (t' := [(2, vs), (3, vc), (9, .ptr ⟨false, p9, 0⟩), (12, .ptr ⟨false, p12, 0⟩), (24, vn), (25, .int .i64 (.ofNat nl.length)), (26, .int .i64 (.ofNat i))]) (by subst hi; exact zA rfl (zA rfl (zA rfl (zA rfl (zA rfl (zA rfl (zA rfl (zH)))))))) ?_
  have hle : i ≤ nl.length := by omega
  clear hi hH hsl
  induction hm : nl.length - i using Nat.strongRecOn generalizing i H s k w with | _ q ih => ?_
  have hsl := hX.sl (SlIs.cons (SlIs.cons (SlIs.cons hn)))
  apply WL.step
  repeat' (first
   | apply zC | apply zE | apply zD | apply zJ | apply zZ | apply zK | (apply zM; rfl; rfl; rfl; rfl; intro _ _) | (apply zN; rfl; all_goals (intro hb; try subst hb)))
  ·have hlt : i < nl.length := by
    have h0 := ‹true = true ↔ cmpP BinOp.lss (Int.ofNat i) (Int.ofNat nl.length)›
    simp [cmpP] at h0; omega
   have hcm : (nl.map entN)[i]? = some (entN nl[i]) := by rw [List.getElem?_map, List.getElem?_eq_getElem hlt]; rfl
   have hdr : nl.drop i = nl[i] :: nl.drop (i + 1) := List.drop_eq_getElem_cons hlt
   rw [hdr] at J
   skip
   obtain ⟨e, he⟩ : ∃ e, e = nl[i] := ⟨_, rfl⟩
   rw [← he] at hcm J
   obtain ⟨ek, ⟨node, addr⟩, mk, ix⟩ := e
   skip
   repeat' (first
    | apply zC | apply zE | apply zD | apply zJ | apply zL | (apply zS; rfl) | (apply zO; rfl) | apply zT | (apply zF; rfl; rfl; (first | exact ld0 rfl | exact ld1 rfl | exact ld2 rfl); rfl) | (apply zP; rfl; rfl; (first | exact tk0 | exact tk1 | exact tk2); rfl; (· repeat' (first | rfl | assumption | apply ac1)); rfl) | (apply yE; rfl; intro _) | (apply yA; rfl; rfl; rfl; exact hsl; exact hcm; intro ax hax) | (apply zF; rfl; rfl; exact hax; rfl) | (apply WOps.clR; rfl; rfl; exact right49_ok _; rintro _ (⟨rfl, n, hn8, rfl⟩ | ⟨rfl, hno⟩)) | (apply zB; rfl; (intro _; rfl)) | (apply zI; rfl; · repeat' (first | refine at1 ?_ rfl | apply at2 | exact same0 | refine same1 ?_ rfl | apply same2 | (first | exact rd0 rfl rfl rfl | exact rd1 rfl rfl rfl | exact rd2 rfl rfl rfl))) | (apply zQ; rfl; (intro _; rfl)))
   ·rename_i p14
    have hd : 0 ≤ Int.ofNat n ∧ Int.ofNat n < 8 := ⟨Int.natCast_nonneg _, by show (n : Int) < 8; omega⟩
    have hR : RosAt B ((p14, .row (entN ⟨ek, ⟨.ofNat n, addr⟩, mk, ix⟩)) :: H) rp a1 a2 a3 M s ((lp, .row (ldC rp l1 l2 l3 k [] [] w)) :: (p14, .row (entN ⟨ek, ⟨.ofNat n, addr⟩, mk, ix⟩)) :: (p12, .row [.ptr ⟨false, lp, 0⟩]) :: (p9, .row [.int .u64 l1, .int .u64 l2, .int .u64 l3]) :: H0) := hX.cons.permR (List.Perm.swap _ _ _)
    have O := one0_ok (B := B) (X := (p14, .row (entN ⟨ek, ⟨.ofNat n, addr⟩, mk, ix⟩)) :: (p12, .row [.ptr ⟨false, lp, 0⟩]) :: (p9, .row [.int .u64 l1, .int .u64 l2, .int .u64 l3]) :: H0) (g := 53) (cap := [.ptr ⟨false, p12, 0⟩, .ptr ⟨false, p14, 0⟩]) (mk := mk) (ix := ix) (key := keyN n) (stN M ⟨ek, ⟨.ofNat n, addr⟩, mk, ix⟩) ok (fun s ix ok => rs_node ok) hR (fun s i H' ok h => lay53_ok ok h (Ld.own (Tk.tail (Tk.tail zG)) rfl) (Ld.own zG rfl) (Ld.own (Tk.tail zG) rfl) (Ld.own (Tk.tail zG) rfl))
    have hl12 := hR.ld (B := B) (Ld.own (Tk.tail (Tk.tail zG)) (n := 1) (l := [.ptr ⟨false, lp, 0⟩]) (off := 0) rfl)
    repeat' (first
     | apply zC | apply zD | apply zW | (apply WD.clR; rfl; rfl; exact digit52_ok hn8; rintro _ rfl) | (apply zI; rfl; · repeat' (first | refine at1 ?_ rfl | apply at2 | exact same0 | refine same1 ?_ rfl | apply same2 | exact rd_ld rfl (hl12) rfl)) | (apply yI; rfl; rfl; exact O; rintro _ H2 ⟨s2, k2, w2, ok2, h2, hcase⟩) | (apply zR; rfl; rfl; rfl; omega) | (apply zB; rfl; (intro _; rfl)) | (apply zI; rfl; · repeat' (first | refine at1 ?_ rfl | apply at2 | exact same0 | refine same1 ?_ rfl | apply same2 | (first | exact rd0 rfl rfl rfl | exact rd1 rfl rfl rfl | exact rd2 rfl rfl rfl))) | (apply zQ; rfl; (intro _; rfl)))
    obtain ⟨H3, h3, s3⟩ := h2.less (R1 := ((lp, .row (ldC rp l1 l2 l3 k2 [] [] w2)) :: (p12, .row [.ptr ⟨false, lp, 0⟩]) :: (p9, .row [.int .u64 l1, .int .u64 l2, .int .u64 l3]) :: H0)) (subF (by intro f; simp only [AV.cells, pm] <;> omega))
    refine WL.le (t' := [(2, vs), (3, vc), (9, .ptr ⟨false, p9, 0⟩), (12, .ptr ⟨false, p12, 0⟩), (24, vn), (25, .int .i64 (.ofNat nl.length)), (26, .int .i64 (.ofNat (i + 1)))]) (zA rfl (zA rfl (zA rfl (zA rfl (zA rfl (zA rfl (zA rfl (zH)))))))) ?_
    refine yB s3 (ih _ (by omega) (i + 1) H3 s2 k2 w2 h3 ok2 ?_ (by omega) rfl)
    rcases hcase with ⟨rfl, rfl, hp, rfl, rfl⟩ | ⟨rfl, hno⟩
    ·rcases J with ⟨_, j2⟩ | ⟨j1, _⟩
     ·exact .inl ⟨rfl, j2.trans (if_pos ⟨hd, hp⟩)⟩
     ·cases j1
    ·rcases J with ⟨rfl, j2⟩ | ⟨_, j2⟩
     ·exact .inr ⟨rfl, j2.trans (if_neg fun q => hno ⟨rfl, q.2⟩)⟩
     ·exact .inr ⟨rfl, j2⟩
   ·have hT : loadN M l1 nl rs0 [] = none := by
     rcases J with ⟨_, j2⟩ | ⟨_, j2⟩
     ·exact j2.trans (if_neg fun q => hno q.1)
     ·exact j2
    rw [hT]
    exact ⟨trivial, [_, _], ⟨_, _, rfl, rfl, _, _, rfl, rfl, rfl⟩, H0, ⟨rfl, rfl⟩, SubP.add (SubP.trans (SubP.of (((List.sublist_cons_self _ _).trans (List.sublist_cons_self _ _)).trans (List.sublist_cons_self _ _))) hX.sub)⟩
  ·have hge : ¬ i < nl.length := by
    have h0 := ‹false = true ↔ cmpP BinOp.lss (Int.ofNat i) (Int.ofNat nl.length)›
    simp [cmpP] at h0; omega
   have e : nl.drop i = [] := List.drop_eq_nil_of_le (by skip; omega)
   refine ⟨(H, s, k, w), zA rfl (zA rfl (zA rfl (zA rfl (zH)))), SubP.refl, ok, hX, ?_⟩
   rcases J with ⟨j1, j2⟩ | ⟨j1, j2⟩
   ·exact .inl ⟨j1, by rw [j2, e]; rfl⟩
   ·exact .inr ⟨j1, j2⟩
 rintro ⟨HA, sA, u0, wA⟩ ⟨okA, hX, JA⟩
 simp only at okA hX JA
 refine WC.cut2 (X := HL × RS × List Nat × Bool) (fun _ => [(3, vc), (9, .ptr ⟨false, p9, 0⟩), (12, .ptr ⟨false, p12, 0⟩)]) (fun x => x.1) (fun x => RsOk M x.2.1 ∧ RosAt B x.1 rp a1 a2 a3 M x.2.1 ((lp, .row (ldC rp l1 l2 l3 u0 x.2.2.1 [] x.2.2.2)) :: (p12, .row [.ptr ⟨false, lp, 0⟩]) :: (p9, .row [.int .u64 l1, .int .u64 l2, .int .u64 l3]) :: H0) ∧
  ((x.2.2.2 = false ∧ ((loadN M l1 nl rs0 []).bind fun s => loadS M l2 (sl.map (·.1)) s []) = some x.2.1) ∨ (x.2.2.2 = true ∧ ((loadN M l1 nl rs0 []).bind fun s => loadS M l2 (sl.map (·.1)) s []) = none))) ?_ ?_
 ·have hsl := hX.sl (SlIs.cons (SlIs.cons (SlIs.cons hs)))
  repeat' (first
   | apply zC | apply zE | apply zD | apply zK | (apply zU; rfl; rfl; exact hsl) | (apply zB; rfl; (intro _; rfl)))
  rw [List.length_map]
  refine yG ?_
  obtain ⟨i, hi⟩ : ∃ i : Nat, i = 0 := ⟨0, rfl⟩
  obtain ⟨H, s, k, w, hH, hX, ok, J⟩ : ∃ (H : HL) (s : RS) (k : List Nat) (w : Bool), HA = H ∧ RosAt B H rp a1 a2 a3 M s ((lp, .row (ldC rp l1 l2 l3 u0 k [] w)) :: (p12, .row [.ptr ⟨false, lp, 0⟩]) :: (p9, .row [.int .u64 l1, .int .u64 l2, .int .u64 l3]) :: H0) ∧ RsOk M s ∧ ((w = false ∧ ((loadN M l1 nl rs0 []).bind fun s => loadS M l2 (sl.map (·.1)) s []) = loadS M l2 ((sl.map (·.1)).drop i) s k) ∨ (w = true ∧ ((loadN M l1 nl rs0 []).bind fun s => loadS M l2 (sl.map (·.1)) s []) = none)) := ⟨HA, sA, [], wA, rfl, hX, okA, by subst hi; rcases JA with ⟨j1, j2⟩ | ⟨j1, j2⟩; exact .inl ⟨j1, by rw [j2]; rfl⟩; exact .inr ⟨j1, by rw [j2]; rfl⟩⟩
  refine WL.heq (H' := H) hH ?_
  refine WL.le (t' := [(3, vc), (9, .ptr ⟨false, p9, 0⟩), (12, .ptr ⟨false, p12, 0⟩), (45, vs), (46, .int .i64 (.ofNat sl.length)), (47, .int .i64 (.ofNat i))]) (by subst hi; exact zA rfl (zA rfl (zA rfl (zA rfl (zA rfl (zA rfl (zH))))))) ?_
  have hle : i ≤ sl.length := by omega
  clear hi hH hsl
  induction hm : sl.length - i using Nat.strongRecOn generalizing i H s k w with | _ q ih => ?_
  have hsl := hX.sl (SlIs.cons (SlIs.cons (SlIs.cons hs)))
  apply WL.step
  repeat' (first
   | apply zC | apply zE | apply zD | apply zJ | apply zZ | apply zK | (apply zM; rfl; rfl; rfl; rfl; intro _ _) | (apply zN; rfl; all_goals (intro hb; try subst hb)))
  ·have hlt : i < sl.length := by
    have h0 := ‹true = true ↔ cmpP BinOp.lss (Int.ofNat i) (Int.ofNat sl.length)›
    simp [cmpP] at h0; omega
   have hcm : (sl.map fun p => entS p.1 p.2)[i]? = some (entS sl[i].1 sl[i].2) := by rw [List.getElem?_map, List.getElem?_eq_getElem hlt]; rfl
   have hdr : (sl.map (·.1)).drop i = sl[i].1 :: (sl.map (·.1)).drop (i + 1) := by rw [List.drop_eq_getElem_cons (by rw [List.length_map]; exact hlt), List.getElem_map]
   rw [hdr] at J
   have hos := os _ (List.getElem_mem hlt)
   obtain ⟨e, he⟩ : ∃ e, e = sl[i] := ⟨_, rfl⟩
   rw [← he] at hcm J hos
   obtain ⟨⟨ek, ⟨node, id, name, tags, port⟩, mk, ix⟩, tv⟩ := e
   have ct := hos.1.1.cell
   repeat' (first
    | apply zC | apply zE | apply zD | apply zJ | apply zL | (apply zS; rfl) | (apply zO; rfl) | apply zT | (apply zF; rfl; rfl; (first | exact ld0 rfl | exact ld1 rfl | exact ld2 rfl); rfl) | (apply zP; rfl; rfl; (first | exact tk0 | exact tk1 | exact tk2); rfl; (· repeat' (first | rfl | assumption | apply ac1)); rfl) | (apply yE; rfl; intro _) | (apply yA; rfl; rfl; rfl; exact hsl; exact hcm; intro ax hax) | (apply zF; rfl; rfl; exact hax; rfl) | (apply WOps.clR; rfl; rfl; exact right49_ok _; rintro _ (⟨rfl, n, hn8, rfl⟩ | ⟨rfl, hno⟩)) | (apply zB; rfl; (intro _; rfl)) | (apply zI; rfl; · repeat' (first | refine at1 ?_ rfl | apply at2 | exact same0 | refine same1 ?_ rfl | apply same2 | (first | exact rd0 rfl rfl rfl | exact rd1 rfl rfl rfl | exact rd2 rfl rfl rfl))) | (apply zQ; rfl; (intro _; rfl)))
   ·rename_i p14
    have hd : 0 ≤ Int.ofNat n ∧ Int.ofNat n < 8 := ⟨Int.natCast_nonneg _, by show (n : Int) < 8; omega⟩
    have hR : RosAt B ((p14, .row (entS ⟨ek, ⟨.ofNat n, id, name, tags, port⟩, mk, ix⟩ tv)) :: H) rp a1 a2 a3 M s ((lp, .row (ldC rp l1 l2 l3 u0 k [] w)) :: (p14, .row (entS ⟨ek, ⟨.ofNat n, id, name, tags, port⟩, mk, ix⟩ tv)) :: (p12, .row [.ptr ⟨false, lp, 0⟩]) :: (p9, .row [.int .u64 l1, .int .u64 l2, .int .u64 l3]) :: H0) := hX.cons.permR (List.Perm.swap _ _ _)
    have O := one1_ok (B := B) (X := (p14, .row (entS ⟨ek, ⟨.ofNat n, id, name, tags, port⟩, mk, ix⟩ tv)) :: (p12, .row [.ptr ⟨false, lp, 0⟩]) :: (p9, .row [.int .u64 l1, .int .u64 l2, .int .u64 l3]) :: H0) (g := 54) (cap := [.ptr ⟨false, p12, 0⟩, .ptr ⟨false, p14, 0⟩]) (mk := mk) (ix := ix) (key := keyS n id) (stS M ⟨ek, ⟨.ofNat n, id, name, tags, port⟩, mk, ix⟩) ok (fun s ix ok => rs_service ok) hR (fun s i H' ok h => lay54_ok (tv := tv) (jm := mk) (ji := ix) ok h (Ld.own (Tk.tail (Tk.tail zG)) rfl) (Ld.own zG rfl) (Ld.own (Tk.tail zG) rfl) (have q := h.tgi (TgIn.cons (TgIn.cons (TgIn.cons (TgIn.cons hos.1)))); ⟨q.1, q.2, hos.2.1, hos.2.2.1, hos.2.2.2.1, hos.2.2.2.2⟩))
    have hl12 := hR.ld (B := B) (Ld.own (Tk.tail (Tk.tail zG)) (n := 1) (l := [.ptr ⟨false, lp, 0⟩]) (off := 0) rfl)
    repeat' (first
     | apply zC | apply zD | apply zW | (apply WD.clR; rfl; rfl; exact key48_ok hn8 hos.2.2.1; rintro _ rfl) | (apply zI; rfl; · repeat' (first | refine at1 ?_ rfl | apply at2 | exact same0 | refine same1 ?_ rfl | apply same2 | exact rd_ld rfl (hl12) rfl)) | (apply yI; rfl; rfl; exact O; rintro _ H2 ⟨s2, k2, w2, ok2, h2, hcase⟩) | (apply zR; rfl; rfl; rfl; omega) | (apply zB; rfl; (intro _; rfl)) | (apply zI; rfl; · repeat' (first | refine at1 ?_ rfl | apply at2 | exact same0 | refine same1 ?_ rfl | apply same2 | (first | exact rd0 rfl rfl rfl | exact rd1 rfl rfl rfl | exact rd2 rfl rfl rfl))) | (apply zQ; rfl; (intro _; rfl)))
    obtain ⟨H3, h3, s3⟩ := h2.less (R1 := ((lp, .row (ldC rp l1 l2 l3 u0 k2 [] w2)) :: (p12, .row [.ptr ⟨false, lp, 0⟩]) :: (p9, .row [.int .u64 l1, .int .u64 l2, .int .u64 l3]) :: H0)) (subF (by intro f; simp only [AV.cells, pm] <;> omega))
    refine WL.le (t' := [(3, vc), (9, .ptr ⟨false, p9, 0⟩), (12, .ptr ⟨false, p12, 0⟩), (45, vs), (46, .int .i64 (.ofNat sl.length)), (47, .int .i64 (.ofNat (i + 1)))]) (zA rfl (zA rfl (zA rfl (zA rfl (zA rfl (zA rfl (zH))))))) ?_
    refine yB s3 (ih _ (by omega) (i + 1) H3 s2 k2 w2 h3 ok2 ?_ (by omega) rfl)
    rcases hcase with ⟨rfl, rfl, hp, rfl, rfl⟩ | ⟨rfl, hno⟩
    ·rcases J with ⟨_, j2⟩ | ⟨j1, _⟩
     ·exact .inl ⟨rfl, j2.trans (if_pos ⟨hd, hp⟩)⟩
     ·cases j1
    ·rcases J with ⟨rfl, j2⟩ | ⟨_, j2⟩
     ·exact .inr ⟨rfl, j2.trans (if_neg fun q => hno ⟨rfl, q.2⟩)⟩
     ·exact .inr ⟨rfl, j2⟩
   ·have hT : ((loadN M l1 nl rs0 []).bind fun s => loadS M l2 (sl.map (·.1)) s []) = none := by
     rcases J with ⟨_, j2⟩ | ⟨_, j2⟩
     ·exact j2.trans (if_neg fun q => hno q.1)
     ·exact j2
    rw [hT]
    exact ⟨trivial, [_, _], ⟨_, _, rfl, rfl, _, _, rfl, rfl, rfl⟩, H0, ⟨rfl, rfl⟩, SubP.add (SubP.trans (SubP.of (((List.sublist_cons_self _ _).trans (List.sublist_cons_self _ _)).trans (List.sublist_cons_self _ _))) hX.sub)⟩
  ·have hge : ¬ i < sl.length := by
    have h0 := ‹false = true ↔ cmpP BinOp.lss (Int.ofNat i) (Int.ofNat sl.length)›
    simp [cmpP] at h0; omega
   have e : (sl.map (·.1)).drop i = [] := List.drop_eq_nil_of_le (by rw [List.length_map]; omega)
   refine ⟨(H, s, k, w), zA rfl (zA rfl (zA rfl (zH))), SubP.refl, ok, hX, ?_⟩
   rcases J with ⟨j1, j2⟩ | ⟨j1, j2⟩
   ·exact .inl ⟨j1, by rw [j2, e]; rfl⟩
   ·exact .inr ⟨j1, j2⟩
 rintro ⟨HB, sB, u1, wB⟩ ⟨okB, hX, JB⟩
 simp only at okB hX JB
 refine WC.cut2 (X := HL × RS × List Nat × Bool) (fun _ => [(9, .ptr ⟨false, p9, 0⟩), (12, .ptr ⟨false, p12, 0⟩)]) (fun x => x.1) (fun x => RsOk M x.2.1 ∧ RosAt B x.1 rp a1 a2 a3 M x.2.1 ((lp, .row (ldC rp l1 l2 l3 u0 u1 x.2.2.1 x.2.2.2)) :: (p12, .row [.ptr ⟨false, lp, 0⟩]) :: (p9, .row [.int .u64 l1, .int .u64 l2, .int .u64 l3]) :: H0) ∧
  ((x.2.2.2 = false ∧ (((loadN M l1 nl rs0 []).bind fun s => loadS M l2 (sl.map (·.1)) s []).bind fun s => loadC M l3 cl s []) = some x.2.1) ∨ (x.2.2.2 = true ∧ (((loadN M l1 nl rs0 []).bind fun s => loadS M l2 (sl.map (·.1)) s []).bind fun s => loadC M l3 cl s []) = none))) ?_ ?_
 ·have hsl := hX.sl (SlIs.cons (SlIs.cons (SlIs.cons hc)))
  repeat' (first
   | apply zC | apply zE | apply zD | apply zK | (apply zU; rfl; rfl; exact hsl) | (apply zB; rfl; (intro _; rfl)))
  rw [List.length_map]
  refine yG ?_
  obtain ⟨i, hi⟩ : ∃ i : Nat, i = 0 := ⟨0, rfl⟩
  obtain ⟨H, s, k, w, hH, hX, ok, J⟩ : ∃ (H : HL) (s : RS) (k : List Nat) (w : Bool), HB = H ∧ RosAt B H rp a1 a2 a3 M s ((lp, .row (ldC rp l1 l2 l3 u0 u1 k w)) :: (p12, .row [.ptr ⟨false, lp, 0⟩]) :: (p9, .row [.int .u64 l1, .int .u64 l2, .int .u64 l3]) :: H0) ∧ RsOk M s ∧ ((w = false ∧ (((loadN M l1 nl rs0 []).bind fun s => loadS M l2 (sl.map (·.1)) s []).bind fun s => loadC M l3 cl s []) = loadC M l3 (cl.drop i) s k) ∨ (w = true ∧ (((loadN M l1 nl rs0 []).bind fun s => loadS M l2 (sl.map (·.1)) s []).bind fun s => loadC M l3 cl s []) = none)) := ⟨HB, sB, [], wB, rfl, hX, okB, by subst hi; rcases JB with ⟨j1, j2⟩ | ⟨j1, j2⟩; exact .inl ⟨j1, by rw [j2]; rfl⟩; exact .inr ⟨j1, by rw [j2]; rfl⟩⟩
  refine WL.heq (H' := H) hH ?_
  refine WL.le (t' := [(9, .ptr ⟨false, p9, 0⟩), (12, .ptr ⟨false, p12, 0⟩), (68, vc), (69, .int .i64 (.ofNat cl.length)), (70, .int .i64 (.ofNat i))]) (by subst hi; exact zA rfl (zA rfl (zA rfl (zA rfl (zA rfl (zH)))))) ?_
  have hle : i ≤ cl.length := by omega
  clear hi hH hsl
  induction hm : cl.length - i using Nat.strongRecOn generalizing i H s k w with | _ q ih => ?_
  have hsl := hX.sl (SlIs.cons (SlIs.cons (SlIs.cons hc)))
  apply WL.step
  repeat' (first
   | apply zC | apply zE | apply zD | apply zJ | apply zZ | apply zK | (apply zM; rfl; rfl; rfl; rfl; intro _ _) | (apply zN; rfl; all_goals (intro hb; try subst hb)))
  ·have hlt : i < cl.length := by
    have h0 := ‹true = true ↔ cmpP BinOp.lss (Int.ofNat i) (Int.ofNat cl.length)›
    simp [cmpP] at h0; omega
   have hcm : (cl.map entC)[i]? = some (entC cl[i]) := by rw [List.getElem?_map, List.getElem?_eq_getElem hlt]; rfl
   have hdr : cl.drop i = cl[i] :: cl.drop (i + 1) := List.drop_eq_getElem_cons hlt
   rw [hdr] at J
   have hoc := oc _ (List.getElem_mem hlt)
   obtain ⟨e, he⟩ : ∃ e, e = cl[i] := ⟨_, rfl⟩
   rw [← he] at hcm J hoc
   obtain ⟨ek, ⟨node, id, svc, note, st⟩, mk, ix⟩ := e
   skip
   repeat' (first
    | apply zC | apply zE | apply zD | apply zJ | apply zL | (apply zS; rfl) | (apply zO; rfl) | apply zT | (apply zF; rfl; rfl; (first | exact ld0 rfl | exact ld1 rfl | exact ld2 rfl); rfl) | (apply zP; rfl; rfl; (first | exact tk0 | exact tk1 | exact tk2); rfl; (· repeat' (first | rfl | assumption | apply ac1)); rfl) | (apply yE; rfl; intro _) | (apply yA; rfl; rfl; rfl; exact hsl; exact hcm; intro ax hax) | (apply zF; rfl; rfl; exact hax; rfl) | (apply WOps.clR; rfl; rfl; exact right49_ok _; rintro _ (⟨rfl, n, hn8, rfl⟩ | ⟨rfl, hno⟩)) | (apply zB; rfl; (intro _; rfl)) | (apply zI; rfl; · repeat' (first | refine at1 ?_ rfl | apply at2 | exact same0 | refine same1 ?_ rfl | apply same2 | (first | exact rd0 rfl rfl rfl | exact rd1 rfl rfl rfl | exact rd2 rfl rfl rfl))) | (apply zQ; rfl; (intro _; rfl)))
   ·rename_i p14
    have hd : 0 ≤ Int.ofNat n ∧ Int.ofNat n < 8 := ⟨Int.natCast_nonneg _, by show (n : Int) < 8; omega⟩
    have hR : RosAt B ((p14, .row (entC ⟨ek, ⟨.ofNat n, id, svc, note, st⟩, mk, ix⟩)) :: H) rp a1 a2 a3 M s ((lp, .row (ldC rp l1 l2 l3 u0 u1 k w)) :: (p14, .row (entC ⟨ek, ⟨.ofNat n, id, svc, note, st⟩, mk, ix⟩)) :: (p12, .row [.ptr ⟨false, lp, 0⟩]) :: (p9, .row [.int .u64 l1, .int .u64 l2, .int .u64 l3]) :: H0) := hX.cons.permR (List.Perm.swap _ _ _)
    have O := one2_ok (B := B) (X := (p14, .row (entC ⟨ek, ⟨.ofNat n, id, svc, note, st⟩, mk, ix⟩)) :: (p12, .row [.ptr ⟨false, lp, 0⟩]) :: (p9, .row [.int .u64 l1, .int .u64 l2, .int .u64 l3]) :: H0) (g := 55) (cap := [.ptr ⟨false, p12, 0⟩, .ptr ⟨false, p14, 0⟩]) (mk := mk) (ix := ix) (key := keyS n id) (stC M ⟨ek, ⟨.ofNat n, id, svc, note, st⟩, mk, ix⟩) ok (fun s ix ok => rs_check ok) hR (fun s i H' ok h => lay55_ok (jm := mk) (ji := ix) ok h (Ld.own (Tk.tail (Tk.tail zG)) rfl) (Ld.own zG rfl) (Ld.own (Tk.tail zG) rfl) hoc)
    have hl12 := hR.ld (B := B) (Ld.own (Tk.tail (Tk.tail zG)) (n := 1) (l := [.ptr ⟨false, lp, 0⟩]) (off := 0) rfl)
    repeat' (first
     | apply zC | apply zD | apply zW | (apply WD.clR; rfl; rfl; exact key48_ok hn8 hoc.i; rintro _ rfl) | (apply zI; rfl; · repeat' (first | refine at1 ?_ rfl | apply at2 | exact same0 | refine same1 ?_ rfl | apply same2 | exact rd_ld rfl (hl12) rfl)) | (apply yI; rfl; rfl; exact O; rintro _ H2 ⟨s2, k2, w2, ok2, h2, hcase⟩) | (apply zR; rfl; rfl; rfl; omega) | (apply zB; rfl; (intro _; rfl)) | (apply zI; rfl; · repeat' (first | refine at1 ?_ rfl | apply at2 | exact same0 | refine same1 ?_ rfl | apply same2 | (first | exact rd0 rfl rfl rfl | exact rd1 rfl rfl rfl | exact rd2 rfl rfl rfl))) | (apply zQ; rfl; (intro _; rfl)))
    obtain ⟨H3, h3, s3⟩ := h2.less (R1 := ((lp, .row (ldC rp l1 l2 l3 u0 u1 k2 w2)) :: (p12, .row [.ptr ⟨false, lp, 0⟩]) :: (p9, .row [.int .u64 l1, .int .u64 l2, .int .u64 l3]) :: H0)) (subF (by intro f; simp only [AV.cells, pm] <;> omega))
    refine WL.le (t' := [(9, .ptr ⟨false, p9, 0⟩), (12, .ptr ⟨false, p12, 0⟩), (68, vc), (69, .int .i64 (.ofNat cl.length)), (70, .int .i64 (.ofNat (i + 1)))]) (zA rfl (zA rfl (zA rfl (zA rfl (zA rfl (zH)))))) ?_
    refine yB s3 (ih _ (by omega) (i + 1) H3 s2 k2 w2 h3 ok2 ?_ (by omega) rfl)
    rcases hcase with ⟨rfl, rfl, hp, rfl, rfl⟩ | ⟨rfl, hno⟩
    ·rcases J with ⟨_, j2⟩ | ⟨j1, _⟩
     ·exact .inl ⟨rfl, j2.trans (if_pos ⟨hd, hp⟩)⟩
     ·cases j1
    ·rcases J with ⟨rfl, j2⟩ | ⟨_, j2⟩
     ·exact .inr ⟨rfl, j2.trans (if_neg fun q => hno ⟨rfl, q.2⟩)⟩
     ·exact .inr ⟨rfl, j2⟩
   ·have hT : (((loadN M l1 nl rs0 []).bind fun s => loadS M l2 (sl.map (·.1)) s []).bind fun s => loadC M l3 cl s []) = none := by
     rcases J with ⟨_, j2⟩ | ⟨_, j2⟩
     ·exact j2.trans (if_neg fun q => hno q.1)
     ·exact j2
    rw [hT]
    exact ⟨trivial, [_, _], ⟨_, _, rfl, rfl, _, _, rfl, rfl, rfl⟩, H0, ⟨rfl, rfl⟩, SubP.add (SubP.trans (SubP.of (((List.sublist_cons_self _ _).trans (List.sublist_cons_self _ _)).trans (List.sublist_cons_self _ _))) hX.sub)⟩
  ·have hge : ¬ i < cl.length := by
    have h0 := ‹false = true ↔ cmpP BinOp.lss (Int.ofNat i) (Int.ofNat cl.length)›
    simp [cmpP] at h0; omega
   have e : cl.drop i = [] := List.drop_eq_nil_of_le (by skip; omega)
   refine ⟨(H, s, k, w), zA rfl (zA rfl (zH)), SubP.refl, ok, hX, ?_⟩
   rcases J with ⟨j1, j2⟩ | ⟨j1, j2⟩
   ·exact .inl ⟨j1, by rw [j2, e]; rfl⟩
   ·exact .inr ⟨j1, j2⟩
 rintro ⟨HC, sC, u2, wC⟩ ⟨okC, hX, JC⟩
 simp only at okC hX JC
 have d0 : ∀ {H : HL} {s : RS}, RosAt B H rp a1 a2 a3 M s ((lp, .row (ldC rp l1 l2 l3 u0 u1 u2 wC)) :: (p12, .row [.ptr ⟨false, lp, 0⟩]) :: (p9, .row [.int .u64 l1, .int .u64 l2, .int .u64 l3]) :: H0) → Ld B H ⟨false, p12, 0⟩ 1 [.ptr ⟨false, lp, 0⟩] := fun h => h.ld (Ld.own (Tk.tail zG) rfl)
 have d1 : ∀ {H : HL} {s : RS}, RosAt B H rp a1 a2 a3 M s ((lp, .row (ldC rp l1 l2 l3 u0 u1 u2 wC)) :: (p12, .row [.ptr ⟨false, lp, 0⟩]) :: (p9, .row [.int .u64 l1, .int .u64 l2, .int .u64 l3]) :: H0) → Ld B H ⟨false, lp, 7⟩ 1 [.bool wC] := fun h => h.ld (Ld.own zG rfl)
 have d2 : ∀ {H : HL} {s : RS}, RosAt B H rp a1 a2 a3 M s ((lp, .row (ldC rp l1 l2 l3 u0 u1 u2 wC)) :: (p12, .row [.ptr ⟨false, lp, 0⟩]) :: (p9, .row [.int .u64 l1, .int .u64 l2, .int .u64 l3]) :: H0) → Ld B H ⟨false, lp, 0⟩ 1 [.ptr ⟨false, rp, 0⟩] := fun h => h.ld (Ld.own zG rfl)
 have f1 : ∀ {H : HL} {s : RS}, RosAt B H rp a1 a2 a3 M s ((lp, .row (ldC rp l1 l2 l3 u0 u1 u2 wC)) :: (p12, .row [.ptr ⟨false, lp, 0⟩]) :: (p9, .row [.int .u64 l1, .int .u64 l2, .int .u64 l3]) :: H0) → Ld B H ⟨false, p9, 0⟩ 1 [.int .u64 l1] := fun h => h.ld (Ld.own (Tk.tail (Tk.tail zG)) rfl)
 have f2 : ∀ {H : HL} {s : RS}, RosAt B H rp a1 a2 a3 M s ((lp, .row (ldC rp l1 l2 l3 u0 u1 u2 wC)) :: (p12, .row [.ptr ⟨false, lp, 0⟩]) :: (p9, .row [.int .u64 l1, .int .u64 l2, .int .u64 l3]) :: H0) → Ld B H ⟨false, p9, 1⟩ 1 [.int .u64 l2] := fun h => h.ld (Ld.own (Tk.tail (Tk.tail zG)) rfl)
 have f3 : ∀ {H : HL} {s : RS}, RosAt B H rp a1 a2 a3 M s ((lp, .row (ldC rp l1 l2 l3 u0 u1 u2 wC)) :: (p12, .row [.ptr ⟨false, lp, 0⟩]) :: (p9, .row [.int .u64 l1, .int .u64 l2, .int .u64 l3]) :: H0) → Ld B H ⟨false, p9, 2⟩ 1 [.int .u64 l3] := fun h => h.ld (Ld.own (Tk.tail (Tk.tail zG)) rfl)
 cases wC
 ·rcases JC with ⟨_, j⟩ | ⟨j, _⟩
  ·rw [j]
   have b1 : RsOk M { sC with l1 := maxI sC.l1 l1 } := ⟨okC.m1, okC.m2, okC.n1, okC.n2, okC.n3, okC.r1, okC.r2, okC.r3, okC.t⟩
   have b2 : RsOk M { sC with l1 := maxI sC.l1 l1, l2 := maxI sC.l2 l2 } := ⟨okC.m1, okC.m2, okC.n1, okC.n2, okC.n3, okC.r1, okC.r2, okC.r3, okC.t⟩
   repeat' (first
    | apply zC | apply zE | apply zD | apply zJ | apply zL | (apply zO; rfl) | apply zT | apply zW | (apply zF; rfl; rfl; exact d0 hX; rfl) | (apply zF; rfl; rfl; exact d1 hX; rfl) | (apply zI; rfl; · repeat' (first | refine at1 ?_ rfl | apply at2 | exact same0 | refine same1 ?_ rfl | apply same2 | exact rd_ld rfl (d0 hX) rfl)) | (apply zI; rfl; · repeat' (first | refine at1 ?_ rfl | apply at2 | exact same0 | refine same1 ?_ rfl | apply same2 | exact rd_ld rfl (d2 hX) rfl)) | (apply zI; rfl; · repeat' (first | refine at1 ?_ rfl | apply at2 | exact same0 | refine same1 ?_ rfl | apply same2 | exact rd_ld rfl (hX.r1) rfl)) | (apply zI; rfl; · repeat' (first | refine at1 ?_ rfl | apply at2 | exact same0 | refine same1 ?_ rfl | apply same2 | exact rd_ld rfl (f1 hX) rfl)) | (apply yI; rfl; rfl; exact raiseN_ok okC hX; intro _ HD hD) | (apply zI; rfl; · repeat' (first | refine at1 ?_ rfl | apply at2 | exact same0 | refine same1 ?_ rfl | apply same2 | exact rd_ld rfl (d0 hD) rfl)) | (apply zI; rfl; · repeat' (first | refine at1 ?_ rfl | apply at2 | exact same0 | refine same1 ?_ rfl | apply same2 | exact rd_ld rfl (d2 hD) rfl)) | (apply zI; rfl; · repeat' (first | refine at1 ?_ rfl | apply at2 | exact same0 | refine same1 ?_ rfl | apply same2 | exact rd_ld rfl (hD.r2) rfl)) | (apply zI; rfl; · repeat' (first | refine at1 ?_ rfl | apply at2 | exact same0 | refine same1 ?_ rfl | apply same2 | exact rd_ld rfl (f2 hD) rfl)) | (apply yI; rfl; rfl; exact raiseS_ok b1 hD; intro _ HE hE) | (apply zI; rfl; · repeat' (first | refine at1 ?_ rfl | apply at2 | exact same0 | refine same1 ?_ rfl | apply same2 | exact rd_ld rfl (d0 hE) rfl)) | (apply zI; rfl; · repeat' (first | refine at1 ?_ rfl | apply at2 | exact same0 | refine same1 ?_ rfl | apply same2 | exact rd_ld rfl (d2 hE) rfl)) | (apply zI; rfl; · repeat' (first | refine at1 ?_ rfl | apply at2 | exact same0 | refine same1 ?_ rfl | apply same2 | exact rd_ld rfl (hE.r3) rfl)) | (apply zI; rfl; · repeat' (first | refine at1 ?_ rfl | apply at2 | exact same0 | refine same1 ?_ rfl | apply same2 | exact rd_ld rfl (f3 hE) rfl)) | (apply yI; rfl; rfl; exact raiseC_ok b2 hE; intro _ HF hF) | (apply zF; rfl; rfl; exact d0 hF; rfl) | (apply zF; rfl; rfl; exact d2 hF; rfl) | (apply zB; rfl; (intro _; rfl)) | (apply zQ; rfl; (intro _; rfl)))
   obtain ⟨H3, h3, s3⟩ := hF.less (R1 := H0) (SubP.of (((List.sublist_cons_self _ _).trans (List.sublist_cons_self _ _)).trans (List.sublist_cons_self _ _)))
   exact ⟨trivial, [_, _], ⟨_, _, rfl, rfl, _, _, rfl, rfl, rfl⟩, H3, ⟨rp, a1, a2, a3, rfl, h3⟩, s3⟩
  ·cases j
 ·rcases JC with ⟨j, _⟩ | ⟨_, j⟩
  ·cases j
  ·rw [j]
   repeat' (first
    | apply zC | apply zE | apply zD | apply zL | (apply zS; rfl) | (apply zF; rfl; rfl; exact d0 hX; rfl) | (apply zF; rfl; rfl; exact d1 hX; rfl) | (apply zB; rfl; (intro _; rfl)))
   exact ⟨trivial, [_, _], ⟨_, _, rfl, rfl, _, _, rfl, rfl, rfl⟩, H0, ⟨rfl, rfl⟩, SubP.trans (SubP.of (((List.sublist_cons_self _ _).trans (List.sublist_cons_self _ _)).trans (List.sublist_cons_self _ _))) hX.sub⟩
/-! ### A load that succeeds lays what it is given -/
theorem two_puts {V : Type} {es : List (TE V)} {key : List Nat} {v : V} {mk ix : Int} (hb : AllBelow es key) : putE (putE es ⟨key, v, mk, mk⟩) ⟨key, v, ix, ix⟩ = es ++ [⟨key, v, mk, ix⟩] := by
 have h1 : putE es ⟨key, v, mk, mk⟩ = es ++ [⟨key, v, mk, mk⟩] := by
  have := put_below (Bs := []) (e := (⟨key, v, mk, mk⟩ : TE V)) hb
  rw [List.append_nil] at this
  rw [this]; rfl
 rw [h1]
 have h2 := put_below (Bs := [(⟨key, v, mk, mk⟩ : TE V)]) (e := (⟨key, v, ix, ix⟩ : TE V)) hb
 have h3 : putE [(⟨key, v, mk, mk⟩ : TE V)] ⟨key, v, ix, ix⟩ = [⟨key, v, mk, ix⟩] := if_pos rfl
 rw [h2, h3]
theorem max_le {a b c last : Int} (h1 : a ≤ last) (h2 : b ≤ last) (h3 : c ≤ last) : maxI (maxI a b) c ≤ last := by
 unfold maxI; split <;> (try split) <;> omega
theorem below_next {V : Type} {es : List (TE V)} {kp key : List Nat} {v : V} {mk ix : Int} (hb : ∀ e, e ∈ es → e.key = kp ∨ strLess e.key kp = true) (h : strLess kp key = true) :
  AllBelow es key ∧ ∀ e, e ∈ es ++ [(⟨key, v, mk, ix⟩ : TE V)] → e.key = key ∨ strLess e.key key = true := by
 have h1 : AllBelow es key := fun e he => by
  rcases hb e he with h2 | h2
  ·rw [h2]; exact h
  ·exact less_trans h2 h
 refine ⟨h1, fun e he => ?_⟩
 rcases List.mem_append.1 he with he | he
 ·exact .inr (h1 e he)
 ·rw [List.mem_singleton] at he; exact .inl (by rw [he])
theorem loadN_is {M : Nat} {last : Int} : ∀ {l : List (TE KN)} {s s' : RS} {kp : List Nat}, loadN M last l s kp = some s' → (∀ e, e ∈ s.ns → e.key = kp ∨ strLess e.key kp = true) → s.l1 ≤ last →
  ∃ l', s' = { s with ns := s.ns ++ l.map (fun e => ⟨keyN e.v.node.toNat, e.v, e.mke, e.ix⟩), l1 := l' } ∧ l' ≤ last := by
 intro l
 induction l with
 | nil =>
  intro s s' kp h hb hl
  cases h
  exact ⟨s.l1, by simp, hl⟩
 | cons e r ih =>
  intro s s' kp h hb hl
  unfold loadN at h
  split at h
  ·rename_i hc
   obtain ⟨_, o1, o2, o3, o4, o5⟩ := hc
   obtain ⟨_, e1⟩ := nodeS_zero (by unfold stN at o4; exact o4)
   obtain ⟨_, e2⟩ := nodeS_zero (by unfold stN at o5; exact o5)
   have e3 : (stN M e (stN M e s e.mke).1 e.ix).1 = { s with ns := s.ns ++ [⟨keyN e.v.node.toNat, e.v, e.mke, e.ix⟩], l1 := maxI (maxI s.l1 e.mke) e.ix } := by
    obtain ⟨hb1, hb2⟩ := below_next (v := e.v) (mk := e.mke) (ix := e.ix) hb o1
    refine e2.trans ?_
    rw [e1]
    simp only [two_puts hb1]
   rw [e3] at h
   obtain ⟨hb1, hb2⟩ := below_next (v := e.v) (mk := e.mke) (ix := e.ix) hb o1
   obtain ⟨l', e4, h4⟩ := ih h hb2 (max_le hl (by omega) o3)
   exact ⟨l', by rw [e4]; simp, h4⟩
  ·cases h
theorem loadS_is {M : Nat} {last : Int} : ∀ {l : List (TE KS)} {s s' : RS} {kp : List Nat}, loadS M last l s kp = some s' → (∀ e, e ∈ s.ss → e.key = kp ∨ strLess e.key kp = true) → s.l2 ≤ last →
  ∃ l', s' = { s with ss := s.ss ++ l.map (fun e => ⟨keyS e.v.node.toNat e.v.id, e.v, e.mke, e.ix⟩), l2 := l' } ∧ l' ≤ last := by
 intro l
 induction l with
 | nil =>
  intro s s' kp h hb hl
  cases h
  exact ⟨s.l2, by simp, hl⟩
 | cons e r ih =>
  intro s s' kp h hb hl
  unfold loadS at h
  split at h
  ·rename_i hc
   obtain ⟨_, o1, o2, o3, o4, o5⟩ := hc
   obtain ⟨_, e1⟩ := serviceS_zero (by unfold stS at o4; exact o4)
   obtain ⟨_, e2⟩ := serviceS_zero (by unfold stS at o5; exact o5)
   obtain ⟨hb1, hb2⟩ := below_next (v := e.v) (mk := e.mke) (ix := e.ix) hb o1
   have e3 : (stS M e (stS M e s e.mke).1 e.ix).1 = { s with ss := s.ss ++ [⟨keyS e.v.node.toNat e.v.id, e.v, e.mke, e.ix⟩], l2 := maxI (maxI s.l2 e.mke) e.ix } := by
    refine e2.trans ?_
    rw [e1]
    simp only [two_puts hb1]
   rw [e3] at h
   obtain ⟨l', e4, h4⟩ := ih h hb2 (max_le hl (by omega) o3)
   exact ⟨l', by rw [e4]; simp, h4⟩
  ·cases h
theorem loadC_is {M : Nat} {last : Int} : ∀ {l : List (TE KC)} {s s' : RS} {kp : List Nat}, loadC M last l s kp = some s' → (∀ e, e ∈ s.cs → e.key = kp ∨ strLess e.key kp = true) → s.l3 ≤ last →
  ∃ l', s' = { s with cs := s.cs ++ l.map (fun e => ⟨keyS e.v.node.toNat e.v.id, e.v, e.mke, e.ix⟩), l3 := l' } ∧ l' ≤ last := by
 intro l
 induction l with
 | nil =>
  intro s s' kp h hb hl
  cases h
  exact ⟨s.l3, by simp, hl⟩
 | cons e r ih =>
  intro s s' kp h hb hl
  unfold loadC at h
  split at h
  ·rename_i hc
   obtain ⟨_, o1, o2, o3, o4, o5⟩ := hc
   obtain ⟨_, e1⟩ := checkS_zero (by unfold stC at o4; exact o4)
   obtain ⟨_, e2⟩ := checkS_zero (by unfold stC at o5; exact o5)
   obtain ⟨hb1, hb2⟩ := below_next (v := e.v) (mk := e.mke) (ix := e.ix) hb o1
   have e3 : (stC M e (stC M e s e.mke).1 e.ix).1 = { s with cs := s.cs ++ [⟨keyS e.v.node.toNat e.v.id, e.v, e.mke, e.ix⟩], l3 := maxI (maxI s.l3 e.mke) e.ix } := by
    refine e2.trans ?_
    rw [e1]
    simp only [two_puts hb1]
   rw [e3] at h
   obtain ⟨l', e4, h4⟩ := ih h hb2 (max_le hl (by omega) o3)
   exact ⟨l', by rw [e4]; simp, h4⟩
  ·cases h
noncomputable def loadAll (M : Nat) (l1 l2 l3 : Int) (nl : List (TE KN)) (sl : List (TE KS)) (cl : List (TE KC)) : Option RS :=
 ((loadN M l1 nl rs0 []).bind fun s => loadS M l2 sl s []).bind fun s => loadC M l3 cl s []
theorem loadAll_is {M : Nat} {l1 l2 l3 : Int} {nl : List (TE KN)} {sl : List (TE KS)} {cl : List (TE KC)} {s : RS} (h : loadAll M l1 l2 l3 nl sl cl = some s) (h1 : 0 ≤ l1) (h2 : 0 ≤ l2) (h3 : 0 ≤ l3) :
  s.ns = nl.map (fun e => ⟨keyN e.v.node.toNat, e.v, e.mke, e.ix⟩) ∧ s.ss = sl.map (fun e => ⟨keyS e.v.node.toNat e.v.id, e.v, e.mke, e.ix⟩) ∧ s.cs = cl.map (fun e => ⟨keyS e.v.node.toNat e.v.id, e.v, e.mke, e.ix⟩) ∧
  maxI s.l1 l1 = l1 ∧ maxI s.l2 l2 = l2 ∧ maxI s.l3 l3 = l3 := by
 unfold loadAll at h
 cases hN : loadN M l1 nl rs0 [] with
 | none => rw [hN] at h; cases h
 | some sN =>
  rw [hN] at h
  obtain ⟨a1, eN, b1⟩ := loadN_is hN (fun e he => by cases he) h1
  cases hS : loadS M l2 sl sN [] with
  | none => simp only [Option.bind_some, hS] at h; cases h
  | some sS =>
   simp only [Option.bind_some, hS] at h
   obtain ⟨a2, eS, b2⟩ := loadS_is hS (fun e he => by rw [eN] at he; cases he) (by rw [eN]; exact h2)
   obtain ⟨a3, eC, b3⟩ := loadC_is h (fun e he => by rw [eS, eN] at he; cases he) (by rw [eS, eN]; exact h3)
   have hm : ∀ a b : Int, a ≤ b → maxI a b = b := fun a b h => by unfold maxI; split <;> omega
   rw [eC, eS, eN]
   exact ⟨rfl, rfl, rfl, hm _ _ b1, hm _ _ b2, hm _ _ b3⟩
theorem keyN_pos {n : Nat} : strLess [] (keyN n) = true := rfl
theorem keyS_pos {n : Nat} {x : List Nat} : strLess [] (keyS n x) = true := rfl
theorem loadN_some {M : Nat} {last : Int} : ∀ {l : List (TE KN)} {s : RS} {kp : List Nat}, (∀ e, e ∈ s.ns → e.key = kp ∨ strLess e.key kp = true) → l.Pairwise (fun a b => strLess (keyN a.v.node.toNat) (keyN b.v.node.toNat) = true) →
  (∀ e, e ∈ l → strLess kp (keyN e.v.node.toNat) = true ∧ ((0 ≤ e.v.node ∧ e.v.node < 8) ∧ e.v.addr.length ≤ 32) ∧ e.mke ≤ e.ix ∧ e.ix ≤ last) → s.ns.length + l.length ≤ M → s.l1 ≤ last → ∃ s', loadN M last l s kp = some s' := by
 intro l
 induction l with
 | nil => intro s kp _ _ _ _ _; exact ⟨s, rfl⟩
 | cons e r ih =>
  intro s kp hb pw hl hM hla
  rw [List.pairwise_cons] at pw
  obtain ⟨c1, c2, c3, c4⟩ := hl e List.mem_cons_self
  rw [List.length_cons] at hM
  obtain ⟨hb1, hb2⟩ := below_next (v := e.v) (mk := e.mke) (ix := e.ix) hb c1
  have z1 : (stN M e s e.mke).2 = 0 := by
   unfold stN nodeS
   rw [if_neg (fun k => k c2.1), if_neg (by omega)]
   rw [if_neg (fun k => absurd k.2 (by omega))]
  obtain ⟨hn, e1⟩ := nodeS_zero (by unfold stN at z1; exact z1)
  have z2 : (stN M e (stN M e s e.mke).1 e.ix).2 = 0 := by
   have e2 : (stN M e s e.mke).1 = { s with ns := putE s.ns ⟨keyN e.v.node.toNat, ⟨e.v.node, e.v.addr⟩, e.mke, e.mke⟩, l1 := maxI s.l1 e.mke } := e1
   rw [e2]
   unfold stN nodeS
   rw [if_neg (fun k => k c2.1), if_neg (by omega)]
   rw [if_neg]
   rintro ⟨k, _⟩
   rw [show putE s.ns (⟨keyN e.v.node.toNat, ⟨e.v.node, e.v.addr⟩, e.mke, e.mke⟩ : TE KN) = s.ns ++ [⟨keyN e.v.node.toNat, ⟨e.v.node, e.v.addr⟩, e.mke, e.mke⟩] from by
    have := put_below (Bs := []) (e := (⟨keyN e.v.node.toNat, ⟨e.v.node, e.v.addr⟩, e.mke, e.mke⟩ : TE KN)) hb1
    rw [List.append_nil] at this
    rw [this]; rfl, find_below hb1] at k
   simp [findE] at k
  obtain ⟨_, e2⟩ := nodeS_zero (by unfold stN at z2; exact z2)
  have e3 : (stN M e (stN M e s e.mke).1 e.ix).1 = { s with ns := s.ns ++ [⟨keyN e.v.node.toNat, e.v, e.mke, e.ix⟩], l1 := maxI (maxI s.l1 e.mke) e.ix } := by
   refine e2.trans ?_
   rw [e1]
   simp only [two_puts hb1]
  unfold loadN
  rw [if_pos ⟨hn, c1, c3, c4, z1, z2⟩, e3]
  refine ih hb2 pw.2 (fun y hy => ?_) (by simp only [List.length_append, List.length_cons, List.length_nil]; omega) (max_le hla (by omega) c4)
  obtain ⟨d1, d2, d3, d4⟩ := hl y (List.mem_cons_of_mem _ hy)
  exact ⟨pw.1 y hy, d2, d3, d4⟩
theorem loadS_some {M : Nat} {last : Int} : ∀ {l : List (TE KS)} {s : RS} {kp : List Nat}, (∀ e, e ∈ s.ss → e.key = kp ∨ strLess e.key kp = true) → l.Pairwise (fun a b => strLess (keyS a.v.node.toNat a.v.id) (keyS b.v.node.toNat b.v.id) = true) →
  (∀ e, e ∈ l → strLess kp (keyS e.v.node.toNat e.v.id) = true ∧ wrongS s e.v = 0 ∧ e.mke ≤ e.ix ∧ e.ix ≤ last) → s.ss.length + l.length ≤ M → s.l2 ≤ last → ∃ s', loadS M last l s kp = some s' := by
 intro l
 induction l with
 | nil => intro s kp _ _ _ _ _; exact ⟨s, rfl⟩
 | cons e r ih =>
  intro s kp hb pw hl hM hla
  rw [List.pairwise_cons] at pw
  obtain ⟨c1, c2, c3, c4⟩ := hl e List.mem_cons_self
  rw [List.length_cons] at hM
  obtain ⟨hb1, hb2⟩ := below_next (v := e.v) (mk := e.mke) (ix := e.ix) hb c1
  have z1 : (stS M e s e.mke).2 = 0 := by
   unfold stS serviceS
   rw [if_neg (fun k => k c2)]
   rw [if_neg (fun k => absurd k.2 (by omega))]
  obtain ⟨hn, e1⟩ := serviceS_zero (by unfold stS at z1; exact z1)
  have z2 : (stS M e (stS M e s e.mke).1 e.ix).2 = 0 := by
   have e2 : (stS M e s e.mke).1 = { s with ss := putE s.ss ⟨keyS e.v.node.toNat e.v.id, e.v, e.mke, e.mke⟩, l2 := maxI s.l2 e.mke } := e1
   rw [e2]
   unfold stS serviceS
   rw [if_neg (fun k => k (wrongS_mono c2 (fun k => k)))]
   rw [if_neg]
   rintro ⟨k, _⟩
   rw [show putE s.ss (⟨keyS e.v.node.toNat e.v.id, e.v, e.mke, e.mke⟩ : TE KS) = s.ss ++ [⟨keyS e.v.node.toNat e.v.id, e.v, e.mke, e.mke⟩] from by
    have := put_below (Bs := []) (e := (⟨keyS e.v.node.toNat e.v.id, e.v, e.mke, e.mke⟩ : TE KS)) hb1
    rw [List.append_nil] at this
    rw [this]; rfl, find_below hb1] at k
   simp [findE] at k
  obtain ⟨_, e2⟩ := serviceS_zero (by unfold stS at z2; exact z2)
  have e3 : (stS M e (stS M e s e.mke).1 e.ix).1 = { s with ss := s.ss ++ [⟨keyS e.v.node.toNat e.v.id, e.v, e.mke, e.ix⟩], l2 := maxI (maxI s.l2 e.mke) e.ix } := by
   refine e2.trans ?_
   rw [e1]
   simp only [two_puts hb1]
  unfold loadS
  rw [if_pos ⟨hn, c1, c3, c4, z1, z2⟩, e3]
  refine ih hb2 pw.2 (fun y hy => ?_) (by simp only [List.length_append, List.length_cons, List.length_nil]; omega) (max_le hla (by omega) c4)
  obtain ⟨d1, d2, d3, d4⟩ := hl y (List.mem_cons_of_mem _ hy)
  exact ⟨pw.1 y hy, wrongS_mono d2 (fun k => k), d3, d4⟩
theorem loadC_some {M : Nat} {last : Int} : ∀ {l : List (TE KC)} {s : RS} {kp : List Nat}, (∀ e, e ∈ s.cs → e.key = kp ∨ strLess e.key kp = true) → l.Pairwise (fun a b => strLess (keyS a.v.node.toNat a.v.id) (keyS b.v.node.toNat b.v.id) = true) →
  (∀ e, e ∈ l → strLess kp (keyS e.v.node.toNat e.v.id) = true ∧ wrongC s e.v = 0 ∧ e.mke ≤ e.ix ∧ e.ix ≤ last) → s.cs.length + l.length ≤ M → s.l3 ≤ last → ∃ s', loadC M last l s kp = some s' := by
 intro l
 induction l with
 | nil => intro s kp _ _ _ _ _; exact ⟨s, rfl⟩
 | cons e r ih =>
  intro s kp hb pw hl hM hla
  rw [List.pairwise_cons] at pw
  obtain ⟨c1, c2, c3, c4⟩ := hl e List.mem_cons_self
  rw [List.length_cons] at hM
  obtain ⟨hb1, hb2⟩ := below_next (v := e.v) (mk := e.mke) (ix := e.ix) hb c1
  have z1 : (stC M e s e.mke).2 = 0 := by
   unfold stC checkS
   rw [if_neg (fun k => k c2)]
   rw [if_neg (fun k => absurd k.2 (by omega))]
  obtain ⟨hn, e1⟩ := checkS_zero (by unfold stC at z1; exact z1)
  have z2 : (stC M e (stC M e s e.mke).1 e.ix).2 = 0 := by
   have e2 : (stC M e s e.mke).1 = { s with cs := putE s.cs ⟨keyS e.v.node.toNat e.v.id, e.v, e.mke, e.mke⟩, l3 := maxI s.l3 e.mke } := e1
   rw [e2]
   unfold stC checkS
   rw [if_neg (fun k => k (wrongC_mono c2 (fun k => k) (fun _ k => k)))]
   rw [if_neg]
   rintro ⟨k, _⟩
   rw [show putE s.cs (⟨keyS e.v.node.toNat e.v.id, e.v, e.mke, e.mke⟩ : TE KC) = s.cs ++ [⟨keyS e.v.node.toNat e.v.id, e.v, e.mke, e.mke⟩] from by
    have := put_below (Bs := []) (e := (⟨keyS e.v.node.toNat e.v.id, e.v, e.mke, e.mke⟩ : TE KC)) hb1
    rw [List.append_nil] at this
    rw [this]; rfl, find_below hb1] at k
   simp [findE] at k
  obtain ⟨_, e2⟩ := checkS_zero (by unfold stC at z2; exact z2)
  have e3 : (stC M e (stC M e s e.mke).1 e.ix).1 = { s with cs := s.cs ++ [⟨keyS e.v.node.toNat e.v.id, e.v, e.mke, e.ix⟩], l3 := maxI (maxI s.l3 e.mke) e.ix } := by
   refine e2.trans ?_
   rw [e1]
   simp only [two_puts hb1]
  unfold loadC
  rw [if_pos ⟨hn, c1, c3, c4, z1, z2⟩, e3]
  refine ih hb2 pw.2 (fun y hy => ?_) (by simp only [List.length_append, List.length_cons, List.length_nil]; omega) (max_le hla (by omega) c4)
  obtain ⟨d1, d2, d3, d4⟩ := hl y (List.mem_cons_of_mem _ hy)
  exact ⟨pw.1 y hy, wrongC_mono d2 (fun k => k) (fun _ k => k), d3, d4⟩
theorem pw_keys {V : Type} {es : List (TE V)} {K : TE V → List Nat} (so : Rise es) (h : ∀ e, e ∈ es → e.key = K e) : es.Pairwise fun a b => strLess (K a) (K b) = true := by
 refine (rise_pw.1 so).imp_of_mem ?_
 intro a b ha hb k
 rw [← h a ha, ← h b hb]; exact k
theorem back_load {s : RS} {k : Int} (hI : Inv 64 s) (g : Good s) (u : Up s k) (p1 : 0 ≤ s.l1) (p2 : 0 ≤ s.l2) (p3 : 0 ≤ s.l3) :
  ∃ s', loadAll 64 s.l1 s.l2 s.l3 s.ns (s.ss.map fun e => (⟨[], e.v, e.mke, e.ix⟩ : TE KS)) s.cs = some s' ∧ ({ s' with l1 := maxI s'.l1 s.l1, l2 := maxI s'.l2 s.l2, l3 := maxI s'.l3 s.l3 } : RS) = s := by
 have kN : ∀ e, e ∈ s.ns → e.key = keyN e.v.node.toNat := fun e he => by
  obtain ⟨n, hn, h1, h2⟩ := hI.ks.kn e he
  rw [h1, h2]; rfl
 have kS : ∀ e, e ∈ s.ss → e.key = keyS e.v.node.toNat e.v.id := fun e he => by
  obtain ⟨n, hn, h1, h2⟩ := hI.ks.ks e he
  rw [h1, h2]; rfl
 have kC : ∀ e, e ∈ s.cs → e.key = keyS e.v.node.toNat e.v.id := fun e he => by
  obtain ⟨n, hn, h1, h2⟩ := hI.ks.kc e he
  rw [h1, h2]; rfl
 obtain ⟨sN, hN⟩ := loadN_some (M := 64) (last := s.l1) (l := s.ns) (s := rs0) (kp := []) (fun e he => by cases he) (pw_keys (K := fun e : TE KN => keyN e.v.node.toNat) hI.ok.r1 kN) (fun e he => by
  obtain ⟨n, hn, h1, h2⟩ := hI.ks.kn e he
  exact ⟨keyN_pos, ⟨by rw [h1]; simp only [Int.ofNat_eq_natCast]; omega, g.gn e he⟩, (u.u1.2 e he).1, (u.u1.2 e he).2⟩) (by have := hI.ok.n1; show 0 + _ ≤ _; omega) p1
 obtain ⟨a1, eN, b1⟩ := loadN_is hN (fun e he => by cases he) p1
 have eN2 : sN = { rs0 with ns := s.ns, l1 := a1 } := by
  rw [eN]
  congr 1
  show [] ++ s.ns.map _ = s.ns
  rw [List.nil_append]
  conv => rhs; rw [← List.map_id s.ns]
  refine List.map_congr_left fun e he => ?_
  rw [← kN e he]; rfl
 obtain ⟨sS, hS⟩ := loadS_some (M := 64) (last := s.l2) (l := s.ss.map fun e => (⟨[], e.v, e.mke, e.ix⟩ : TE KS)) (s := sN) (kp := []) (fun e he => by rw [eN2] at he; cases he) (by
   rw [List.pairwise_map]
   exact pw_keys (K := fun e : TE KS => keyS e.v.node.toNat e.v.id) hI.ok.r2 kS) (fun e he => by
  obtain ⟨y, hy, rfl⟩ := List.mem_map.1 he
  exact ⟨keyS_pos, wrongS_mono (g.gs y hy) (fun k => by rw [eN2]; exact k), (u.u2.2 y hy).1, (u.u2.2 y hy).2⟩) (by rw [eN2, List.length_map]; have := hI.ok.n2; show 0 + _ ≤ _; omega) (by rw [eN2]; exact p2)
 obtain ⟨a2, eS, b2⟩ := loadS_is hS (fun e he => by rw [eN2] at he; cases he) (by rw [eN2]; exact p2)
 have eS2 : sS = { rs0 with ns := s.ns, ss := s.ss, l1 := a1, l2 := a2 } := by
  rw [eS, eN2]
  congr 1
  show [] ++ (s.ss.map _).map _ = s.ss
  rw [List.nil_append, List.map_map]
  conv => rhs; rw [← List.map_id s.ss]
  refine List.map_congr_left fun e he => ?_
  show (⟨keyS e.v.node.toNat e.v.id, e.v, e.mke, e.ix⟩ : TE KS) = e
  rw [← kS e he]
 obtain ⟨sC, hC⟩ := loadC_some (M := 64) (last := s.l3) (l := s.cs) (s := sS) (kp := []) (fun e he => by rw [eS2] at he; cases he) (pw_keys (K := fun e : TE KC => keyS e.v.node.toNat e.v.id) hI.ok.r3 kC) (fun e he =>
  ⟨keyS_pos, wrongC_mono (g.gc e he) (fun k => by rw [eS2]; exact k) (fun _ k => by rw [eS2]; exact k), (u.u3.2 e he).1, (u.u3.2 e he).2⟩) (by rw [eS2]; have := hI.ok.n3; show 0 + _ ≤ _; omega) (by rw [eS2]; exact p3)
 have hA : loadAll 64 s.l1 s.l2 s.l3 s.ns (s.ss.map fun e => (⟨[], e.v, e.mke, e.ix⟩ : TE KS)) s.cs = some sC := by
  unfold loadAll
  rw [hN, Option.bind_some, hS, Option.bind_some, hC]
 obtain ⟨i1, i2, i3, m1, m2, m3⟩ := loadAll_is hA p1 p2 p3
 refine ⟨sC, hA, ?_⟩
 rw [m1, m2, m3]
 have j1 : sC.ns = s.ns := by
  rw [i1]
  conv => rhs; rw [← List.map_id s.ns]
  refine List.map_congr_left fun e he => ?_
  rw [← kN e he]; rfl
 have j2 : sC.ss = s.ss := by
  rw [i2, List.map_map]
  conv => rhs; rw [← List.map_id s.ss]
  refine List.map_congr_left fun e he => ?_
  show (⟨keyS e.v.node.toNat e.v.id, e.v, e.mke, e.ix⟩ : TE KS) = e
  rw [← kS e he]
 have j3 : sC.cs = s.cs := by
  rw [i3]
  conv => rhs; rw [← List.map_id s.cs]
  refine List.map_congr_left fun e he => ?_
  rw [← kC e he]; rfl
 rw [j1, j2, j3]
theorem good_tags {s : RS} {x : KS} (h : wrongS s x = 0) : x.tags.length ≤ 8796093021952 ∧ x.id.length ≤ 140737488351232 ∧ x.name.length ≤ 140737488351232 ∧ shortL x.tags := by
 rw [wrongS_iff] at h
 obtain ⟨_, _, _, h1, h2, h3, _⟩ := h
 have i1 := h1.2.1
 have i2 := h2.2.1
 have i3 := h3.1
 refine ⟨by omega, by omega, by omega, fun y hy => ?_⟩
 obtain ⟨k, hk, rfl⟩ := List.getElem_of_mem hy
 have := (h3.2.1 k _ (List.getElem?_eq_getElem hk)).2.1
 omega
theorem good_ck {s : RS} {x : KC} (h : wrongC s x = 0) : CkIs x := by
 rw [wrongC_iff] at h
 obtain ⟨_, _, _, h1, h2, h3, _⟩ := h
 have i1 := h1.2.1
 refine ⟨by omega, ?_, by omega⟩
 rcases h2 with h2 | h2
 ·rw [h2]; simp
 ·have := h2.2.1; omega
set_option maxHeartbeats 8000000 in
theorem back_ok {wl : AV} {l : List St} (hw : ∀ H : HL, SlIs B H wl 18 (l.map stepC)) (hlen : l.length ≤ 9223372036854775807) (hst : ∀ (i : Nat) (h : i < l.length), StIs B l[i]) :
  WF B tab (.func 6) [wl] [] fun r _ => r = .bool true := by
 refine WF.fn g6 rfl ?_
 have hm : 1 ≤ 64 := by decide
 have h64 : 64 ≤ 64 := by decide
 have hM : mostOf (Int.ofNat 64) = 64 := by decide
 refine zE (zD ?_)
 repeat' (first
  | apply zC | (apply zB; rfl; (intro _; rfl)))
 refine zE (zD ?_)
 repeat' (first
  | apply zC | (apply WOps.clA; rfl; rfl; exact new7_ok _; rw [hM]; rintro _ H1 ⟨rp, a1, a2, a3, rfl, h1⟩) | (apply zB; rfl; (intro _; rfl)))
 refine zE (zD ?_)
 repeat' (first
  | apply zC | (apply WOps.clA; rfl; rfl; exact new8_ok _; rw [hM]; rintro _ H2 ⟨wp, rfl, h2⟩) | (apply zB; rfl; (intro _; rfl)))
 refine WC.cut2 (X := HL × RS × Nat) (fun x => [(3, .ptr ⟨false, rp, 0⟩), (4, .ptr ⟨false, wp, 0⟩)]) (fun x => x.1) (fun x => (Inv 64 x.2.1 ∧ Good x.2.1 ∧ Up x.2.1 (.ofNat x.2.2) ∧ Nn x.2.1) ∧ Both B x.1 rp a1 a2 a3 wp 64 64 x.2.1 x.2.1 []) ?_ ?_
 ·refine zE (zD ?_)
  repeat' (first
   | apply zC | apply zK | (apply zB; rfl; (intro _; rfl)))
  refine yG ?_
  obtain ⟨i, hi⟩ : ∃ i : Nat, i = 0 := ⟨0, rfl⟩
  obtain ⟨s, hs⟩ : ∃ s : RS, s = rs0 := ⟨_, rfl⟩
  refine WL.le (t' := [(0, wl), (3, .ptr ⟨false, rp, 0⟩), (4, .ptr ⟨false, wp, 0⟩), (5, .int .i64 (.ofNat i))]) (by subst hi; exact zA rfl (zA rfl (zA rfl (zA rfl zH)))) ?_
  have b : Both B H2 rp a1 a2 a3 wp 64 64 s s [] := by subst hs; exact Both.mk0 h1 h2
  have hI : Inv 64 s ∧ Good s ∧ Up s (.ofNat i) ∧ Nn s := by subst hs hi; exact ⟨Inv.zero hm h64, good_zero, Up.zero, ⟨Int.le_refl _, Int.le_refl _, Int.le_refl _⟩⟩
  have hle : i ≤ l.length := by omega
  clear hi hs h1 h2
  induction hk : l.length - i using Nat.strongRecOn generalizing i s H2 with | _ k ih => ?_
  apply WL.step
  repeat' (first
   | apply zC | apply zE | apply zD | apply zJ | apply zZ | (apply zO; rfl) | apply zK | (apply zU; rfl; rfl; exact hw _) | (apply zM; rfl; rfl; rfl; rfl; intro _ _) | (apply zB; rfl; (intro _; rfl)) | (apply zV; rfl) | (apply WOps.ask; rfl; all_goals (intro hb; first | subst hb | fail_if_success (cases hb))) | (apply zN; rfl; all_goals (intro hb; try subst hb)))
  ·have hlt : i < l.length := by
    have h0 := ‹true = true ↔ cmpP BinOp.lss (Int.ofNat i) (Int.ofNat (List.map stepC l).length)›
    rw [List.length_map] at h0
    simp [cmpP] at h0; omega
   have hcm : (l.map stepC)[i]? = some (stepC l[i]) := by rw [List.getElem?_map, List.getElem?_eq_getElem hlt]; rfl
   have hsi := hst i hlt
   generalize l[i] = t at hcm hsi
   have ct := hsi.s.t.cell
   have hsi2 : StIs B { t with ix := .ofNat (i + 1) } := ⟨hsi.s, hsi.c, hsi.x⟩
   obtain ⟨hI0, hg, hu, hn⟩ := hI
   have hI1 : Inv 64 (stepS 64 s { t with ix := .ofNat (i + 1) }) ∧ Good (stepS 64 s { t with ix := .ofNat (i + 1) }) ∧ Up (stepS 64 s { t with ix := .ofNat (i + 1) }) (.ofNat (i + 1)) ∧ Nn (stepS 64 s { t with ix := .ofNat (i + 1) }) :=
    ⟨hI0.step, good_step hI0 hg, hu.step (t := { t with ix := .ofNat (i + 1) }) (by simp only [Int.ofNat_eq_natCast]; omega), hn.step⟩
   repeat' (first
    | apply zC | apply zE | apply zD | apply zJ | (apply zO; rfl) | (apply zF; rfl; rfl; (first | exact ld0 rfl | exact ld1 rfl | exact ld2 rfl); rfl) | (apply zP; rfl; rfl; (first | exact tk0 | exact tk1 | exact tk2); rfl; (· repeat' (first | rfl | assumption | apply ac1)); rfl) | (apply yE; rfl; intro _) | (apply yA; rfl; rfl; rfl; exact hw _; exact hcm; intro ax hax) | (apply zF; rfl; rfl; exact hax; rfl) | (apply WOps.cvU; rfl; rfl; omega) | (apply WOps.clA; rfl; rfl; exact step9_ok (t := { t with ix := .ofNat (i + 1) }) hI0 hI0 (.inl ⟨rfl, rfl⟩) hsi2 b.cons; rintro _ H3 ⟨c, rfl, hc, b1⟩; obtain rfl := hc rfl rfl) | (apply zR; rfl; rfl; rfl; omega) | (apply zB; rfl; (intro _; rfl)))
   obtain ⟨H4, b4, s4⟩ := b1.less (R1 := []) (subF (by intro f; simp only [AV.cells, pm] <;> omega))
   exact WL.le (zA rfl (zA rfl (zA rfl (zA rfl zH)))) (yB s4 (ih _ (by omega) _ (i + 1) _ b4 hI1 (by omega) rfl))
  all_goals exact ⟨(H2, s, i), zA rfl (zA rfl zH), SubP.refl, hI, b⟩
 rintro ⟨H, s, n⟩ ⟨⟨hI, hg, hu, hn⟩, b⟩
 simp only at hI hg hu hn b ⊢
 obtain ⟨s', hA, hs'⟩ := back_load hI hg hu hn.p1 hn.p2 hn.p3
 have n1 := hI.ok.n1
 have n2 := hI.ok.n2
 have n3 := hI.ok.n3
 have D : ∀ (vn vs vc : AV) (qs : List (TE KS × AV)) (H0 : HL), SlIs B H0 vn 4 (s.ns.map entN) → SlIs B H0 vs 7 (qs.map fun p => entS p.1 p.2) → SlIs B H0 vc 7 (s.cs.map entC) → qs.map (·.1) = s.ss.map (fun e => (⟨[], e.v, e.mke, e.ix⟩ : TE KS)) → (∀ p, p ∈ qs → TgIn B H0 p.2 p.1.v.tags) →
   WF B tab (.func 20) [.int .i64 (.ofNat 64), vn, vs, vc, .agg (lastC s)] H0 fun r H' => ∃ rp a1 a2 a3, r = .tup [.ptr ⟨false, rp, 0⟩, .int .i64 (.ofNat 0)] ∧ RosAt B H' rp a1 a2 a3 64 s H0 := by
  intro vn vs vc qs H0 k1 k2 k3 hqs k4
  have hql : qs.length ≤ 64 := by
   have := congrArg List.length hqs
   rw [List.length_map, List.length_map] at this; omega
  have hq : ∀ p, p ∈ qs → p.1.v.tags.length ≤ 8796093021952 ∧ p.1.v.id.length ≤ 140737488351232 ∧ p.1.v.name.length ≤ 140737488351232 ∧ shortL p.1.v.tags := fun p hp => by
   have h1 : p.1 ∈ qs.map (·.1) := List.mem_map_of_mem hp
   rw [hqs] at h1
   obtain ⟨y, hy, h2⟩ := List.mem_map.1 h1
   rw [← h2]; exact good_tags (hg.gs y hy)
  have d := load20_ok (B := B) (H0 := H0) (most := .ofNat 64) (l1 := s.l1) (l2 := s.l2) (l3 := s.l3) (nl := s.ns) (sl := qs) (cl := s.cs) k1 k2 k3 (by omega) (by omega) (by omega) (fun p hp => ⟨k4 p hp, hq p hp⟩) (fun e he => good_ck (hg.gc e he))
  unfold loadAll at hA
  rw [hM] at d
  simp only [hqs, hA, hs'] at d
  exact d
 have S : ∀ (Y H' : HL) (rp2 b1 b2 b3 : Nat), RosAt B H' rp2 b1 b2 b3 64 s (Y ++ H) → WF B tab (.func 10) [.ptr ⟨false, rp2, 0⟩, .ptr ⟨false, wp, 0⟩] H' fun r H'' => H'' = H' ∧ r = .bool true := by
  intro Y H' rp2 b1 b2 b3 h
  obtain ⟨X, r0, _⟩ := b.ref
  obtain ⟨Z, _, pz⟩ := h.z
  exact same10_ok hI.ok h (((r0.add Y).add Z).perm pz)
 obtain ⟨X0, k0, _⟩ := b.ros
 repeat' (first
  | apply zC | apply zE | apply zD | apply zL | (apply WOps.clA; rfl; rfl; exact told14_at hI.ok k0; rintro t9 _ ⟨h9, o9, rfl⟩) | (apply WOps.clA; rfl; rfl; exact told15_at hI.ok (k0.add h9); rintro t11 _ ⟨h11, G11, qs, hqs, o11, hin, rfl⟩) | (apply WOps.clA; rfl; rfl; exact told16_at hI.ok (((k0.add h9).add G11).add h11); rintro t13 _ ⟨h13, o13, rfl⟩) | (apply WOps.clR; rfl; rfl; exact last21_ok hI.ok ((((k0.add h9).add G11).add h11).add h13); rintro _ rfl) | (apply WOps.clA; rfl; rfl; exact D _ _ _ qs _ (SlIs.right (SlIs.right (SlIs.right (SlIs.left (entsN_sl o9))))) (SlIs.right (SlIs.left (entP_sl o11))) (SlIs.left (entsC_sl o13)) hqs (fun p hp => TgIn.right (TgIn.right (TgIn.left (hin p hp)))); rintro _ H5 ⟨rp2, b1, b2, b3, rfl, h5⟩) | (apply WOps.clR; rfl; rfl; exact S (h13 ++ (h11 ++ (G11 ++ h9))) _ _ _ _ _ (h5.permR (.of_eq (by simp only [List.append_assoc]))); rintro _ rfl) | (apply WOps.clG1; rfl; rfl; exact WF.const g13) | (apply WOps.eqlT; rfl; rfl; rfl; decide) | (apply zB; rfl; (intro _; rfl)))
 all_goals exact ⟨trivial, [_], ⟨_, [], rfl, rfl, rfl⟩, rfl⟩
theorem rosterBack_wf (B : Nat → List AV) (args : List AV) (h : ArgIs Tryz.prog B Tryz.f6.params.toList args) : WF B tab (.func 6) args [] fun v _ => v = .bool true := by
  rw [show Tryz.f6.params.toList = [22] from by kernel_rfl] at h
  match args, h with
  | [a], ⟨⟨n, cs, h, ha⟩, _⟩ =>
    rw [show (shapeOf Tryz.prog 22).1 = false from by kernel_rfl] at ha
    simp only at ha
    obtain ⟨w, l, e, k1, k2, k3⟩ := steps_of h
    subst e
    cases ha
    exact back_ok k1 k2 k3
end Go.Proofs.YtgpnpcahcegadaaGreat.RO
