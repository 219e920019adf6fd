/- What the functions do, shown by the logic. -/
import Derived.Test.YtgpnpcahcegadaaGreatRoF
set_option linter.unusedSimpArgs false
set_option linter.unusedVariables false
set_option linter.unusedSectionVars false
set_option maxRecDepth 20000
namespace Go.Proofs.YtgpnpcahcegadaaGreat.RO
open Go.Proofs.YtgpnpcahcegadaaGreat.Abs
variable {B : Nat → List AV}
set_option maxHeartbeats 1000000 in
theorem copy35_ok {H R : HL} {rp a1 a2 a3 M : Nat} {s : RS} {xs : List (TE SV)} (ok : RsOk M s) (h : RosC H rp a1 a2 a3 M s xs R) :
  WF B tab (.func 35) [.ptr ⟨false, rp, 0⟩] H fun r H' => ∃ cp b1 b2 b3, r = .ptr ⟨false, cp, 0⟩ ∧ RosC H' cp b1 b2 b3 M s xs H := by
 refine WF.fn g35 rfl ?_
 obtain ⟨xn, R1, e1, t1, _⟩ := h.n
 obtain ⟨R2, e2, t2, _⟩ := h.s
 obtain ⟨xc, R3, e3, t3, _⟩ := h.c
 obtain ⟨v1, n0, n1, n2, n3, _⟩ := t1.rd (B := B)
 obtain ⟨v2, s0, s1, s2, s3, _⟩ := t2.rd (B := B)
 obtain ⟨v3, c0, c1, c2, c3, _⟩ := t3.rd (B := B)
 have r1 := h.r1 (B := B)
 have r2 := h.r2 (B := B)
 have r3 := h.r3 (B := B)
 repeat' (first
  | apply zC | apply zE | apply zD | apply zJ | apply zL | (apply zO; rfl) | apply zT | apply zW | (apply WOps.clR; rfl; rfl; exact none39_ok r1; rintro _ rfl) | (apply zI; rfl; · repeat' (first | refine at1 ?_ rfl | apply at2 | exact same0 | refine same1 ?_ rfl | apply same2 | exact rd_ld rfl ((by first | exact r1 | exact r2 | exact r3 | exact (Ld.right r1).cons | exact (Ld.right r2).cons | exact (Ld.right r3).cons | exact (Ld.right (Ld.right r3).cons).cons | exact (Ld.right (Ld.right r2).cons).cons | exact (Ld.right (Ld.right r1).cons).cons | exact (Ld.right (Ld.right (Ld.right r1).cons).cons).cons | exact (Ld.right (Ld.right (Ld.right r2).cons).cons).cons | exact (Ld.right (Ld.right (Ld.right r3).cons).cons).cons)) rfl)) | (apply yI; rfl; rfl; exact copy79_ok n0 ok.m1 n1 n2 n3 (ok.le1 e1); rintro _ _ ⟨b1, w1, g1, rfl, o1, rfl⟩) | (apply yI; rfl; rfl; exact copy80_ok (Ld.right s0).cons ok.m1 (Ld.right s1).cons (Ld.right s2).cons (SrcIs.right s3).cons (ok.le2 e2); rintro _ _ ⟨b2, w2, g2, rfl, o2, rfl⟩) | (apply yI; rfl; rfl; exact copy81_ok (Ld.right (Ld.right c0).cons).cons ok.m1 (Ld.right (Ld.right c1).cons).cons (Ld.right (Ld.right c2).cons).cons (SrcIs.right (SrcIs.right c3).cons).cons (ok.le3 e3); rintro _ _ ⟨b3, w3, g3, rfl, o3, rfl⟩) | (apply WD.bx; rfl; rfl; rfl; rfl; intro _) | (apply zB; rfl; (intro _; rfl)) | (apply zQ; rfl; (intro _; rfl)))
 rename_i cp
 exact ⟨trivial, [_], ⟨_, [], rfl, rfl, rfl⟩, cp, b1, b2, b3, rfl, xn, xc, w1, w2, w3, g1, g2, g3, e1, e2, e3, o1, o2, o3, permF (by intro f; simp only [rosC, List.map_cons, List.map_append, List.sum_cons, List.sum_append, AV.cells]; omega)⟩
open Classical in
noncomputable def hStep (svc : List Nat) (acc : Int) (e : TE KC) : Int := if e.v.svc = [] ∨ e.v.svc = svc then maxI acc e.v.st else acc
noncomputable def hL (svc : List Nat) (es : List (TE KC)) : Int := es.foldl (hStep svc) 0
end Go.Proofs.YtgpnpcahcegadaaGreat.RO
