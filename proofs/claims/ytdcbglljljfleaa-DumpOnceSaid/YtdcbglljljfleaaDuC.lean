/- What the functions do, shown by the logic. -/
import Derived.Test.YtdcbglljljfleaaDuB
set_option linter.unusedSimpArgs false
set_option linter.unusedVariables false
set_option linter.unusedSectionVars false
set_option maxRecDepth 20000
namespace Go.Proofs.Ytdcbglljljfleaa.DU
open Go.Proofs.Ytdcbglljljfleaa.Abs
variable {B : Nat → List AV}
theorem loopS_len {α : Type} {rd : St → α × St} : ∀ {n : Nat} {s : St}, (loopS rd n s).1.length ≤ n := by
 intro n
 induction n with
 | zero => intro s; simp [loopS_0]
 | succ n ih =>
  intro s
  by_cases h : s.2 = 0
  ·rw [loopS_s h]; simp only [List.length_cons]; have := ih (s := (rd s).2); omega
  ·rw [loopS_e h]; simp
theorem textsS_len {s : St} : (textsS 8 80 s).1.length ≤ 8 := by
 unfold textsS
 split
 ·have h1 := loopS_len (rd := textS 80) (n := (numS 8 s).1) (s := (numS 8 s).2)
  have h2 : (numS 8 s).1 ≤ 8 := by
   unfold numS
   split
   ·split
    ·split
     ·simp only; assumption
     ·simp
    ·simp
   ·simp
  omega
 ·simp
theorem wrap32 {n : Nat} (h : n ≤ 4294967295) : IntKind.u32.wrap (Int.ofNat n) = Int.ofNat n := by
 unfold IntKind.wrap
 simp [IntKind.bits, IntKind.signed]
 omega
theorem tk_mid {X R : HL} {q : Nat} {o : AObj} : Tk (X ++ (q, o) :: R) q o (X ++ R) := List.perm_middle
theorem WOps.cv32 {T : Tr FnI} {t : EL} {H : HL} {Q : EL → HL → Prop} {os : List AOper} {k : Nat} {g : Option (Nat × Bool)} {x : AO} {k0 : IntKind} {m : Nat} (hg : wantedL g t = some true) (hx : gl t x = some (.int k0 (.ofNat m))) (h : m ≤ 4294967295) (w : WOps B T os ((k, .int .u32 (.ofNat m)) :: t) H Q) : WOps B T (⟨some k, .cvInt .u32 x, g⟩ :: os) t H Q :=
 WOps.purG hg (fun h' => by simp only [aopL, hx, wrap32 h, pure1]) w
set_option maxHeartbeats 2000000 in
theorem read66_ok {H Y R : HL} {p : Nat} {s s' : St} {r : List Fd} (h : RdAt B true H p s Y R) (e : rdR kN s = (r, s')) :
  WF B tab (.func 66) ([] ++ ([.agg [.ptr ⟨false, p, 0⟩]] ++ [])) H fun v H' => ∃ r' X, v = .agg (rowC r') ∧ stripR r' = r ∧ shN r' ∧ (∀ f, f ∈ r' → f.wf) ∧ (∀ f, f ∈ r' → f.at B X) ∧ RdAt B true H' p s' Y (X ++ R) := by
 obtain ⟨xa, s1, e1⟩ : ∃ x y, numS 255 s = (x, y) := ⟨_, _, rfl⟩
 obtain ⟨xb, s2, e2⟩ : ∃ x y, textS 80 s1 = (x, y) := ⟨_, _, rfl⟩
 obtain ⟨xc, s3, e3⟩ : ∃ x y, numS 18446744073709551615 s2 = (x, y) := ⟨_, _, rfl⟩
 obtain ⟨xd, s4, e4⟩ : ∃ x y, numS 18446744073709551615 s3 = (x, y) := ⟨_, _, rfl⟩
 simp only [kN, rdR, rdF, e1, e2, e3, e4, Prod.mk.injEq] at e
 obtain ⟨rfl, rfl⟩ := e
 refine WF.lessP ?_
 refine WF.fn g66 rfl ?_
 refine WC.seq (WC.reg ?_)
 repeat' (first
  | apply WOps.nil | (apply WOps.alc; rfl; intro _) | (apply WOps.bx; rfl; rfl; (· repeat' (first | rfl | assumption | apply ac1)); intro _))
 rename_i p1 p2
 have b0 := (h.cons (x := (p1, .row [.ptr ⟨false, p, 0⟩]))).cons (x := (p2, .row [.int .i64 (.ofNat 0), .str [], .int .u64 (.ofNat 0), .int .u64 (.ofNat 0)]))
 have q1 := num_le b0 e1
 refine WC.seq (WC.reg ?_)
 repeat' (first
  | apply WOps.nil | (apply WOps.ldG; rfl; rfl; (first | exact ld0 rfl | exact ld1 rfl | exact ld2 rfl); rfl) | (apply WOps.st; rfl; rfl; (first | exact tk0 | exact tk1 | exact tk2); rfl; (· repeat' (first | rfl | assumption | apply ac1)); rfl) | (apply WOps.alc; rfl; intro _) | (apply WOps.clA; rfl; rfl; exact small67_ok b0 e1; rintro _ H1 ⟨rfl, g1⟩) | (apply WOps.purG; rfl; (intro _; rfl)))
 rename_i p3
 have h1 := g1.cons (x := (p3, .row [.int .i64 (.ofNat xa), .str [], .int .u64 (.ofNat 0), .int .u64 (.ofNat 0)]))
 refine WC.seq (WC.reg ?_)
 repeat' (first
  | apply WOps.nil | (apply WOps.ldG; rfl; rfl; exact h1.ld (by first | exact Ld.cons (Ld.cons (Ld.own Tk.head rfl)) | exact Ld.cons (Ld.right (Ld.cons (Ld.own Tk.head rfl)))); rfl) | (apply WOps.clA; rfl; rfl; exact short68_ok h1 e2; rintro _ H2 ⟨rfl, g2⟩; obtain ⟨Z2, u2, f2⟩ := g2.st Tk.head) | (apply WOps.st; rfl; rfl; exact u2; rfl; exact allCell_cons rfl allCell_nil; rfl) | (apply WOps.purG; rfl; (intro _; rfl)))
 have h2 := f2 [.int .i64 (.ofNat xa), .str xb, .int .u64 (.ofNat 0), .int .u64 (.ofNat 0)]
 refine WC.seq (WC.reg ?_)
 repeat' (first
  | apply WOps.nil | (apply WOps.ldG; rfl; rfl; exact h2.ld (by first | exact Ld.cons (Ld.cons (Ld.own Tk.head rfl)) | exact Ld.cons (Ld.right (Ld.cons (Ld.own Tk.head rfl)))); rfl) | (apply WOps.clA; rfl; rfl; exact ends69_ok h2 e3 e4 rfl rfl; intro _ H4 h4) | (apply WOps.purG; rfl; (intro _; rfl)))
 have q3 := num_le h2 e3
 have q3 := (num_le (k := true) h2 e3); have q4 := numS_ok (most := 18446744073709551615) (s := s3) (by have := numS_ok (most := 18446744073709551615) h2.ok; rw [e3] at this; exact this.1)
 rw [e4] at q4
 obtain ⟨Zl, ul, fl⟩ := h4.st (q := p2) (cs := [.int .i64 (.ofNat 0), .str [], .int .u64 (.ofNat 0), .int .u64 (.ofNat 0)]) (R' := (p3, .row [.int .i64 (.ofNat xa), .str xb, .int .u64 (.ofNat xc), .int .u64 (.ofNat xd)]) :: ((p1, .row [.ptr ⟨false, p, 0⟩]) :: R)) (permF (by intro f; simp only [AV.cells, pm] <;> omega))
 have fz := fl [.int .i64 (.ofNat xa), .str xb, .int .u64 (.ofNat xc), .int .u64 (.ofNat xd)]
 refine WC.seq (WC.reg ?_)
 repeat' (first
  | apply WOps.nil | apply WC.ret | (apply WOps.ldG; rfl; rfl; exact h4.ld (Ld.own Tk.head rfl); rfl) | (apply WOps.st; rfl; rfl; exact ul; rfl; ((repeat' (first | exact ac0 | apply ac1)) <;> (first | rfl | assumption)); rfl))
 obtain ⟨Hz, bz, sz⟩ := fz.less (R1 := R) (subF (by intro f; simp only [AV.cells, pm] <;> omega))
 exact ⟨trivial, [_], ⟨_, _, rfl, ⟨_, _, rfl, Ld.own Tk.head rfl, rfl⟩, rfl⟩, Hz, ⟨[.int (.ofNat xa) 255, .txt xb, .num xc, .num xd], [], rfl, rfl, ⟨_, _, _, _, rfl⟩, (by simp only [List.mem_cons, List.not_mem_nil, or_false, forall_eq_or_imp, forall_eq, Fd.wf]; repeat' (first | exact trivial | omega | apply And.intro)), (by simp only [List.mem_cons, List.not_mem_nil, or_false, forall_eq_or_imp, forall_eq, Fd.at]; repeat' (first | exact trivial | apply And.intro)), bz⟩, sz⟩
set_option maxHeartbeats 2000000 in
theorem read72_ok {H Y R : HL} {p : Nat} {s s' : St} {r : List Fd} (h : RdAt B true H p s Y R) (e : rdR kS s = (r, s')) :
  WF B tab (.func 72) ([] ++ ([.agg [.ptr ⟨false, p, 0⟩]] ++ [])) H fun v H' => ∃ r' X, v = .agg (rowC r') ∧ stripR r' = r ∧ shS r' ∧ (∀ f, f ∈ r' → f.wf) ∧ (∀ f, f ∈ r' → f.at B X) ∧ RdAt B true H' p s' Y (X ++ R) := by
 obtain ⟨xa, s1, e1⟩ : ∃ x y, numS 255 s = (x, y) := ⟨_, _, rfl⟩
 obtain ⟨xb, s2, e2⟩ : ∃ x y, textS 80 s1 = (x, y) := ⟨_, _, rfl⟩
 obtain ⟨xc, s3, e3⟩ : ∃ x y, textS 80 s2 = (x, y) := ⟨_, _, rfl⟩
 obtain ⟨xd, s4, e4⟩ : ∃ x y, textsS 8 80 s3 = (x, y) := ⟨_, _, rfl⟩
 obtain ⟨xe, s5, e5⟩ : ∃ x y, numS 65535 s4 = (x, y) := ⟨_, _, rfl⟩
 obtain ⟨xf, s6, e6⟩ : ∃ x y, numS 18446744073709551615 s5 = (x, y) := ⟨_, _, rfl⟩
 obtain ⟨xg, s7, e7⟩ : ∃ x y, numS 18446744073709551615 s6 = (x, y) := ⟨_, _, rfl⟩
 simp only [kS, rdR, rdF, e1, e2, e3, e4, e5, e6, e7, Prod.mk.injEq] at e
 obtain ⟨rfl, rfl⟩ := e
 refine WF.lessP ?_
 refine WF.fn g72 rfl ?_
 refine WC.seq (WC.reg ?_)
 repeat' (first
  | apply WOps.nil | (apply WOps.alc; rfl; intro _) | (apply WOps.bx; rfl; rfl; (· repeat' (first | rfl | assumption | apply ac1)); intro _))
 rename_i p1 p2
 have b0 := (h.cons (x := (p1, .row [.ptr ⟨false, p, 0⟩]))).cons (x := (p2, .row [.int .i64 (.ofNat 0), .str [], .str [], .nilsl, .int .i64 (.ofNat 0), .int .u64 (.ofNat 0), .int .u64 (.ofNat 0)]))
 have q1 := num_le b0 e1
 refine WC.seq (WC.reg ?_)
 repeat' (first
  | apply WOps.nil | (apply WOps.ldG; rfl; rfl; (first | exact ld0 rfl | exact ld1 rfl | exact ld2 rfl); rfl) | (apply WOps.st; rfl; rfl; (first | exact tk0 | exact tk1 | exact tk2); rfl; (· repeat' (first | rfl | assumption | apply ac1)); rfl) | (apply WOps.alc; rfl; intro _) | (apply WOps.clA; rfl; rfl; exact small67_ok b0 e1; rintro _ H1 ⟨rfl, g1⟩) | (apply WOps.purG; rfl; (intro _; rfl)))
 rename_i p3
 have h1 := g1.cons (x := (p3, .row [.int .i64 (.ofNat xa), .str [], .str [], .nilsl, .int .i64 (.ofNat 0), .int .u64 (.ofNat 0), .int .u64 (.ofNat 0)]))
 refine WC.seq (WC.reg ?_)
 repeat' (first
  | apply WOps.nil | (apply WOps.ldG; rfl; rfl; exact h1.ld (by first | exact Ld.cons (Ld.cons (Ld.own Tk.head rfl)) | exact Ld.cons (Ld.right (Ld.cons (Ld.own Tk.head rfl)))); rfl) | (apply WOps.clA; rfl; rfl; exact short68_ok h1 e2; rintro _ H2 ⟨rfl, g2⟩; obtain ⟨Z2, u2, f2⟩ := g2.st Tk.head) | (apply WOps.st; rfl; rfl; exact u2; rfl; exact allCell_cons rfl allCell_nil; rfl) | (apply WOps.purG; rfl; (intro _; rfl)))
 have h2 := f2 [.int .i64 (.ofNat xa), .str xb, .str [], .nilsl, .int .i64 (.ofNat 0), .int .u64 (.ofNat 0), .int .u64 (.ofNat 0)]
 refine WC.seq (WC.reg ?_)
 repeat' (first
  | apply WOps.nil | (apply WOps.ldG; rfl; rfl; exact h2.ld (by first | exact Ld.cons (Ld.cons (Ld.own Tk.head rfl)) | exact Ld.cons (Ld.right (Ld.cons (Ld.own Tk.head rfl)))); rfl) | (apply WOps.clA; rfl; rfl; exact short68_ok h2 e3; rintro _ H3 ⟨rfl, g3⟩; obtain ⟨Z3, u3, f3⟩ := g3.st Tk.head) | (apply WOps.st; rfl; rfl; exact u3; rfl; exact allCell_cons rfl allCell_nil; rfl) | (apply WOps.purG; rfl; (intro _; rfl)))
 have h3 := f3 [.int .i64 (.ofNat xa), .str xb, .str xc, .nilsl, .int .i64 (.ofNat 0), .int .u64 (.ofNat 0), .int .u64 (.ofNat 0)]
 refine WC.seq (WC.reg ?_)
 repeat' (first
  | apply WOps.nil | (apply WOps.ldG; rfl; rfl; exact h3.ld (by first | exact Ld.cons (Ld.cons (Ld.own Tk.head rfl)) | exact Ld.cons (Ld.right (Ld.cons (Ld.own Tk.head rfl)))); rfl) | (apply WOps.clA; rfl; rfl; exact textsT h3 e4; rintro vxd H4 ⟨X, sx, g4⟩; obtain ⟨Z4, u4, f4⟩ := g4.st tk_mid) | (apply WOps.st; rfl; rfl; exact u4; exact congrArg List.length (cells1 sx.cell); rw [cells1 sx.cell]; exact allCell_cons sx.cell allCell_nil; rw [cells1 sx.cell]; rfl) | (apply WOps.purG; rfl; (intro _; rfl)))
 have h4 := f4 [.int .i64 (.ofNat xa), .str xb, .str xc, vxd, .int .i64 (.ofNat 0), .int .u64 (.ofNat 0), .int .u64 (.ofNat 0)]
 have cx := sx.cell
 have q5 := num_le h4 e5
 refine WC.seq (WC.reg ?_)
 repeat' (first
  | apply WOps.nil | (apply WOps.ldG; rfl; rfl; exact h4.ld (by first | exact Ld.cons (Ld.cons (Ld.own Tk.head rfl)) | exact Ld.cons (Ld.right (Ld.cons (Ld.own Tk.head rfl)))); rfl) | (apply WOps.clA; rfl; rfl; exact numT h4 e5; rintro _ H5 ⟨rfl, g5⟩; obtain ⟨Z5, u5, f5⟩ := g5.st Tk.head) | (apply WOps.st; rfl; rfl; exact u5; rfl; exact allCell_cons rfl allCell_nil; rfl) | (apply WOps.cvI; rfl; rfl; omega) | (apply WOps.purG; rfl; (intro _; rfl)))
 have h5 := f5 [.int .i64 (.ofNat xa), .str xb, .str xc, vxd, .int .i64 (.ofNat xe), .int .u64 (.ofNat 0), .int .u64 (.ofNat 0)]
 refine WC.seq (WC.reg ?_)
 repeat' (first
  | apply WOps.nil | (apply WOps.ldG; rfl; rfl; exact h5.ld (by first | exact Ld.cons (Ld.cons (Ld.own Tk.head rfl)) | exact Ld.cons (Ld.right (Ld.cons (Ld.own Tk.head rfl)))); rfl) | (apply WOps.clA; rfl; rfl; exact ends69_ok h5 e6 e7 rfl rfl; intro _ H7 h7) | (apply WOps.purG; rfl; (intro _; rfl)))
 have q6 := num_le h5 e6
 have q6 := (num_le (k := true) h5 e6); have q7 := numS_ok (most := 18446744073709551615) (s := s6) (by have := numS_ok (most := 18446744073709551615) h5.ok; rw [e6] at this; exact this.1)
 rw [e7] at q7
 obtain ⟨Zl, ul, fl⟩ := h7.st (q := p2) (cs := [.int .i64 (.ofNat 0), .str [], .str [], .nilsl, .int .i64 (.ofNat 0), .int .u64 (.ofNat 0), .int .u64 (.ofNat 0)]) (R' := (p3, .row [.int .i64 (.ofNat xa), .str xb, .str xc, vxd, .int .i64 (.ofNat xe), .int .u64 (.ofNat xf), .int .u64 (.ofNat xg)]) :: (X ++ ((p1, .row [.ptr ⟨false, p, 0⟩]) :: R))) (permF (by intro f; simp only [AV.cells, pm] <;> omega))
 have fz := fl [.int .i64 (.ofNat xa), .str xb, .str xc, vxd, .int .i64 (.ofNat xe), .int .u64 (.ofNat xf), .int .u64 (.ofNat xg)]
 refine WC.seq (WC.reg ?_)
 repeat' (first
  | apply WOps.nil | apply WC.ret | (apply WOps.ldG; rfl; rfl; exact h7.ld (Ld.own Tk.head rfl); rfl) | (apply WOps.st; rfl; rfl; exact ul; rfl; ((repeat' (first | exact ac0 | apply ac1)) <;> (first | rfl | assumption)); rfl))
 obtain ⟨Hz, bz, sz⟩ := fz.less (R1 := X ++ R) (subF (by intro f; simp only [AV.cells, pm] <;> omega))
 have ql : xd.length ≤ 8 := by have := textsS_len (s := s3); rw [e4] at this; exact this
 exact ⟨trivial, [_], ⟨_, _, rfl, ⟨_, _, rfl, Ld.own Tk.head rfl, rfl⟩, rfl⟩, Hz, ⟨[.int (.ofNat xa) 255, .txt xb, .txt xc, .txs vxd xd, .int (.ofNat xe) 65535, .num xf, .num xg], X, rfl, rfl, ⟨_, _, _, _, _, _, _, _, rfl⟩, (by simp only [List.mem_cons, List.not_mem_nil, or_false, forall_eq_or_imp, forall_eq, Fd.wf]; repeat' (first | exact trivial | omega | apply And.intro)), (by simp only [List.mem_cons, List.not_mem_nil, or_false, forall_eq_or_imp, forall_eq, Fd.at]; repeat' (first | exact trivial | exact sx | apply And.intro)), bz⟩, sz⟩
set_option maxHeartbeats 2000000 in
theorem read76_ok {H Y R : HL} {p : Nat} {s s' : St} {r : List Fd} (h : RdAt B true H p s Y R) (e : rdR kC s = (r, s')) :
  WF B tab (.func 76) ([] ++ ([.agg [.ptr ⟨false, p, 0⟩]] ++ [])) H fun v H' => ∃ r' X, v = .agg (rowC r') ∧ stripR r' = r ∧ shC r' ∧ (∀ f, f ∈ r' → f.wf) ∧ (∀ f, f ∈ r' → f.at B X) ∧ RdAt B true H' p s' Y (X ++ R) := by
 obtain ⟨xa, s1, e1⟩ : ∃ x y, numS 255 s = (x, y) := ⟨_, _, rfl⟩
 obtain ⟨xb, s2, e2⟩ : ∃ x y, textS 80 s1 = (x, y) := ⟨_, _, rfl⟩
 obtain ⟨xc, s3, e3⟩ : ∃ x y, textS 80 s2 = (x, y) := ⟨_, _, rfl⟩
 obtain ⟨xd, s4, e4⟩ : ∃ x y, textS 80 s3 = (x, y) := ⟨_, _, rfl⟩
 obtain ⟨xe, s5, e5⟩ : ∃ x y, numS 255 s4 = (x, y) := ⟨_, _, rfl⟩
 obtain ⟨xf, s6, e6⟩ : ∃ x y, numS 18446744073709551615 s5 = (x, y) := ⟨_, _, rfl⟩
 obtain ⟨xg, s7, e7⟩ : ∃ x y, numS 18446744073709551615 s6 = (x, y) := ⟨_, _, rfl⟩
 simp only [kC, rdR, rdF, e1, e2, e3, e4, e5, e6, e7, Prod.mk.injEq] at e
 obtain ⟨rfl, rfl⟩ := e
 refine WF.lessP ?_
 refine WF.fn g76 rfl ?_
 refine WC.seq (WC.reg ?_)
 repeat' (first
  | apply WOps.nil | (apply WOps.alc; rfl; intro _) | (apply WOps.bx; rfl; rfl; (· repeat' (first | rfl | assumption | apply ac1)); intro _))
 rename_i p1 p2
 have b0 := (h.cons (x := (p1, .row [.ptr ⟨false, p, 0⟩]))).cons (x := (p2, .row [.int .i64 (.ofNat 0), .str [], .str [], .str [], .int .i64 (.ofNat 0), .int .u64 (.ofNat 0), .int .u64 (.ofNat 0)]))
 have q1 := num_le b0 e1
 refine WC.seq (WC.reg ?_)
 repeat' (first
  | apply WOps.nil | (apply WOps.ldG; rfl; rfl; (first | exact ld0 rfl | exact ld1 rfl | exact ld2 rfl); rfl) | (apply WOps.st; rfl; rfl; (first | exact tk0 | exact tk1 | exact tk2); rfl; (· repeat' (first | rfl | assumption | apply ac1)); rfl) | (apply WOps.alc; rfl; intro _) | (apply WOps.clA; rfl; rfl; exact small67_ok b0 e1; rintro _ H1 ⟨rfl, g1⟩) | (apply WOps.purG; rfl; (intro _; rfl)))
 rename_i p3
 have h1 := g1.cons (x := (p3, .row [.int .i64 (.ofNat xa), .str [], .str [], .str [], .int .i64 (.ofNat 0), .int .u64 (.ofNat 0), .int .u64 (.ofNat 0)]))
 refine WC.seq (WC.reg ?_)
 repeat' (first
  | apply WOps.nil | (apply WOps.ldG; rfl; rfl; exact h1.ld (by first | exact Ld.cons (Ld.cons (Ld.own Tk.head rfl)) | exact Ld.cons (Ld.right (Ld.cons (Ld.own Tk.head rfl)))); rfl) | (apply WOps.clA; rfl; rfl; exact short68_ok h1 e2; rintro _ H2 ⟨rfl, g2⟩; obtain ⟨Z2, u2, f2⟩ := g2.st Tk.head) | (apply WOps.st; rfl; rfl; exact u2; rfl; exact allCell_cons rfl allCell_nil; rfl) | (apply WOps.purG; rfl; (intro _; rfl)))
 have h2 := f2 [.int .i64 (.ofNat xa), .str xb, .str [], .str [], .int .i64 (.ofNat 0), .int .u64 (.ofNat 0), .int .u64 (.ofNat 0)]
 refine WC.seq (WC.reg ?_)
 repeat' (first
  | apply WOps.nil | (apply WOps.ldG; rfl; rfl; exact h2.ld (by first | exact Ld.cons (Ld.cons (Ld.own Tk.head rfl)) | exact Ld.cons (Ld.right (Ld.cons (Ld.own Tk.head rfl)))); rfl) | (apply WOps.clA; rfl; rfl; exact short68_ok h2 e3; rintro _ H3 ⟨rfl, g3⟩; obtain ⟨Z3, u3, f3⟩ := g3.st Tk.head) | (apply WOps.st; rfl; rfl; exact u3; rfl; exact allCell_cons rfl allCell_nil; rfl) | (apply WOps.purG; rfl; (intro _; rfl)))
 have h3 := f3 [.int .i64 (.ofNat xa), .str xb, .str xc, .str [], .int .i64 (.ofNat 0), .int .u64 (.ofNat 0), .int .u64 (.ofNat 0)]
 refine WC.seq (WC.reg ?_)
 repeat' (first
  | apply WOps.nil | (apply WOps.ldG; rfl; rfl; exact h3.ld (by first | exact Ld.cons (Ld.cons (Ld.own Tk.head rfl)) | exact Ld.cons (Ld.right (Ld.cons (Ld.own Tk.head rfl)))); rfl) | (apply WOps.clA; rfl; rfl; exact short68_ok h3 e4; rintro _ H4 ⟨rfl, g4⟩; obtain ⟨Z4, u4, f4⟩ := g4.st Tk.head) | (apply WOps.st; rfl; rfl; exact u4; rfl; exact allCell_cons rfl allCell_nil; rfl) | (apply WOps.purG; rfl; (intro _; rfl)))
 have h4 := f4 [.int .i64 (.ofNat xa), .str xb, .str xc, .str xd, .int .i64 (.ofNat 0), .int .u64 (.ofNat 0), .int .u64 (.ofNat 0)]
 have q5 := num_le h4 e5
 refine WC.seq (WC.reg ?_)
 repeat' (first
  | apply WOps.nil | (apply WOps.ldG; rfl; rfl; exact h4.ld (by first | exact Ld.cons (Ld.cons (Ld.own Tk.head rfl)) | exact Ld.cons (Ld.right (Ld.cons (Ld.own Tk.head rfl)))); rfl) | (apply WOps.clA; rfl; rfl; exact small67_ok h4 e5; rintro _ H5 ⟨rfl, g5⟩; obtain ⟨Z5, u5, f5⟩ := g5.st Tk.head) | (apply WOps.st; rfl; rfl; exact u5; rfl; exact allCell_cons rfl allCell_nil; rfl) | (apply WOps.purG; rfl; (intro _; rfl)))
 have h5 := f5 [.int .i64 (.ofNat xa), .str xb, .str xc, .str xd, .int .i64 (.ofNat xe), .int .u64 (.ofNat 0), .int .u64 (.ofNat 0)]
 refine WC.seq (WC.reg ?_)
 repeat' (first
  | apply WOps.nil | (apply WOps.ldG; rfl; rfl; exact h5.ld (by first | exact Ld.cons (Ld.cons (Ld.own Tk.head rfl)) | exact Ld.cons (Ld.right (Ld.cons (Ld.own Tk.head rfl)))); rfl) | (apply WOps.clA; rfl; rfl; exact ends69_ok h5 e6 e7 rfl rfl; intro _ H7 h7) | (apply WOps.purG; rfl; (intro _; rfl)))
 have q6 := num_le h5 e6
 have q6 := (num_le (k := true) h5 e6); have q7 := numS_ok (most := 18446744073709551615) (s := s6) (by have := numS_ok (most := 18446744073709551615) h5.ok; rw [e6] at this; exact this.1)
 rw [e7] at q7
 obtain ⟨Zl, ul, fl⟩ := h7.st (q := p2) (cs := [.int .i64 (.ofNat 0), .str [], .str [], .str [], .int .i64 (.ofNat 0), .int .u64 (.ofNat 0), .int .u64 (.ofNat 0)]) (R' := (p3, .row [.int .i64 (.ofNat xa), .str xb, .str xc, .str xd, .int .i64 (.ofNat xe), .int .u64 (.ofNat xf), .int .u64 (.ofNat xg)]) :: ((p1, .row [.ptr ⟨false, p, 0⟩]) :: R)) (permF (by intro f; simp only [AV.cells, pm] <;> omega))
 have fz := fl [.int .i64 (.ofNat xa), .str xb, .str xc, .str xd, .int .i64 (.ofNat xe), .int .u64 (.ofNat xf), .int .u64 (.ofNat xg)]
 refine WC.seq (WC.reg ?_)
 repeat' (first
  | apply WOps.nil | apply WC.ret | (apply WOps.ldG; rfl; rfl; exact h7.ld (Ld.own Tk.head rfl); rfl) | (apply WOps.st; rfl; rfl; exact ul; rfl; ((repeat' (first | exact ac0 | apply ac1)) <;> (first | rfl | assumption)); rfl))
 obtain ⟨Hz, bz, sz⟩ := fz.less (R1 := R) (subF (by intro f; simp only [AV.cells, pm] <;> omega))
 exact ⟨trivial, [_], ⟨_, _, rfl, ⟨_, _, rfl, Ld.own Tk.head rfl, rfl⟩, rfl⟩, Hz, ⟨[.int (.ofNat xa) 255, .txt xb, .txt xc, .txt xd, .int (.ofNat xe) 255, .num xf, .num xg], [], rfl, rfl, ⟨_, _, _, _, _, _, _, rfl⟩, (by simp only [List.mem_cons, List.not_mem_nil, or_false, forall_eq_or_imp, forall_eq, Fd.wf]; repeat' (first | exact trivial | omega | apply And.intro)), (by simp only [List.mem_cons, List.not_mem_nil, or_false, forall_eq_or_imp, forall_eq, Fd.at]; repeat' (first | exact trivial | apply And.intro)), bz⟩, sz⟩
set_option maxHeartbeats 2000000 in
theorem read79_ok {H Y R : HL} {p : Nat} {s s' : St} {r : List Fd} (h : RdAt B true H p s Y R) (e : rdR kI s = (r, s')) :
  WF B tab (.func 79) ([] ++ ([.agg [.ptr ⟨false, p, 0⟩]] ++ [])) H fun v H' => ∃ r' X, v = .agg (rowC r') ∧ stripR r' = r ∧ shI r' ∧ (∀ f, f ∈ r' → f.wf) ∧ (∀ f, f ∈ r' → f.at B X) ∧ RdAt B true H' p s' Y (X ++ R) := by
 obtain ⟨xa, s1, e1⟩ : ∃ x y, textS 80 s = (x, y) := ⟨_, _, rfl⟩
 obtain ⟨xb, s2, e2⟩ : ∃ x y, textS 80 s1 = (x, y) := ⟨_, _, rfl⟩
 obtain ⟨xc, s3, e3⟩ : ∃ x y, flagS s2 = (x, y) := ⟨_, _, rfl⟩
 obtain ⟨xd, s4, e4⟩ : ∃ x y, numS 18446744073709551615 s3 = (x, y) := ⟨_, _, rfl⟩
 obtain ⟨xe, s5, e5⟩ : ∃ x y, numS 18446744073709551615 s4 = (x, y) := ⟨_, _, rfl⟩
 simp only [kI, rdR, rdF, e1, e2, e3, e4, e5, Prod.mk.injEq] at e
 obtain ⟨rfl, rfl⟩ := e
 refine WF.lessP ?_
 refine WF.fn g79 rfl ?_
 refine WC.seq (WC.reg ?_)
 repeat' (first
  | apply WOps.nil | (apply WOps.alc; rfl; intro _) | (apply WOps.bx; rfl; rfl; (· repeat' (first | rfl | assumption | apply ac1)); intro _))
 rename_i p1 p2
 have b0 := (h.cons (x := (p1, .row [.ptr ⟨false, p, 0⟩]))).cons (x := (p2, .row [.str [], .str [], .bool false, .int .u64 (.ofNat 0), .int .u64 (.ofNat 0)]))
 refine WC.seq (WC.reg ?_)
 repeat' (first
  | apply WOps.nil | (apply WOps.ldG; rfl; rfl; (first | exact ld0 rfl | exact ld1 rfl | exact ld2 rfl); rfl) | (apply WOps.st; rfl; rfl; (first | exact tk0 | exact tk1 | exact tk2); rfl; (· repeat' (first | rfl | assumption | apply ac1)); rfl) | (apply WOps.alc; rfl; intro _) | (apply WOps.clA; rfl; rfl; exact short68_ok b0 e1; rintro _ H1 ⟨rfl, g1⟩) | (apply WOps.purG; rfl; (intro _; rfl)))
 rename_i p3
 have h1 := g1.cons (x := (p3, .row [.str xa, .str [], .bool false, .int .u64 (.ofNat 0), .int .u64 (.ofNat 0)]))
 refine WC.seq (WC.reg ?_)
 repeat' (first
  | apply WOps.nil | (apply WOps.ldG; rfl; rfl; exact h1.ld (by first | exact Ld.cons (Ld.cons (Ld.own Tk.head rfl)) | exact Ld.cons (Ld.right (Ld.cons (Ld.own Tk.head rfl)))); rfl) | (apply WOps.clA; rfl; rfl; exact short68_ok h1 e2; rintro _ H2 ⟨rfl, g2⟩; obtain ⟨Z2, u2, f2⟩ := g2.st Tk.head) | (apply WOps.st; rfl; rfl; exact u2; rfl; exact allCell_cons rfl allCell_nil; rfl) | (apply WOps.purG; rfl; (intro _; rfl)))
 have h2 := f2 [.str xa, .str xb, .bool false, .int .u64 (.ofNat 0), .int .u64 (.ofNat 0)]
 refine WC.seq (WC.reg ?_)
 repeat' (first
  | apply WOps.nil | (apply WOps.ldG; rfl; rfl; exact h2.ld (by first | exact Ld.cons (Ld.cons (Ld.own Tk.head rfl)) | exact Ld.cons (Ld.right (Ld.cons (Ld.own Tk.head rfl)))); rfl) | (apply WOps.clA; rfl; rfl; exact flagT h2 e3; rintro _ H3 ⟨rfl, g3⟩; obtain ⟨Z3, u3, f3⟩ := g3.st Tk.head) | (apply WOps.st; rfl; rfl; exact u3; rfl; exact allCell_cons rfl allCell_nil; rfl) | (apply WOps.purG; rfl; (intro _; rfl)))
 have h3 := f3 [.str xa, .str xb, .bool xc, .int .u64 (.ofNat 0), .int .u64 (.ofNat 0)]
 refine WC.seq (WC.reg ?_)
 repeat' (first
  | apply WOps.nil | (apply WOps.ldG; rfl; rfl; exact h3.ld (by first | exact Ld.cons (Ld.cons (Ld.own Tk.head rfl)) | exact Ld.cons (Ld.right (Ld.cons (Ld.own Tk.head rfl)))); rfl) | (apply WOps.clA; rfl; rfl; exact ends69_ok h3 e4 e5 rfl rfl; intro _ H5 h5) | (apply WOps.purG; rfl; (intro _; rfl)))
 have q4 := num_le h3 e4
 have q4 := (num_le (k := true) h3 e4); have q5 := numS_ok (most := 18446744073709551615) (s := s4) (by have := numS_ok (most := 18446744073709551615) h3.ok; rw [e4] at this; exact this.1)
 rw [e5] at q5
 obtain ⟨Zl, ul, fl⟩ := h5.st (q := p2) (cs := [.str [], .str [], .bool false, .int .u64 (.ofNat 0), .int .u64 (.ofNat 0)]) (R' := (p3, .row [.str xa, .str xb, .bool xc, .int .u64 (.ofNat xd), .int .u64 (.ofNat xe)]) :: ((p1, .row [.ptr ⟨false, p, 0⟩]) :: R)) (permF (by intro f; simp only [AV.cells, pm] <;> omega))
 have fz := fl [.str xa, .str xb, .bool xc, .int .u64 (.ofNat xd), .int .u64 (.ofNat xe)]
 refine WC.seq (WC.reg ?_)
 repeat' (first
  | apply WOps.nil | apply WC.ret | (apply WOps.ldG; rfl; rfl; exact h5.ld (Ld.own Tk.head rfl); rfl) | (apply WOps.st; rfl; rfl; exact ul; rfl; ((repeat' (first | exact ac0 | apply ac1)) <;> (first | rfl | assumption)); rfl))
 obtain ⟨Hz, bz, sz⟩ := fz.less (R1 := R) (subF (by intro f; simp only [AV.cells, pm] <;> omega))
 exact ⟨trivial, [_], ⟨_, _, rfl, ⟨_, _, rfl, Ld.own Tk.head rfl, rfl⟩, rfl⟩, Hz, ⟨[.txt xa, .txt xb, .flg xc, .num xd, .num xe], [], rfl, rfl, ⟨_, _, _, _, _, rfl⟩, (by simp only [List.mem_cons, List.not_mem_nil, or_false, forall_eq_or_imp, forall_eq, Fd.wf]; repeat' (first | exact trivial | omega | apply And.intro)), (by simp only [List.mem_cons, List.not_mem_nil, or_false, forall_eq_or_imp, forall_eq, Fd.at]; repeat' (first | exact trivial | apply And.intro)), bz⟩, sz⟩
set_option maxHeartbeats 2000000 in
theorem read82_ok {H Y R : HL} {p : Nat} {s s' : St} {r : List Fd} (h : RdAt B true H p s Y R) (e : rdR kE s = (r, s')) :
  WF B tab (.func 82) ([] ++ ([.agg [.ptr ⟨false, p, 0⟩]] ++ [])) H fun v H' => ∃ r' X, v = .agg (rowC r') ∧ stripR r' = r ∧ shE r' ∧ (∀ f, f ∈ r' → f.wf) ∧ (∀ f, f ∈ r' → f.at B X) ∧ RdAt B true H' p s' Y (X ++ R) := by
 obtain ⟨xa, s1, e1⟩ : ∃ x y, textS 80 s = (x, y) := ⟨_, _, rfl⟩
 obtain ⟨xb, s2, e2⟩ : ∃ x y, textS 80 s1 = (x, y) := ⟨_, _, rfl⟩
 obtain ⟨xc, s3, e3⟩ : ∃ x y, numS 18446744073709551615 s2 = (x, y) := ⟨_, _, rfl⟩
 obtain ⟨xd, s4, e4⟩ : ∃ x y, numS 18446744073709551615 s3 = (x, y) := ⟨_, _, rfl⟩
 obtain ⟨xe, s5, e5⟩ : ∃ x y, numS 18446744073709551615 s4 = (x, y) := ⟨_, _, rfl⟩
 obtain ⟨xf, s6, e6⟩ : ∃ x y, numS 18446744073709551615 s5 = (x, y) := ⟨_, _, rfl⟩
 simp only [kE, rdR, rdF, e1, e2, e3, e4, e5, e6, Prod.mk.injEq] at e
 obtain ⟨rfl, rfl⟩ := e
 refine WF.lessP ?_
 refine WF.fn g82 rfl ?_
 refine WC.seq (WC.reg ?_)
 repeat' (first
  | apply WOps.nil | (apply WOps.alc; rfl; intro _) | (apply WOps.bx; rfl; rfl; (· repeat' (first | rfl | assumption | apply ac1)); intro _))
 rename_i p1 p2
 have b0 := (h.cons (x := (p1, .row [.ptr ⟨false, p, 0⟩]))).cons (x := (p2, .row [.str [], .str [], .int .u64 (.ofNat 0), .int .u64 (.ofNat 0), .int .u64 (.ofNat 0), .int .u64 (.ofNat 0)]))
 refine WC.seq (WC.reg ?_)
 repeat' (first
  | apply WOps.nil | (apply WOps.ldG; rfl; rfl; (first | exact ld0 rfl | exact ld1 rfl | exact ld2 rfl); rfl) | (apply WOps.st; rfl; rfl; (first | exact tk0 | exact tk1 | exact tk2); rfl; (· repeat' (first | rfl | assumption | apply ac1)); rfl) | (apply WOps.alc; rfl; intro _) | (apply WOps.clA; rfl; rfl; exact short68_ok b0 e1; rintro _ H1 ⟨rfl, g1⟩) | (apply WOps.purG; rfl; (intro _; rfl)))
 rename_i p3
 have h1 := g1.cons (x := (p3, .row [.str xa, .str [], .int .u64 (.ofNat 0), .int .u64 (.ofNat 0), .int .u64 (.ofNat 0), .int .u64 (.ofNat 0)]))
 refine WC.seq (WC.reg ?_)
 repeat' (first
  | apply WOps.nil | (apply WOps.ldG; rfl; rfl; exact h1.ld (by first | exact Ld.cons (Ld.cons (Ld.own Tk.head rfl)) | exact Ld.cons (Ld.right (Ld.cons (Ld.own Tk.head rfl)))); rfl) | (apply WOps.clA; rfl; rfl; exact short68_ok h1 e2; rintro _ H2 ⟨rfl, g2⟩; obtain ⟨Z2, u2, f2⟩ := g2.st Tk.head) | (apply WOps.st; rfl; rfl; exact u2; rfl; exact allCell_cons rfl allCell_nil; rfl) | (apply WOps.purG; rfl; (intro _; rfl)))
 have h2 := f2 [.str xa, .str xb, .int .u64 (.ofNat 0), .int .u64 (.ofNat 0), .int .u64 (.ofNat 0), .int .u64 (.ofNat 0)]
 have q3 := num_le h2 e3
 refine WC.seq (WC.reg ?_)
 repeat' (first
  | apply WOps.nil | (apply WOps.ldG; rfl; rfl; exact h2.ld (by first | exact Ld.cons (Ld.cons (Ld.own Tk.head rfl)) | exact Ld.cons (Ld.right (Ld.cons (Ld.own Tk.head rfl)))); rfl) | (apply WOps.clA; rfl; rfl; exact long41_ok h2 e3; rintro _ H3 ⟨rfl, g3⟩; obtain ⟨Z3, u3, f3⟩ := g3.st Tk.head) | (apply WOps.st; rfl; rfl; exact u3; rfl; exact allCell_cons rfl allCell_nil; rfl) | (apply WOps.purG; rfl; (intro _; rfl)))
 have h3 := f3 [.str xa, .str xb, .int .u64 (.ofNat xc), .int .u64 (.ofNat 0), .int .u64 (.ofNat 0), .int .u64 (.ofNat 0)]
 have q4 := num_le h3 e4
 refine WC.seq (WC.reg ?_)
 repeat' (first
  | apply WOps.nil | (apply WOps.ldG; rfl; rfl; exact h3.ld (by first | exact Ld.cons (Ld.cons (Ld.own Tk.head rfl)) | exact Ld.cons (Ld.right (Ld.cons (Ld.own Tk.head rfl)))); rfl) | (apply WOps.clA; rfl; rfl; exact long41_ok h3 e4; rintro _ H4 ⟨rfl, g4⟩; obtain ⟨Z4, u4, f4⟩ := g4.st Tk.head) | (apply WOps.st; rfl; rfl; exact u4; rfl; exact allCell_cons rfl allCell_nil; rfl) | (apply WOps.purG; rfl; (intro _; rfl)))
 have h4 := f4 [.str xa, .str xb, .int .u64 (.ofNat xc), .int .u64 (.ofNat xd), .int .u64 (.ofNat 0), .int .u64 (.ofNat 0)]
 refine WC.seq (WC.reg ?_)
 repeat' (first
  | apply WOps.nil | (apply WOps.ldG; rfl; rfl; exact h4.ld (by first | exact Ld.cons (Ld.cons (Ld.own Tk.head rfl)) | exact Ld.cons (Ld.right (Ld.cons (Ld.own Tk.head rfl)))); rfl) | (apply WOps.clA; rfl; rfl; exact ends69_ok h4 e5 e6 rfl rfl; intro _ H6 h6) | (apply WOps.purG; rfl; (intro _; rfl)))
 have q5 := num_le h4 e5
 have q5 := (num_le (k := true) h4 e5); have q6 := numS_ok (most := 18446744073709551615) (s := s5) (by have := numS_ok (most := 18446744073709551615) h4.ok; rw [e5] at this; exact this.1)
 rw [e6] at q6
 obtain ⟨Zl, ul, fl⟩ := h6.st (q := p2) (cs := [.str [], .str [], .int .u64 (.ofNat 0), .int .u64 (.ofNat 0), .int .u64 (.ofNat 0), .int .u64 (.ofNat 0)]) (R' := (p3, .row [.str xa, .str xb, .int .u64 (.ofNat xc), .int .u64 (.ofNat xd), .int .u64 (.ofNat xe), .int .u64 (.ofNat xf)]) :: ((p1, .row [.ptr ⟨false, p, 0⟩]) :: R)) (permF (by intro f; simp only [AV.cells, pm] <;> omega))
 have fz := fl [.str xa, .str xb, .int .u64 (.ofNat xc), .int .u64 (.ofNat xd), .int .u64 (.ofNat xe), .int .u64 (.ofNat xf)]
 refine WC.seq (WC.reg ?_)
 repeat' (first
  | apply WOps.nil | apply WC.ret | (apply WOps.ldG; rfl; rfl; exact h6.ld (Ld.own Tk.head rfl); rfl) | (apply WOps.st; rfl; rfl; exact ul; rfl; ((repeat' (first | exact ac0 | apply ac1)) <;> (first | rfl | assumption)); rfl))
 obtain ⟨Hz, bz, sz⟩ := fz.less (R1 := R) (subF (by intro f; simp only [AV.cells, pm] <;> omega))
 exact ⟨trivial, [_], ⟨_, _, rfl, ⟨_, _, rfl, Ld.own Tk.head rfl, rfl⟩, rfl⟩, Hz, ⟨[.txt xa, .txt xb, .num xc, .num xd, .num xe, .num xf], [], rfl, rfl, ⟨_, _, _, _, _, _, rfl⟩, (by simp only [List.mem_cons, List.not_mem_nil, or_false, forall_eq_or_imp, forall_eq, Fd.wf]; repeat' (first | exact trivial | omega | apply And.intro)), (by simp only [List.mem_cons, List.not_mem_nil, or_false, forall_eq_or_imp, forall_eq, Fd.at]; repeat' (first | exact trivial | apply And.intro)), bz⟩, sz⟩
set_option maxHeartbeats 2000000 in
theorem read84_ok {H Y R : HL} {p : Nat} {s s' : St} {r : List Fd} (h : RdAt B true H p s Y R) (e : rdR kL s = (r, s')) :
  WF B tab (.func 84) ([] ++ ([.agg [.ptr ⟨false, p, 0⟩]] ++ [])) H fun v H' => ∃ r' X, v = .agg (rowC r') ∧ stripR r' = r ∧ shL r' ∧ (∀ f, f ∈ r' → f.wf) ∧ (∀ f, f ∈ r' → f.at B X) ∧ RdAt B true H' p s' Y (X ++ R) := by
 obtain ⟨xa, s1, e1⟩ : ∃ x y, numS 18446744073709551615 s = (x, y) := ⟨_, _, rfl⟩
 obtain ⟨xb, s2, e2⟩ : ∃ x y, numS 255 s1 = (x, y) := ⟨_, _, rfl⟩
 obtain ⟨xc, s3, e3⟩ : ∃ x y, numS 18446744073709551615 s2 = (x, y) := ⟨_, _, rfl⟩
 obtain ⟨xd, s4, e4⟩ : ∃ x y, numS 18446744073709551615 s3 = (x, y) := ⟨_, _, rfl⟩
 simp only [kL, rdR, rdF, e1, e2, e3, e4, Prod.mk.injEq] at e
 obtain ⟨rfl, rfl⟩ := e
 refine WF.lessP ?_
 refine WF.fn g84 rfl ?_
 refine WC.seq (WC.reg ?_)
 repeat' (first
  | apply WOps.nil | (apply WOps.alc; rfl; intro _) | (apply WOps.bx; rfl; rfl; (· repeat' (first | rfl | assumption | apply ac1)); intro _))
 rename_i p1 p2
 have b0 := (h.cons (x := (p1, .row [.ptr ⟨false, p, 0⟩]))).cons (x := (p2, .row [.int .u64 (.ofNat 0), .int .i64 (.ofNat 0), .int .u64 (.ofNat 0), .int .u64 (.ofNat 0)]))
 have q1 := num_le b0 e1
 refine WC.seq (WC.reg ?_)
 repeat' (first
  | apply WOps.nil | (apply WOps.ldG; rfl; rfl; (first | exact ld0 rfl | exact ld1 rfl | exact ld2 rfl); rfl) | (apply WOps.st; rfl; rfl; (first | exact tk0 | exact tk1 | exact tk2); rfl; (· repeat' (first | rfl | assumption | apply ac1)); rfl) | (apply WOps.alc; rfl; intro _) | (apply WOps.clA; rfl; rfl; exact long41_ok b0 e1; rintro _ H1 ⟨rfl, g1⟩) | (apply WOps.purG; rfl; (intro _; rfl)))
 rename_i p3
 have h1 := g1.cons (x := (p3, .row [.int .u64 (.ofNat xa), .int .i64 (.ofNat 0), .int .u64 (.ofNat 0), .int .u64 (.ofNat 0)]))
 have q2 := num_le h1 e2
 refine WC.seq (WC.reg ?_)
 repeat' (first
  | apply WOps.nil | (apply WOps.ldG; rfl; rfl; exact h1.ld (by first | exact Ld.cons (Ld.cons (Ld.own Tk.head rfl)) | exact Ld.cons (Ld.right (Ld.cons (Ld.own Tk.head rfl)))); rfl) | (apply WOps.clA; rfl; rfl; exact small67_ok h1 e2; rintro _ H2 ⟨rfl, g2⟩; obtain ⟨Z2, u2, f2⟩ := g2.st Tk.head) | (apply WOps.st; rfl; rfl; exact u2; rfl; exact allCell_cons rfl allCell_nil; rfl) | (apply WOps.purG; rfl; (intro _; rfl)))
 have h2 := f2 [.int .u64 (.ofNat xa), .int .i64 (.ofNat xb), .int .u64 (.ofNat 0), .int .u64 (.ofNat 0)]
 refine WC.seq (WC.reg ?_)
 repeat' (first
  | apply WOps.nil | (apply WOps.ldG; rfl; rfl; exact h2.ld (by first | exact Ld.cons (Ld.cons (Ld.own Tk.head rfl)) | exact Ld.cons (Ld.right (Ld.cons (Ld.own Tk.head rfl)))); rfl) | (apply WOps.clA; rfl; rfl; exact ends69_ok h2 e3 e4 rfl rfl; intro _ H4 h4) | (apply WOps.purG; rfl; (intro _; rfl)))
 have q3 := num_le h2 e3
 have q3 := (num_le (k := true) h2 e3); have q4 := numS_ok (most := 18446744073709551615) (s := s3) (by have := numS_ok (most := 18446744073709551615) h2.ok; rw [e3] at this; exact this.1)
 rw [e4] at q4
 obtain ⟨Zl, ul, fl⟩ := h4.st (q := p2) (cs := [.int .u64 (.ofNat 0), .int .i64 (.ofNat 0), .int .u64 (.ofNat 0), .int .u64 (.ofNat 0)]) (R' := (p3, .row [.int .u64 (.ofNat xa), .int .i64 (.ofNat xb), .int .u64 (.ofNat xc), .int .u64 (.ofNat xd)]) :: ((p1, .row [.ptr ⟨false, p, 0⟩]) :: R)) (permF (by intro f; simp only [AV.cells, pm] <;> omega))
 have fz := fl [.int .u64 (.ofNat xa), .int .i64 (.ofNat xb), .int .u64 (.ofNat xc), .int .u64 (.ofNat xd)]
 refine WC.seq (WC.reg ?_)
 repeat' (first
  | apply WOps.nil | apply WC.ret | (apply WOps.ldG; rfl; rfl; exact h4.ld (Ld.own Tk.head rfl); rfl) | (apply WOps.st; rfl; rfl; exact ul; rfl; ((repeat' (first | exact ac0 | apply ac1)) <;> (first | rfl | assumption)); rfl))
 obtain ⟨Hz, bz, sz⟩ := fz.less (R1 := R) (subF (by intro f; simp only [AV.cells, pm] <;> omega))
 exact ⟨trivial, [_], ⟨_, _, rfl, ⟨_, _, rfl, Ld.own Tk.head rfl, rfl⟩, rfl⟩, Hz, ⟨[.num xa, .int (.ofNat xb) 255, .num xc, .num xd], [], rfl, rfl, ⟨_, _, _, _, rfl⟩, (by simp only [List.mem_cons, List.not_mem_nil, or_false, forall_eq_or_imp, forall_eq, Fd.wf]; repeat' (first | exact trivial | omega | apply And.intro)), (by simp only [List.mem_cons, List.not_mem_nil, or_false, forall_eq_or_imp, forall_eq, Fd.at]; repeat' (first | exact trivial | apply And.intro)), bz⟩, sz⟩
set_option maxHeartbeats 2000000 in
theorem read86_ok {H Y R : HL} {p : Nat} {s s' : St} {r : List Fd} (h : RdAt B true H p s Y R) (e : rdR kQ s = (r, s')) :
  WF B tab (.func 86) ([] ++ ([.agg [.ptr ⟨false, p, 0⟩]] ++ [])) H fun v H' => ∃ r' X, v = .agg (rowC r') ∧ stripR r' = r ∧ shQ r' ∧ (∀ f, f ∈ r' → f.wf) ∧ (∀ f, f ∈ r' → f.at B X) ∧ RdAt B true H' p s' Y (X ++ R) := by
 obtain ⟨xa, s1, e1⟩ : ∃ x y, numS 255 s = (x, y) := ⟨_, _, rfl⟩
 obtain ⟨xb, s2, e2⟩ : ∃ x y, numS 4294967295 s1 = (x, y) := ⟨_, _, rfl⟩
 obtain ⟨xc, s3, e3⟩ : ∃ x y, numS 18446744073709551615 s2 = (x, y) := ⟨_, _, rfl⟩
 simp only [kQ, rdR, rdF, e1, e2, e3, Prod.mk.injEq] at e
 obtain ⟨rfl, rfl⟩ := e
 refine WF.lessP ?_
 refine WF.fn g86 rfl ?_
 refine WC.seq (WC.reg ?_)
 repeat' (first
  | apply WOps.nil | (apply WOps.alc; rfl; intro _) | (apply WOps.bx; rfl; rfl; (· repeat' (first | rfl | assumption | apply ac1)); intro _))
 rename_i p1 p2
 have b0 := (h.cons (x := (p1, .row [.ptr ⟨false, p, 0⟩]))).cons (x := (p2, .row [.int .i64 (.ofNat 0), .int .u32 (.ofNat 0), .int .u64 (.ofNat 0)]))
 refine WC.seq (WC.reg ?_)
 repeat' (first
  | apply WOps.nil | (apply WOps.ldG; rfl; rfl; (first | exact ld0 rfl | exact ld1 rfl | exact ld2 rfl); rfl) | (apply WOps.purG; rfl; (intro _; rfl)))
 have q1 := num_le b0 e1
 refine WC.seq (WC.reg ?_)
 repeat' (first
  | apply WOps.nil | (apply WOps.ldG; rfl; rfl; (first | exact ld0 rfl | exact ld1 rfl | exact ld2 rfl); rfl) | (apply WOps.st; rfl; rfl; (first | exact tk0 | exact tk1 | exact tk2); rfl; (· repeat' (first | rfl | assumption | apply ac1)); rfl) | (apply WOps.alc; rfl; intro _) | (apply WOps.clA; rfl; rfl; exact small67_ok b0 e1; rintro _ H1 ⟨rfl, g1⟩) | (apply WOps.purG; rfl; (intro _; rfl)))
 rename_i p3
 have h1 := g1.cons (x := (p3, .row [.int .i64 (.ofNat xa), .int .u32 (.ofNat 0), .int .u64 (.ofNat 0)]))
 have q2 := num_le h1 e2
 refine WC.seq (WC.reg ?_)
 repeat' (first
  | apply WOps.nil | (apply WOps.cvA; rfl; rfl; rfl; exact numT h1 e2; rintro _ H2 ⟨rfl, g2⟩; obtain ⟨Z2, u2, f2⟩ := g2.st Tk.head) | (apply WOps.st; rfl; rfl; exact u2; rfl; exact allCell_cons rfl allCell_nil; rfl) | (apply WOps.cv32; rfl; rfl; omega) | (apply WOps.purG; rfl; (intro _; rfl)))
 have h2 := f2 [.int .i64 (.ofNat xa), .int .u32 (.ofNat xb), .int .u64 (.ofNat 0)]
 have q3 := num_le h2 e3
 refine WC.seq (WC.reg ?_)
 repeat' (first
  | apply WOps.nil | (apply WOps.ldG; rfl; rfl; exact h2.ld (by first | exact Ld.cons (Ld.cons (Ld.own Tk.head rfl)) | exact Ld.cons (Ld.right (Ld.cons (Ld.own Tk.head rfl)))); rfl) | (apply WOps.clA; rfl; rfl; exact long41_ok h2 e3; rintro _ H3 ⟨rfl, g3⟩; obtain ⟨Z3, u3, f3⟩ := g3.st Tk.head) | (apply WOps.st; rfl; rfl; exact u3; rfl; exact allCell_cons rfl allCell_nil; rfl) | (apply WOps.purG; rfl; (intro _; rfl)))
 have h3 := f3 [.int .i64 (.ofNat xa), .int .u32 (.ofNat xb), .int .u64 (.ofNat xc)]
 obtain ⟨Zl, ul, fl⟩ := h3.st (q := p2) (cs := [.int .i64 (.ofNat 0), .int .u32 (.ofNat 0), .int .u64 (.ofNat 0)]) (R' := (p3, .row [.int .i64 (.ofNat xa), .int .u32 (.ofNat xb), .int .u64 (.ofNat xc)]) :: ((p1, .row [.ptr ⟨false, p, 0⟩]) :: R)) (permF (by intro f; simp only [AV.cells, pm] <;> omega))
 have fz := fl [.int .i64 (.ofNat xa), .int .u32 (.ofNat xb), .int .u64 (.ofNat xc)]
 refine WC.seq (WC.reg ?_)
 repeat' (first
  | apply WOps.nil | apply WC.ret | (apply WOps.ldG; rfl; rfl; (first | exact ld0 rfl | exact ld1 rfl | exact ld2 rfl); rfl) | (apply WOps.st; rfl; rfl; exact ul; rfl; ((repeat' (first | exact ac0 | apply ac1)) <;> (first | rfl | assumption)); rfl))
 obtain ⟨Hz, bz, sz⟩ := fz.less (R1 := R) (subF (by intro f; simp only [AV.cells, pm] <;> omega))
 exact ⟨trivial, [_], ⟨_, _, rfl, ⟨_, _, rfl, Ld.own Tk.head rfl, rfl⟩, rfl⟩, Hz, ⟨[.int (.ofNat xa) 255, .u32 xb, .num xc], [], rfl, rfl, ⟨_, _, _, rfl⟩, (by simp only [List.mem_cons, List.not_mem_nil, or_false, forall_eq_or_imp, forall_eq, Fd.wf]; repeat' (first | exact trivial | omega | apply And.intro)), (by simp only [List.mem_cons, List.not_mem_nil, or_false, forall_eq_or_imp, forall_eq, Fd.at]; repeat' (first | exact trivial | apply And.intro)), bz⟩, sz⟩
end Go.Proofs.Ytdcbglljljfleaa.DU
