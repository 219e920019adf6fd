/- What the functions do, shown by the logic. -/
import Derived.Test.YtdcbglljljfleaaDuD
set_option linter.unusedSimpArgs false
set_option linter.unusedVariables false
set_option linter.unusedSectionVars false
set_option maxRecDepth 20000
namespace Go.Proofs.Ytdcbglljljfleaa.DU
open Go.Proofs.Ytdcbglljljfleaa.Abs
variable {B : Nat → List AV}
/-! ### A dump is read -/
def zD : DD := ⟨0, .nilsl, .nilsl, .nilsl, .nilsl, .nilsl, .nilsl, 0, 0, 0, 0, 0, 0, .nilsl, [], [], [], [], [], [], []⟩
def getS (bs : List Nat) : DD × St :=
 let a := numS 18446744073709551615 (bs, 0)
 let n := rowsS kN a.2
 let s := rowsS kS n.2
 let c := rowsS kC s.2
 let i := rowsS kI c.2
 let e := rowsS kE i.2
 let l := rowsS kL e.2
 let a0 := numS 18446744073709551615 l.2
 let a1 := numS 18446744073709551615 a0.2
 let a2 := numS 18446744073709551615 a1.2
 let a3 := numS 18446744073709551615 a2.2
 let a4 := numS 18446744073709551615 a3.2
 let a5 := numS 18446744073709551615 a4.2
 let q := rowsS kQ a5.2
 (⟨a.1, .nilsl, .nilsl, .nilsl, .nilsl, .nilsl, .nilsl, a0.1, a1.1, a2.1, a3.1, a4.1, a5.1, .nilsl, n.1, s.1, c.1, i.1, e.1, l.1, q.1⟩, q.2)
def getD (bs : List Nat) : DD × Nat := if doneS (getS bs).2 = 0 then ((getS bs).1, 0) else (zD, doneS (getS bs).2)
def stripD (d : DD) : DD := ⟨d.ix, .nilsl, .nilsl, .nilsl, .nilsl, .nilsl, .nilsl, d.l0, d.l1, d.l2, d.l3, d.l4, d.l5, .nilsl, d.n.map stripR, d.s.map stripR, d.c.map stripR, d.i.map stripR, d.e.map stripR, d.l.map stripR, d.q.map stripR⟩
theorem RdAt.subP {k : Bool} {H Y R : HL} {p : Nat} {s : St} (h : RdAt B k H p s Y R) : SubP R H := by
 obtain ⟨v, _, _, r⟩ := h
 exact ⟨(p, .row (rrow k v s.2)) :: Y, r.trans (permF (by intro f; simp only [AV.cells, pm] <;> omega))⟩
theorem lat_nil {H : HL} {w : Nat} {sh : List Fd → Prop} : LAt B H .nilsl w sh [] := ⟨.inl ⟨rfl, rfl⟩, fun r hr => (by cases hr), by simp⟩
theorem zD_at {H : HL} : DdAt B H zD := ⟨lat_nil, lat_nil, lat_nil, lat_nil, lat_nil, lat_nil, lat_nil, by simp [zD]⟩
theorem Fd.at_left {H X : HL} {f : Fd} (h : f.at B H) : f.at B (H ++ X) := by
 cases f <;> first | trivial | exact SlIs.left h
theorem LAt.left {H X : HL} {v : AV} {w : Nat} {sh : List Fd → Prop} {l : List (List Fd)} (h : LAt B H v w sh l) : LAt B (H ++ X) v w sh l := ⟨SlIs.left h.sl, fun r hr => ⟨(h.ok r hr).1, (h.ok r hr).2.1, fun f hf => Fd.at_left ((h.ok r hr).2.2 f hf)⟩, h.len⟩
set_option maxHeartbeats 8000000 in
theorem get12_ok {R : HL} {u : AV} {bs : List Nat} (sr : SrcIs B R u 1 bs.length (cellsOfStr bs)) (hb : byL bs) (hl : bs.length ≤ 140737488355328) :
  WF B tab (.func 12) [u] R fun r H' => ∃ d X, r = .tup [.agg (dumpC d), .int .i64 (.ofNat (getD bs).2)] ∧ DdAt B X d ∧ stripD d = (getD bs).1 ∧ H' = X ++ R := by
 obtain ⟨ix, s1, e1⟩ : ∃ x y, numS 18446744073709551615 (bs, 0) = (x, y) := ⟨_, _, rfl⟩
 obtain ⟨rn, s2, e2⟩ : ∃ x y, rowsS kN s1 = (x, y) := ⟨_, _, rfl⟩
 obtain ⟨rs, s3, e3⟩ : ∃ x y, rowsS kS s2 = (x, y) := ⟨_, _, rfl⟩
 obtain ⟨rc, s4, e4⟩ : ∃ x y, rowsS kC s3 = (x, y) := ⟨_, _, rfl⟩
 obtain ⟨ri, s5, e5⟩ : ∃ x y, rowsS kI s4 = (x, y) := ⟨_, _, rfl⟩
 obtain ⟨re, s6, e6⟩ : ∃ x y, rowsS kE s5 = (x, y) := ⟨_, _, rfl⟩
 obtain ⟨rl, s7, e7⟩ : ∃ x y, rowsS kL s6 = (x, y) := ⟨_, _, rfl⟩
 obtain ⟨l0, s8, e8⟩ : ∃ x y, numS 18446744073709551615 s7 = (x, y) := ⟨_, _, rfl⟩
 obtain ⟨l1, s9, e9⟩ : ∃ x y, numS 18446744073709551615 s8 = (x, y) := ⟨_, _, rfl⟩
 obtain ⟨l2, s10, e10⟩ : ∃ x y, numS 18446744073709551615 s9 = (x, y) := ⟨_, _, rfl⟩
 obtain ⟨l3, s11, e11⟩ : ∃ x y, numS 18446744073709551615 s10 = (x, y) := ⟨_, _, rfl⟩
 obtain ⟨l4, s12, e12⟩ : ∃ x y, numS 18446744073709551615 s11 = (x, y) := ⟨_, _, rfl⟩
 obtain ⟨l5, s13, e13⟩ : ∃ x y, numS 18446744073709551615 s12 = (x, y) := ⟨_, _, rfl⟩
 obtain ⟨rq, s14, e14⟩ : ∃ x y, rowsS kQ s13 = (x, y) := ⟨_, _, rfl⟩
 have eg : getS bs = (⟨ix, .nilsl, .nilsl, .nilsl, .nilsl, .nilsl, .nilsl, l0, l1, l2, l3, l4, l5, .nilsl, rn, rs, rc, ri, re, rl, rq⟩, s14) := by simp only [getS, e1, e2, e3, e4, e5, e6, e7, e8, e9, e10, e11, e12, e13, e14]
 refine WF.lessP ?_
 refine WF.fn g12 rfl ?_
 refine WC.seq (WC.reg ?_)
 repeat' (first
  | apply WOps.nil | (apply WOps.alc; rfl; intro _) | (apply WOps.purG; rfl; (intro _; rfl)))
 rename_i p2
 refine WC.seq (WC.reg ?_)
 repeat' (first
  | apply WOps.nil | (apply WOps.st; rfl; rfl; (first | exact tk0 | exact tk1 | exact tk2); rfl; (· repeat' (first | rfl | assumption | apply ac1)); rfl) | (apply WOps.alc; rfl; intro _) | (apply WOps.clA; rfl; rfl; exact read40_ok (src_cons sr) hb hl; rintro _ H1 ⟨p, Y, rfl, g1⟩) | (apply WOps.purG; rfl; (intro _; rfl)))
 rename_i p4
 refine WC.seq (WC.reg ?_)
 repeat' (first
  | apply WOps.nil | (apply WOps.alc; rfl; intro _))
 rename_i p5
 have h0 := (g1.cons (x := (p4, .row [.ptr ⟨false, p, 0⟩]))).cons (x := (p5, .row [.int .u64 (.ofNat 0), .nilsl, .nilsl, .nilsl, .nilsl, .nilsl, .nilsl, .int .u64 (.ofNat 0), .int .u64 (.ofNat 0), .int .u64 (.ofNat 0), .int .u64 (.ofNat 0), .int .u64 (.ofNat 0), .int .u64 (.ofNat 0), .nilsl]))
 have q1 := num_le h0 e1
 refine WC.seq (WC.reg ?_)
 repeat' (first
  | apply WOps.nil | (apply WOps.ldG; rfl; rfl; (first | exact ld0 rfl | exact ld1 rfl | exact ld2 rfl); rfl) | (apply WOps.clA; rfl; rfl; exact long41_ok h0 e1; rintro _ H2 ⟨rfl, g2⟩; obtain ⟨Z1, u1, f1⟩ := g2.st Tk.head) | (apply WOps.st; rfl; rfl; exact u1; rfl; exact allCell_cons rfl allCell_nil; rfl) | (apply WOps.purG; rfl; (intro _; rfl)))
 have h1 := f1 [.int .u64 (.ofNat ix), .nilsl, .nilsl, .nilsl, .nilsl, .nilsl, .nilsl, .int .u64 (.ofNat 0), .int .u64 (.ofNat 0), .int .u64 (.ofNat 0), .int .u64 (.ofNat 0), .int .u64 (.ofNat 0), .int .u64 (.ofNat 0), .nilsl]
 refine WC.seq ?_
 repeat' (first
  | apply WC.dreg | apply WD.nil | (apply WD.clR; rfl; rfl; exact fn17_r; rintro _ rfl) | (apply WD.load; rfl; · repeat' (first | refine at1 ?_ rfl | apply at2 | exact same0 | refine same1 ?_ rfl | apply same2 | exact rd_ld rfl (h1.ld (Ld.cons (Ld.own Tk.head rfl))) rfl)) | (apply WD.clA; rfl; rfl; exact get42_ok h1 e2; rintro vn Jn ⟨tn, Xn, an, xn, gn⟩; obtain ⟨Zn, un, fn⟩ := gn.st tk_mid) | (apply WD.st; rfl; rfl; rfl; exact un; exact congrArg List.length (cells1 an.sl.cell); rw [cells1 an.sl.cell]; exact allCell_cons an.sl.cell allCell_nil; rw [cells1 an.sl.cell]; rfl) | (apply WD.pur; rfl; (intro _; rfl)))
 have hn := fn [.int .u64 (.ofNat ix), vn, .nilsl, .nilsl, .nilsl, .nilsl, .nilsl, .int .u64 (.ofNat 0), .int .u64 (.ofNat 0), .int .u64 (.ofNat 0), .int .u64 (.ofNat 0), .int .u64 (.ofNat 0), .int .u64 (.ofNat 0), .nilsl]
 have cn := an.sl.cell
 refine WC.seq ?_
 repeat' (first
  | apply WC.dreg | apply WD.nil | (apply WD.clR; rfl; rfl; exact fn19_r; rintro _ rfl) | (apply WD.load; rfl; · repeat' (first | refine at1 ?_ rfl | apply at2 | exact same0 | refine same1 ?_ rfl | apply same2 | exact rd_ld rfl (hn.ld (Ld.cons (Ld.right (Ld.own Tk.head rfl)))) rfl)) | (apply WD.clA; rfl; rfl; exact get43_ok hn e3; rintro vs Js ⟨ts, Xs, asx, xs, gs⟩; obtain ⟨Zs, us, fs⟩ := gs.st tk_mid) | (apply WD.st; rfl; rfl; rfl; exact us; exact congrArg List.length (cells1 asx.sl.cell); rw [cells1 asx.sl.cell]; exact allCell_cons asx.sl.cell allCell_nil; rw [cells1 asx.sl.cell]; rfl) | (apply WD.pur; rfl; (intro _; rfl)))
 have hs := fs [.int .u64 (.ofNat ix), vn, vs, .nilsl, .nilsl, .nilsl, .nilsl, .int .u64 (.ofNat 0), .int .u64 (.ofNat 0), .int .u64 (.ofNat 0), .int .u64 (.ofNat 0), .int .u64 (.ofNat 0), .int .u64 (.ofNat 0), .nilsl]
 have cs := asx.sl.cell
 refine WC.seq ?_
 repeat' (first
  | apply WC.dreg | apply WD.nil | (apply WD.clR; rfl; rfl; exact fn21_r; rintro _ rfl) | (apply WD.load; rfl; · repeat' (first | refine at1 ?_ rfl | apply at2 | exact same0 | refine same1 ?_ rfl | apply same2 | exact rd_ld rfl (hs.ld (Ld.cons (Ld.right (Ld.right (Ld.own Tk.head rfl))))) rfl)) | (apply WD.clA; rfl; rfl; exact get44_ok hs e4; rintro vc Jc ⟨tc, Xc, ac, xc, gc⟩; obtain ⟨Zc, uc, fc⟩ := gc.st tk_mid) | (apply WD.st; rfl; rfl; rfl; exact uc; exact congrArg List.length (cells1 ac.sl.cell); rw [cells1 ac.sl.cell]; exact allCell_cons ac.sl.cell allCell_nil; rw [cells1 ac.sl.cell]; rfl) | (apply WD.pur; rfl; (intro _; rfl)))
 have hc := fc [.int .u64 (.ofNat ix), vn, vs, vc, .nilsl, .nilsl, .nilsl, .int .u64 (.ofNat 0), .int .u64 (.ofNat 0), .int .u64 (.ofNat 0), .int .u64 (.ofNat 0), .int .u64 (.ofNat 0), .int .u64 (.ofNat 0), .nilsl]
 have cc := ac.sl.cell
 refine WC.seq ?_
 repeat' (first
  | apply WC.dreg | apply WD.nil | (apply WD.clR; rfl; rfl; exact fn23_r; rintro _ rfl) | (apply WD.load; rfl; · repeat' (first | refine at1 ?_ rfl | apply at2 | exact same0 | refine same1 ?_ rfl | apply same2 | exact rd_ld rfl (hc.ld (Ld.cons (Ld.right (Ld.right (Ld.right (Ld.own Tk.head rfl)))))) rfl)) | (apply WD.clA; rfl; rfl; exact get45_ok hc e5; rintro vi Ji ⟨ti, Xi, ai, xi, gi⟩; obtain ⟨Zi, ui, fi⟩ := gi.st tk_mid) | (apply WD.st; rfl; rfl; rfl; exact ui; exact congrArg List.length (cells1 ai.sl.cell); rw [cells1 ai.sl.cell]; exact allCell_cons ai.sl.cell allCell_nil; rw [cells1 ai.sl.cell]; rfl) | (apply WD.pur; rfl; (intro _; rfl)))
 have hi := fi [.int .u64 (.ofNat ix), vn, vs, vc, vi, .nilsl, .nilsl, .int .u64 (.ofNat 0), .int .u64 (.ofNat 0), .int .u64 (.ofNat 0), .int .u64 (.ofNat 0), .int .u64 (.ofNat 0), .int .u64 (.ofNat 0), .nilsl]
 have ci := ai.sl.cell
 refine WC.seq ?_
 repeat' (first
  | apply WC.dreg | apply WD.nil | (apply WD.clR; rfl; rfl; exact fn25_r; rintro _ rfl) | (apply WD.load; rfl; · repeat' (first | refine at1 ?_ rfl | apply at2 | exact same0 | refine same1 ?_ rfl | apply same2 | exact rd_ld rfl (hi.ld (Ld.cons (Ld.right (Ld.right (Ld.right (Ld.right (Ld.own Tk.head rfl))))))) rfl)) | (apply WD.clA; rfl; rfl; exact get46_ok hi e6; rintro ve Je ⟨te, Xe, ae, xe, ge⟩; obtain ⟨Ze, ue, fe⟩ := ge.st tk_mid) | (apply WD.st; rfl; rfl; rfl; exact ue; exact congrArg List.length (cells1 ae.sl.cell); rw [cells1 ae.sl.cell]; exact allCell_cons ae.sl.cell allCell_nil; rw [cells1 ae.sl.cell]; rfl) | (apply WD.pur; rfl; (intro _; rfl)))
 have he := fe [.int .u64 (.ofNat ix), vn, vs, vc, vi, ve, .nilsl, .int .u64 (.ofNat 0), .int .u64 (.ofNat 0), .int .u64 (.ofNat 0), .int .u64 (.ofNat 0), .int .u64 (.ofNat 0), .int .u64 (.ofNat 0), .nilsl]
 have ce := ae.sl.cell
 refine WC.seq ?_
 repeat' (first
  | apply WC.dreg | apply WD.nil | (apply WD.clR; rfl; rfl; exact fn27_r; rintro _ rfl) | (apply WD.load; rfl; · repeat' (first | refine at1 ?_ rfl | apply at2 | exact same0 | refine same1 ?_ rfl | apply same2 | exact rd_ld rfl (he.ld (Ld.cons (Ld.right (Ld.right (Ld.right (Ld.right (Ld.right (Ld.own Tk.head rfl)))))))) rfl)) | (apply WD.clA; rfl; rfl; exact get47_ok he e7; rintro vl Jl ⟨tl, Xl, al, xl, gl⟩; obtain ⟨Zl, ul, fl⟩ := gl.st tk_mid) | (apply WD.st; rfl; rfl; rfl; exact ul; exact congrArg List.length (cells1 al.sl.cell); rw [cells1 al.sl.cell]; exact allCell_cons al.sl.cell allCell_nil; rw [cells1 al.sl.cell]; rfl) | (apply WD.pur; rfl; (intro _; rfl)))
 have hl := fl [.int .u64 (.ofNat ix), vn, vs, vc, vi, ve, vl, .int .u64 (.ofNat 0), .int .u64 (.ofNat 0), .int .u64 (.ofNat 0), .int .u64 (.ofNat 0), .int .u64 (.ofNat 0), .int .u64 (.ofNat 0), .nilsl]
 have cl := al.sl.cell
 refine WC.seq (WC.seq (WC.reg ?_))
 repeat' (first
  | apply WOps.nil | apply WC.block | (apply WOps.purG; rfl; (intro _; rfl)))
 refine WC.loop ?_
 have q8 := num_le hl e8
 refine WL.le (t' := [(2, .ptr ⟨false, p2, 0⟩), (4, .ptr ⟨false, p4, 0⟩), (5, .ptr ⟨false, p5, 0⟩), (38, .int .i64 (.ofNat 0))]) (Sub1.cons rfl (Sub1.cons rfl (Sub1.cons rfl (Sub1.cons rfl Sub1.nil)))) ?_
 apply WL.step
 repeat' (first
  | apply WOps.nil | apply WC.seq | apply WC.reg | apply WC.skip | (apply WC.condT; rfl) | apply WC.block | (apply WOps.cT; rfl; rfl; rfl; rfl; focus (simp only [cmpP, Int.ofNat_eq_natCast, List.length_cons, List.length_map, List.length_nil, Classical.not_not, not_true_eq_false, not_false_eq_true]; first | done | omega | decide)) | (apply WOps.ldG; rfl; rfl; exact hl.ld (Ld.cons (Ld.right (Ld.right (Ld.right (Ld.right (Ld.right (Ld.right (Ld.own Tk.head rfl)))))))); rfl) | (apply WOps.clA; rfl; rfl; exact long41_ok hl e8; rintro _ H8 ⟨rfl, g8⟩; obtain ⟨Z8, u8, f8⟩ := g8.st Tk.head) | (apply WOps.ixA; rfl; rfl; omega) | (apply WOps.st; rfl; rfl; exact u8; rfl; exact allCell_cons rfl allCell_nil; rfl) | (apply WOps.addN; rfl; rfl; rfl; omega) | (apply WOps.purG; rfl; (intro _; rfl)))
 have k0 := f8 [.int .u64 (.ofNat ix), vn, vs, vc, vi, ve, vl, .int .u64 (.ofNat l0), .int .u64 (.ofNat 0), .int .u64 (.ofNat 0), .int .u64 (.ofNat 0), .int .u64 (.ofNat 0), .int .u64 (.ofNat 0), .nilsl]
 have q9 := num_le k0 e9
 refine WL.le (t' := [(2, .ptr ⟨false, p2, 0⟩), (4, .ptr ⟨false, p4, 0⟩), (5, .ptr ⟨false, p5, 0⟩), (38, .int .i64 (.ofNat 1))]) (Sub1.cons rfl (Sub1.cons rfl (Sub1.cons rfl (Sub1.cons rfl Sub1.nil)))) ?_
 apply WL.step
 repeat' (first
  | apply WOps.nil | apply WC.seq | apply WC.reg | apply WC.skip | (apply WC.condT; rfl) | apply WC.block | (apply WOps.cT; rfl; rfl; rfl; rfl; focus (simp only [cmpP, Int.ofNat_eq_natCast, List.length_cons, List.length_map, List.length_nil, Classical.not_not, not_true_eq_false, not_false_eq_true]; first | done | omega | decide)) | (apply WOps.ldG; rfl; rfl; exact k0.ld (Ld.cons (Ld.right (Ld.right (Ld.right (Ld.right (Ld.right (Ld.right (Ld.own Tk.head rfl)))))))); rfl) | (apply WOps.clA; rfl; rfl; exact long41_ok k0 e9; rintro _ H9 ⟨rfl, g9⟩; obtain ⟨Z9, u9, f9⟩ := g9.st Tk.head) | (apply WOps.ixA; rfl; rfl; omega) | (apply WOps.st; rfl; rfl; exact u9; rfl; exact allCell_cons rfl allCell_nil; rfl) | (apply WOps.addN; rfl; rfl; rfl; omega) | (apply WOps.purG; rfl; (intro _; rfl)))
 have k1 := f9 [.int .u64 (.ofNat ix), vn, vs, vc, vi, ve, vl, .int .u64 (.ofNat l0), .int .u64 (.ofNat l1), .int .u64 (.ofNat 0), .int .u64 (.ofNat 0), .int .u64 (.ofNat 0), .int .u64 (.ofNat 0), .nilsl]
 have q10 := num_le k1 e10
 refine WL.le (t' := [(2, .ptr ⟨false, p2, 0⟩), (4, .ptr ⟨false, p4, 0⟩), (5, .ptr ⟨false, p5, 0⟩), (38, .int .i64 (.ofNat 2))]) (Sub1.cons rfl (Sub1.cons rfl (Sub1.cons rfl (Sub1.cons rfl Sub1.nil)))) ?_
 apply WL.step
 repeat' (first
  | apply WOps.nil | apply WC.seq | apply WC.reg | apply WC.skip | (apply WC.condT; rfl) | apply WC.block | (apply WOps.cT; rfl; rfl; rfl; rfl; focus (simp only [cmpP, Int.ofNat_eq_natCast, List.length_cons, List.length_map, List.length_nil, Classical.not_not, not_true_eq_false, not_false_eq_true]; first | done | omega | decide)) | (apply WOps.ldG; rfl; rfl; exact k1.ld (Ld.cons (Ld.right (Ld.right (Ld.right (Ld.right (Ld.right (Ld.right (Ld.own Tk.head rfl)))))))); rfl) | (apply WOps.clA; rfl; rfl; exact long41_ok k1 e10; rintro _ H10 ⟨rfl, g10⟩; obtain ⟨Z10, u10, f10⟩ := g10.st Tk.head) | (apply WOps.ixA; rfl; rfl; omega) | (apply WOps.st; rfl; rfl; exact u10; rfl; exact allCell_cons rfl allCell_nil; rfl) | (apply WOps.addN; rfl; rfl; rfl; omega) | (apply WOps.purG; rfl; (intro _; rfl)))
 have k2 := f10 [.int .u64 (.ofNat ix), vn, vs, vc, vi, ve, vl, .int .u64 (.ofNat l0), .int .u64 (.ofNat l1), .int .u64 (.ofNat l2), .int .u64 (.ofNat 0), .int .u64 (.ofNat 0), .int .u64 (.ofNat 0), .nilsl]
 have q11 := num_le k2 e11
 refine WL.le (t' := [(2, .ptr ⟨false, p2, 0⟩), (4, .ptr ⟨false, p4, 0⟩), (5, .ptr ⟨false, p5, 0⟩), (38, .int .i64 (.ofNat 3))]) (Sub1.cons rfl (Sub1.cons rfl (Sub1.cons rfl (Sub1.cons rfl Sub1.nil)))) ?_
 apply WL.step
 repeat' (first
  | apply WOps.nil | apply WC.seq | apply WC.reg | apply WC.skip | (apply WC.condT; rfl) | apply WC.block | (apply WOps.cT; rfl; rfl; rfl; rfl; focus (simp only [cmpP, Int.ofNat_eq_natCast, List.length_cons, List.length_map, List.length_nil, Classical.not_not, not_true_eq_false, not_false_eq_true]; first | done | omega | decide)) | (apply WOps.ldG; rfl; rfl; exact k2.ld (Ld.cons (Ld.right (Ld.right (Ld.right (Ld.right (Ld.right (Ld.right (Ld.own Tk.head rfl)))))))); rfl) | (apply WOps.clA; rfl; rfl; exact long41_ok k2 e11; rintro _ H11 ⟨rfl, g11⟩; obtain ⟨Z11, u11, f11⟩ := g11.st Tk.head) | (apply WOps.ixA; rfl; rfl; omega) | (apply WOps.st; rfl; rfl; exact u11; rfl; exact allCell_cons rfl allCell_nil; rfl) | (apply WOps.addN; rfl; rfl; rfl; omega) | (apply WOps.purG; rfl; (intro _; rfl)))
 have k3 := f11 [.int .u64 (.ofNat ix), vn, vs, vc, vi, ve, vl, .int .u64 (.ofNat l0), .int .u64 (.ofNat l1), .int .u64 (.ofNat l2), .int .u64 (.ofNat l3), .int .u64 (.ofNat 0), .int .u64 (.ofNat 0), .nilsl]
 have q12 := num_le k3 e12
 refine WL.le (t' := [(2, .ptr ⟨false, p2, 0⟩), (4, .ptr ⟨false, p4, 0⟩), (5, .ptr ⟨false, p5, 0⟩), (38, .int .i64 (.ofNat 4))]) (Sub1.cons rfl (Sub1.cons rfl (Sub1.cons rfl (Sub1.cons rfl Sub1.nil)))) ?_
 apply WL.step
 repeat' (first
  | apply WOps.nil | apply WC.seq | apply WC.reg | apply WC.skip | (apply WC.condT; rfl) | apply WC.block | (apply WOps.cT; rfl; rfl; rfl; rfl; focus (simp only [cmpP, Int.ofNat_eq_natCast, List.length_cons, List.length_map, List.length_nil, Classical.not_not, not_true_eq_false, not_false_eq_true]; first | done | omega | decide)) | (apply WOps.ldG; rfl; rfl; exact k3.ld (Ld.cons (Ld.right (Ld.right (Ld.right (Ld.right (Ld.right (Ld.right (Ld.own Tk.head rfl)))))))); rfl) | (apply WOps.clA; rfl; rfl; exact long41_ok k3 e12; rintro _ H12 ⟨rfl, g12⟩; obtain ⟨Z12, u12, f12⟩ := g12.st Tk.head) | (apply WOps.ixA; rfl; rfl; omega) | (apply WOps.st; rfl; rfl; exact u12; rfl; exact allCell_cons rfl allCell_nil; rfl) | (apply WOps.addN; rfl; rfl; rfl; omega) | (apply WOps.purG; rfl; (intro _; rfl)))
 have k4 := f12 [.int .u64 (.ofNat ix), vn, vs, vc, vi, ve, vl, .int .u64 (.ofNat l0), .int .u64 (.ofNat l1), .int .u64 (.ofNat l2), .int .u64 (.ofNat l3), .int .u64 (.ofNat l4), .int .u64 (.ofNat 0), .nilsl]
 have q13 := num_le k4 e13
 refine WL.le (t' := [(2, .ptr ⟨false, p2, 0⟩), (4, .ptr ⟨false, p4, 0⟩), (5, .ptr ⟨false, p5, 0⟩), (38, .int .i64 (.ofNat 5))]) (Sub1.cons rfl (Sub1.cons rfl (Sub1.cons rfl (Sub1.cons rfl Sub1.nil)))) ?_
 apply WL.step
 repeat' (first
  | apply WOps.nil | apply WC.seq | apply WC.reg | apply WC.skip | (apply WC.condT; rfl) | apply WC.block | (apply WOps.cT; rfl; rfl; rfl; rfl; focus (simp only [cmpP, Int.ofNat_eq_natCast, List.length_cons, List.length_map, List.length_nil, Classical.not_not, not_true_eq_false, not_false_eq_true]; first | done | omega | decide)) | (apply WOps.ldG; rfl; rfl; exact k4.ld (Ld.cons (Ld.right (Ld.right (Ld.right (Ld.right (Ld.right (Ld.right (Ld.own Tk.head rfl)))))))); rfl) | (apply WOps.clA; rfl; rfl; exact long41_ok k4 e13; rintro _ H13 ⟨rfl, g13⟩; obtain ⟨Z13, u13, f13⟩ := g13.st Tk.head) | (apply WOps.ixA; rfl; rfl; omega) | (apply WOps.st; rfl; rfl; exact u13; rfl; exact allCell_cons rfl allCell_nil; rfl) | (apply WOps.addN; rfl; rfl; rfl; omega) | (apply WOps.purG; rfl; (intro _; rfl)))
 have k5 := f13 [.int .u64 (.ofNat ix), vn, vs, vc, vi, ve, vl, .int .u64 (.ofNat l0), .int .u64 (.ofNat l1), .int .u64 (.ofNat l2), .int .u64 (.ofNat l3), .int .u64 (.ofNat l4), .int .u64 (.ofNat l5), .nilsl]
 refine WL.le (t' := [(2, .ptr ⟨false, p2, 0⟩), (4, .ptr ⟨false, p4, 0⟩), (5, .ptr ⟨false, p5, 0⟩), (38, .int .i64 (.ofNat 6))]) (Sub1.cons rfl (Sub1.cons rfl (Sub1.cons rfl (Sub1.cons rfl Sub1.nil)))) ?_
 apply WL.step
 refine WC.seq (WC.reg ?_)
 repeat' (first
  | apply WOps.nil | (apply WOps.cF; rfl; rfl; rfl; rfl; focus (simp only [cmpP, Int.ofNat_eq_natCast, List.length_cons, List.length_map, List.length_nil, Classical.not_not, not_true_eq_false, not_false_eq_true]; first | done | omega | decide)))
 refine WC.seq ?_
 repeat' (first
  | apply WC.exit | (apply WC.condF; rfl))
 refine WC.seq ?_
 repeat' (first
  | apply WC.dreg | apply WD.nil | (apply WD.clR; rfl; rfl; exact fn29_r; rintro _ rfl) | (apply WD.load; rfl; · repeat' (first | refine at1 ?_ rfl | apply at2 | exact same0 | refine same1 ?_ rfl | apply same2 | exact rd_ld rfl (k5.ld (Ld.cons (Ld.right (Ld.right (Ld.right (Ld.right (Ld.right (Ld.right (Ld.own Tk.head rfl))))))))) rfl)) | (apply WD.clA; rfl; rfl; exact get48_ok k5 e14; rintro vq Jq ⟨tq, Xq, aq, xq, gq⟩; obtain ⟨Zq, uq, fq⟩ := gq.st tk_mid) | (apply WD.st; rfl; rfl; rfl; exact uq; exact congrArg List.length (cells1 aq.sl.cell); rw [cells1 aq.sl.cell]; exact allCell_cons aq.sl.cell allCell_nil; rw [cells1 aq.sl.cell]; rfl) | (apply WD.pur; rfl; (intro _; rfl)))
 have hq := fq [.int .u64 (.ofNat ix), vn, vs, vc, vi, ve, vl, .int .u64 (.ofNat l0), .int .u64 (.ofNat l1), .int .u64 (.ofNat l2), .int .u64 (.ofNat l3), .int .u64 (.ofNat l4), .int .u64 (.ofNat l5), vq]
 have cq := aq.sl.cell
 have hd : DdAt B (Xq ++ (Xl ++ (Xe ++ (Xi ++ (Xc ++ (Xs ++ Xn)))))) ⟨ix, vn, vs, vc, vi, ve, vl, l0, l1, l2, l3, l4, l5, vq, tn, ts, tc, ti, te, tl, tq⟩ := ⟨((((((an.app _).app _).app _).app _).app _).app _), (((((asx.left.app _).app _).app _).app _).app _), ((((ac.left.app _).app _).app _).app _), (((ai.left.app _).app _).app _), ((ae.left.app _).app _), (al.left.app _), aq.left, ⟨q1.2, q8.2, q9.2, q10.2, q11.2, q12.2, q13.2⟩⟩
 obtain ⟨Zz, uz, fz⟩ := hq.st (q := p2) (cs := [.int .u64 (.ofNat 0), .nilsl, .nilsl, .nilsl, .nilsl, .nilsl, .nilsl, .int .u64 (.ofNat 0), .int .u64 (.ofNat 0), .int .u64 (.ofNat 0), .int .u64 (.ofNat 0), .int .u64 (.ofNat 0), .int .u64 (.ofNat 0), .nilsl]) (R' := (p5, .row [.int .u64 (.ofNat ix), vn, vs, vc, vi, ve, vl, .int .u64 (.ofNat l0), .int .u64 (.ofNat l1), .int .u64 (.ofNat l2), .int .u64 (.ofNat l3), .int .u64 (.ofNat l4), .int .u64 (.ofNat l5), vq]) :: (Xq ++ (Xl ++ (Xe ++ (Xi ++ (Xc ++ (Xs ++ (Xn ++ ((p4, .row [.ptr ⟨false, p, 0⟩]) :: R))))))))) (permF (by intro f; simp only [AV.cells, pm] <;> omega))
 by_cases hz : doneS s14 = 0
 ·have gz : getD bs = (⟨ix, .nilsl, .nilsl, .nilsl, .nilsl, .nilsl, .nilsl, l0, l1, l2, l3, l4, l5, .nilsl, rn, rs, rc, ri, re, rl, rq⟩, 0) := by simp only [getD, eg, hz, if_pos]
  have fy := fz [.int .u64 (.ofNat ix), vn, vs, vc, vi, ve, vl, .int .u64 (.ofNat l0), .int .u64 (.ofNat l1), .int .u64 (.ofNat l2), .int .u64 (.ofNat l3), .int .u64 (.ofNat l4), .int .u64 (.ofNat l5), vq]
  repeat' (first
   | apply WOps.nil | apply WC.seq | apply WC.reg | apply WC.skip | apply WC.ret | (apply WC.condF; rfl) | (apply WOps.ldG; rfl; rfl; (first | exact ld0 rfl | exact ld1 rfl | exact ld2 rfl); rfl) | (apply WOps.cF; rfl; rfl; rfl; rfl; focus (simp only [cmpP, Int.ofNat_eq_natCast, List.length_cons, List.length_map, List.length_nil, Classical.not_not, not_true_eq_false, not_false_eq_true]; first | done | omega | decide)) | (apply WOps.ldG; rfl; rfl; exact hq.ld (Ld.cons (Ld.right (Ld.right (Ld.right (Ld.right (Ld.right (Ld.right (Ld.right (Ld.own Tk.head rfl))))))))); rfl) | (apply WOps.clR; rfl; rfl; exact done49_ok hq; intro _ hv; subst hv) | (apply WOps.st; rfl; rfl; exact uz; rfl; exact ac1 rfl (ac1 cn (ac1 cs (ac1 cc (ac1 ci (ac1 ce (ac1 cl (ac1 rfl (ac1 rfl (ac1 rfl (ac1 rfl (ac1 rfl (ac1 rfl (ac1 cq ac0))))))))))))); rfl) | (apply WOps.purG; rfl; (intro _; rfl)))
  exact ⟨trivial, [_, _], ⟨_, [_], rfl, ⟨_, _, rfl, Ld.own Tk.head rfl, rfl⟩, _, [], rfl, rfl, rfl⟩, _, ⟨_, _, by rw [gz]; rfl, hd, by rw [gz]; simp only [stripD, xn, xs, xc, xi, xe, xl, xq], rfl⟩, SubP.trans (subF (by intro f; simp only [AV.cells, pm] <;> omega)) fy.subP⟩
 ·have gz : getD bs = (zD, doneS s14) := by simp only [getD, eg, hz, if_neg, if_false]
  have fy := fz [.int .u64 (.ofNat 0), .nilsl, .nilsl, .nilsl, .nilsl, .nilsl, .nilsl, .int .u64 (.ofNat 0), .int .u64 (.ofNat 0), .int .u64 (.ofNat 0), .int .u64 (.ofNat 0), .int .u64 (.ofNat 0), .int .u64 (.ofNat 0), .nilsl]
  repeat' (first
   | apply WOps.nil | apply WC.seq | apply WC.reg | apply WC.ret | (apply WC.condT; rfl) | (apply WOps.cT; rfl; rfl; rfl; rfl; focus (simp only [cmpP, Int.ofNat_eq_natCast, List.length_cons, List.length_map, List.length_nil, Classical.not_not, not_true_eq_false, not_false_eq_true]; first | done | omega | decide)) | (apply WOps.ldG; rfl; rfl; exact hq.ld (Ld.cons (Ld.right (Ld.right (Ld.right (Ld.right (Ld.right (Ld.right (Ld.right (Ld.own Tk.head rfl))))))))); rfl) | (apply WOps.clR; rfl; rfl; exact done49_ok hq; intro _ hv; subst hv) | (apply WOps.st; rfl; rfl; exact uz; rfl; rfl; rfl) | (apply WOps.purG; rfl; (intro _; rfl)))
  exact ⟨trivial, [_, _], ⟨_, [_], rfl, ⟨_, _, rfl, Ld.own Tk.head rfl, rfl⟩, _, [], rfl, rfl, rfl⟩, _, ⟨zD, [], by rw [gz]; rfl, zD_at, by rw [gz]; rfl, rfl⟩, SubP.trans (subF (by intro f; simp only [AV.cells, pm] <;> omega)) fy.subP⟩
end Go.Proofs.Ytdcbglljljfleaa.DU
