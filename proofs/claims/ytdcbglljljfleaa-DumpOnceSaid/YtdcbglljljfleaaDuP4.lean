/- What the functions do, shown by the logic. -/
import Derived.Test.YtdcbglljljfleaaDuP3
import Derived.Test.YtdcbglljljfleaaDuF
set_option linter.unusedSimpArgs false
set_option linter.unusedVariables false
set_option linter.unusedSectionVars false
set_option maxRecDepth 20000
namespace Go.Proofs.Ytdcbglljljfleaa.DU
open Go.Proofs.Ytdcbglljljfleaa.Abs
variable {B : Nat → List AV}
def dumpB (d : DD) : List Nat := (((((((((((((([] ++ numB d.ix) ++ rowsB d.n) ++ rowsB d.s) ++ rowsB d.c) ++ rowsB d.i) ++ rowsB d.e) ++ rowsB d.l) ++ numB d.l0) ++ numB d.l1) ++ numB d.l2) ++ numB d.l3) ++ numB d.l4) ++ numB d.l5) ++ rowsB d.q)
theorem rowOk_of {l : List (List Fd)} {H : HL} {v : AV} {w : Nat} {sh : List Fd → Prop} (h : LAt B H v w sh l) (nb : ¬ badL l) : ∀ r, r ∈ l → sh r ∧ rowOk r ∧ ∀ f, f ∈ r → f.at B H := by
 intro r hr
 obtain ⟨h1, h2, h3⟩ := h.ok r hr
 refine ⟨h1, fun f hf => ⟨h2 f hf, ?_⟩, h3⟩
 have := Classical.byContradiction fun k => nb (badL_of hr k)
 exact this f hf
theorem rowOk_cons {l : List (List Fd)} {H : HL} {x : Nat × AObj} {sh : List Fd → Prop} (h : ∀ r, r ∈ l → sh r ∧ rowOk r ∧ ∀ f, f ∈ r → f.at B H) : ∀ r, r ∈ l → sh r ∧ rowOk r ∧ ∀ f, f ∈ r → f.at B (x :: H) := fun r hr => ⟨(h r hr).1, (h r hr).2.1, fun f hf => Fd.at_cons ((h r hr).2.2 f hf)⟩
theorem goods {d : DD} (h : ¬ badD d) : ¬ longD d ∧ ¬ badL d.n ∧ ¬ badL d.s ∧ ¬ badL d.c ∧ ¬ badL d.i ∧ ¬ badL d.e ∧ ¬ badL d.l ∧ ¬ badL d.q := by
 unfold badD at h; grind
theorem good_n {d : DD} {H : HL} (hd : DdAt B H d) (h : ¬ badD d) : (rowsB d.n).length ≤ 323017 ∧ d.n.length ≤ 64 := by
 have hl : d.n.length ≤ 64 := by have := (goods h).1; unfold longD at this; omega
 exact ⟨rowsB_len (fun r hr => ⟨(rowOk_of hd.n (by have := goods h; grind) r hr).2.1, (shN_len (hd.n.ok r hr).1).2⟩) hl, hl⟩
theorem good_s {d : DD} {H : HL} (hd : DdAt B H d) (h : ¬ badD d) : (rowsB d.s).length ≤ 323017 ∧ d.s.length ≤ 64 := by
 have hl : d.s.length ≤ 64 := by have := (goods h).1; unfold longD at this; omega
 exact ⟨rowsB_len (fun r hr => ⟨(rowOk_of hd.s (by have := goods h; grind) r hr).2.1, (shS_len (hd.s.ok r hr).1).2⟩) hl, hl⟩
theorem good_c {d : DD} {H : HL} (hd : DdAt B H d) (h : ¬ badD d) : (rowsB d.c).length ≤ 323017 ∧ d.c.length ≤ 64 := by
 have hl : d.c.length ≤ 64 := by have := (goods h).1; unfold longD at this; omega
 exact ⟨rowsB_len (fun r hr => ⟨(rowOk_of hd.c (by have := goods h; grind) r hr).2.1, (shC_len (hd.c.ok r hr).1).2⟩) hl, hl⟩
theorem good_i {d : DD} {H : HL} (hd : DdAt B H d) (h : ¬ badD d) : (rowsB d.i).length ≤ 323017 ∧ d.i.length ≤ 64 := by
 have hl : d.i.length ≤ 64 := by have := (goods h).1; unfold longD at this; omega
 exact ⟨rowsB_len (fun r hr => ⟨(rowOk_of hd.i (by have := goods h; grind) r hr).2.1, (shI_len (hd.i.ok r hr).1).2⟩) hl, hl⟩
theorem good_e {d : DD} {H : HL} (hd : DdAt B H d) (h : ¬ badD d) : (rowsB d.e).length ≤ 323017 ∧ d.e.length ≤ 64 := by
 have hl : d.e.length ≤ 64 := by have := (goods h).1; unfold longD at this; omega
 exact ⟨rowsB_len (fun r hr => ⟨(rowOk_of hd.e (by have := goods h; grind) r hr).2.1, (shE_len (hd.e.ok r hr).1).2⟩) hl, hl⟩
theorem good_l {d : DD} {H : HL} (hd : DdAt B H d) (h : ¬ badD d) : (rowsB d.l).length ≤ 323017 ∧ d.l.length ≤ 64 := by
 have hl : d.l.length ≤ 64 := by have := (goods h).1; unfold longD at this; omega
 exact ⟨rowsB_len (fun r hr => ⟨(rowOk_of hd.l (by have := goods h; grind) r hr).2.1, (shL_len (hd.l.ok r hr).1).2⟩) hl, hl⟩
theorem good_q {d : DD} {H : HL} (hd : DdAt B H d) (h : ¬ badD d) : (rowsB d.q).length ≤ 323017 ∧ d.q.length ≤ 64 := by
 have hl : d.q.length ≤ 64 := by have := (goods h).1; unfold longD at this; omega
 exact ⟨rowsB_len (fun r hr => ⟨(rowOk_of hd.q (by have := goods h; grind) r hr).2.1, (shQ_len (hd.q.ok r hr).1).2⟩) hl, hl⟩
theorem nums_len {d : DD} {H : HL} (hd : DdAt B H d) : (numB d.ix).length ≤ 9 ∧ (numB d.l0).length ≤ 9 ∧ (numB d.l1).length ≤ 9 ∧ (numB d.l2).length ≤ 9 ∧ (numB d.l3).length ≤ 9 ∧ (numB d.l4).length ≤ 9 ∧ (numB d.l5).length ≤ 9 := by
 obtain ⟨b0, b1, b2, b3, b4, b5, b6⟩ := hd.b
 have h0 := numB_len b0
 have h1 := numB_len b1
 have h2 := numB_len b2
 have h3 := numB_len b3
 have h4 := numB_len b4
 have h5 := numB_len b5
 have h6 := numB_len b6
 omega
theorem right8_good {H : HL} {d : DD} (hd : DdAt B H d) (hb : ¬ badD d) : WF B tab (.func 8) [.agg (dumpC d)] H fun r H' => H' = H ∧ r = .bool true := (right8_ok hd).mono fun r _ ⟨h1, b, h2, h3⟩ => ⟨h1, by rw [h2, h3.2 hb]⟩
set_option maxHeartbeats 4000000 in
theorem put7_ok {H : HL} {d : DD} (hd : DdAt B H d) (hb : ¬ badD d) : WF B tab (.func 7) [.agg (dumpC d)] H fun r H' => ∃ v h', r = .tup [v, .int .i64 (.ofNat 0)] ∧ OwnSl v (cellsOfStr (dumpB d)) (dumpB d).length 1 h' ∧ H' = h' ++ H := by
 refine WF.lessP ?_
 refine WF.fn g7 rfl ?_
 have cn := hd.n.sl.cell
 have cs := hd.s.sl.cell
 have cc := hd.c.sl.cell
 have ci := hd.i.sl.cell
 have ce := hd.e.sl.cell
 have cl := hd.l.sl.cell
 have cq := hd.q.sl.cell
 obtain ⟨gn, ln⟩ := good_n hd hb
 obtain ⟨gs, ls⟩ := good_s hd hb
 obtain ⟨gc, lc⟩ := good_c hd hb
 obtain ⟨gi, li⟩ := good_i hd hb
 obtain ⟨ge, le⟩ := good_e hd hb
 obtain ⟨gl, ll⟩ := good_l hd hb
 obtain ⟨gq, lq⟩ := good_q hd hb
 obtain ⟨n0, n1, n2, n3, n4, n5, n6⟩ := nums_len hd
 obtain ⟨b0, b1, b2, b3, b4, b5, b6⟩ := hd.b
 obtain ⟨_, kn, ks, kc, ki, ke, kl, kq⟩ := goods hb
 refine WC.seq (WC.reg ?_)
 repeat' (first
  | apply WOps.nil | (apply WOps.bx; rfl; rfl; (· repeat' (first | rfl | assumption | apply ac1)); intro _) | (apply WOps.purG; rfl; (intro _; rfl)))
 rename_i p1
 refine WC.seq (WC.seq (WC.reg ?_))
 repeat' (first
  | apply WOps.nil | apply WC.skip | (apply WC.condF; rfl) | (apply WOps.ldG; rfl; rfl; (first | exact ld0 rfl | exact ld1 rfl | exact ld2 rfl); rfl) | (apply WOps.clR; rfl; rfl; exact right8_good (hd.cons (x := (p1, .row (dumpC d)))) hb; rintro _ rfl) | (apply WOps.purG; rfl; (intro _; rfl)))
 refine WC.seq (WC.reg ?_)
 repeat' (first
  | apply WOps.nil | (apply WOps.bx; rfl; rfl; (· repeat' (first | rfl | assumption | apply ac1)); intro _) | (apply WOps.purG; rfl; (intro _; rfl)))
 rename_i wp
 have w0 : WrAt ((wp, .row [.nilsl]) :: (p1, .row (dumpC d)) :: H) wp [] ((p1, .row (dumpC d)) :: H) := ⟨.nilsl, [], .inl ⟨rfl, rfl, rfl, rfl⟩, List.Perm.refl _⟩
 refine WC.seq (WC.reg ?_)
 repeat' (first
  | apply WOps.nil | (apply WOps.ldG; rfl; rfl; (first | exact ld0 rfl | exact ld1 rfl | exact ld2 rfl); rfl) | (apply WOps.clA; rfl; rfl; exact num15_ok w0 b0 (by simp); intro _ H1 w1) | (apply WOps.purG; rfl; (intro _; rfl)))
 refine WC.seq ?_
 repeat' (first
  | apply WC.dreg | apply WD.nil | (apply WD.clR; rfl; rfl; exact fn17_r; rintro _ rfl) | (apply WD.load; rfl; · repeat' (first | refine at1 ?_ rfl | apply at2 | exact same0 | refine same1 ?_ rfl | apply same2 | exact rd_ld rfl (w1.ld (Ld.own Tk.head rfl)) rfl)) | (apply WD.clA; rfl; rfl; exact put16_ok (SlIs.cons hd.n.sl) ln (rowOk_cons (rowOk_of hd.n kn)) w1 (by simp only [List.length_append, List.length_nil]; omega); intro _ H2 w2) | (apply WD.pur; rfl; (intro _; rfl)))
 refine WC.seq ?_
 repeat' (first
  | apply WC.dreg | apply WD.nil | (apply WD.clR; rfl; rfl; exact fn19_r; rintro _ rfl) | (apply WD.load; rfl; · repeat' (first | refine at1 ?_ rfl | apply at2 | exact same0 | refine same1 ?_ rfl | apply same2 | exact rd_ld rfl (w2.ld (Ld.own Tk.head rfl)) rfl)) | (apply WD.clA; rfl; rfl; exact put18_ok (SlIs.cons hd.s.sl) ls (rowOk_cons (rowOk_of hd.s ks)) w2 (by simp only [List.length_append, List.length_nil]; omega); intro _ H3 w3) | (apply WD.pur; rfl; (intro _; rfl)))
 refine WC.seq ?_
 repeat' (first
  | apply WC.dreg | apply WD.nil | (apply WD.clR; rfl; rfl; exact fn21_r; rintro _ rfl) | (apply WD.load; rfl; · repeat' (first | refine at1 ?_ rfl | apply at2 | exact same0 | refine same1 ?_ rfl | apply same2 | exact rd_ld rfl (w3.ld (Ld.own Tk.head rfl)) rfl)) | (apply WD.clA; rfl; rfl; exact put20_ok (SlIs.cons hd.c.sl) lc (rowOk_cons (rowOk_of hd.c kc)) w3 (by simp only [List.length_append, List.length_nil]; omega); intro _ H4 w4) | (apply WD.pur; rfl; (intro _; rfl)))
 refine WC.seq ?_
 repeat' (first
  | apply WC.dreg | apply WD.nil | (apply WD.clR; rfl; rfl; exact fn23_r; rintro _ rfl) | (apply WD.load; rfl; · repeat' (first | refine at1 ?_ rfl | apply at2 | exact same0 | refine same1 ?_ rfl | apply same2 | exact rd_ld rfl (w4.ld (Ld.own Tk.head rfl)) rfl)) | (apply WD.clA; rfl; rfl; exact put22_ok (SlIs.cons hd.i.sl) li (rowOk_cons (rowOk_of hd.i ki)) w4 (by simp only [List.length_append, List.length_nil]; omega); intro _ H5 w5) | (apply WD.pur; rfl; (intro _; rfl)))
 refine WC.seq ?_
 repeat' (first
  | apply WC.dreg | apply WD.nil | (apply WD.clR; rfl; rfl; exact fn25_r; rintro _ rfl) | (apply WD.load; rfl; · repeat' (first | refine at1 ?_ rfl | apply at2 | exact same0 | refine same1 ?_ rfl | apply same2 | exact rd_ld rfl (w5.ld (Ld.own Tk.head rfl)) rfl)) | (apply WD.clA; rfl; rfl; exact put24_ok (SlIs.cons hd.e.sl) le (rowOk_cons (rowOk_of hd.e ke)) w5 (by simp only [List.length_append, List.length_nil]; omega); intro _ H6 w6) | (apply WD.pur; rfl; (intro _; rfl)))
 refine WC.seq ?_
 repeat' (first
  | apply WC.dreg | apply WD.nil | (apply WD.clR; rfl; rfl; exact fn27_r; rintro _ rfl) | (apply WD.load; rfl; · repeat' (first | refine at1 ?_ rfl | apply at2 | exact same0 | refine same1 ?_ rfl | apply same2 | exact rd_ld rfl (w6.ld (Ld.own Tk.head rfl)) rfl)) | (apply WD.clA; rfl; rfl; exact put26_ok (SlIs.cons hd.l.sl) ll (rowOk_cons (rowOk_of hd.l kl)) w6 (by simp only [List.length_append, List.length_nil]; omega); intro _ H7 w7) | (apply WD.pur; rfl; (intro _; rfl)))
 refine WC.seq (WC.seq (WC.reg ?_))
 repeat' (first
  | apply WOps.nil | apply WC.block | (apply WOps.ldG; rfl; rfl; exact w7.ld (Ld.own Tk.head rfl); rfl) | (apply WOps.purG; rfl; (intro _; rfl)))
 refine WC.loop ?_
 apply WL.step
 repeat' (first
  | apply WOps.nil | apply WC.seq | apply WC.reg | apply WC.skip | (apply WC.condT; rfl) | apply WC.block | (apply WOps.clA; rfl; rfl; exact num15_ok w7 b1 (by simp only [List.length_append, List.length_nil]; omega); intro _ H8 w8) | (apply WOps.purG; rfl; (intro _; rfl)))
 apply WL.step
 repeat' (first
  | apply WOps.nil | apply WC.seq | apply WC.reg | apply WC.skip | (apply WC.condT; rfl) | apply WC.block | (apply WOps.clA; rfl; rfl; exact num15_ok w8 b2 (by simp only [List.length_append, List.length_nil]; omega); intro _ H9 w9) | (apply WOps.purG; rfl; (intro _; rfl)))
 apply WL.step
 repeat' (first
  | apply WOps.nil | apply WC.seq | apply WC.reg | apply WC.skip | (apply WC.condT; rfl) | apply WC.block | (apply WOps.clA; rfl; rfl; exact num15_ok w9 b3 (by simp only [List.length_append, List.length_nil]; omega); intro _ H10 w10) | (apply WOps.purG; rfl; (intro _; rfl)))
 apply WL.step
 repeat' (first
  | apply WOps.nil | apply WC.seq | apply WC.reg | apply WC.skip | (apply WC.condT; rfl) | apply WC.block | (apply WOps.clA; rfl; rfl; exact num15_ok w10 b4 (by simp only [List.length_append, List.length_nil]; omega); intro _ H11 w11) | (apply WOps.purG; rfl; (intro _; rfl)))
 apply WL.step
 repeat' (first
  | apply WOps.nil | apply WC.seq | apply WC.reg | apply WC.skip | (apply WC.condT; rfl) | apply WC.block | (apply WOps.clA; rfl; rfl; exact num15_ok w11 b5 (by simp only [List.length_append, List.length_nil]; omega); intro _ H12 w12) | (apply WOps.purG; rfl; (intro _; rfl)))
 apply WL.step
 repeat' (first
  | apply WOps.nil | apply WC.seq | apply WC.reg | apply WC.skip | (apply WC.condT; rfl) | apply WC.block | (apply WOps.clA; rfl; rfl; exact num15_ok w12 b6 (by simp only [List.length_append, List.length_nil]; omega); intro _ H13 w13) | (apply WOps.purG; rfl; (intro _; rfl)))
 apply WL.step
 repeat' (first
  | apply WOps.nil | apply WC.seq | apply WC.reg | apply WC.exit | (apply WC.condF; rfl) | apply WC.dreg | (apply WOps.purG; rfl; (intro _; rfl)))
 repeat' (first
  | apply WD.nil | (apply WD.clR; rfl; rfl; exact fn29_r; rintro _ rfl) | (apply WD.load; rfl; · repeat' (first | refine at1 ?_ rfl | apply at2 | exact same0 | refine same1 ?_ rfl | apply same2 | exact rd_ld rfl (w13.ld (Ld.own Tk.head rfl)) rfl)) | (apply WD.clA; rfl; rfl; exact put28_ok (SlIs.cons hd.q.sl) lq (rowOk_cons (rowOk_of hd.q kq)) w13 (by simp only [List.length_append, List.length_nil]; omega); intro _ H14 w14) | (apply WD.pur; rfl; (intro _; rfl)))
 obtain ⟨v, h, o, p⟩ := w14
 refine WC.seq (WC.reg ?_)
 repeat' (first
  | apply WOps.nil | apply WC.ret | (apply WOps.ldG; rfl; rfl; exact Ld.perm p (Ld.own Tk.head rfl); rfl) | (apply WOps.purG; rfl; (intro _; rfl)))
 repeat' (first
  | apply WOps.nil | apply WC.seq | apply WC.reg | apply WC.skip | apply WC.ret | apply WC.exit | (apply WC.condT; rfl) | (apply WC.condF; rfl) | apply WC.block | apply WC.dreg | apply WD.nil | (apply WOps.ldG; rfl; rfl; (first | exact ld0 rfl | exact ld1 rfl | exact ld2 rfl); rfl) | (apply WOps.bx; rfl; rfl; (· repeat' (first | rfl | assumption | apply ac1)); intro _) | (apply WOps.cmp; rfl; rfl; rfl; rfl; intro _ _) | (apply WOps.cmpT; rfl; rfl; rfl; rfl; intro _ _) | (apply WOps.purG; rfl; (intro _; rfl)) | (apply WD.load; rfl; · repeat' (first | refine at1 ?_ rfl | apply at2 | exact same0 | refine same1 ?_ rfl | apply same2 | (first | exact rd0 rfl rfl rfl | exact rd1 rfl rfl rfl | exact rd2 rfl rfl rfl))) | (apply WD.cmp; rfl; rfl; rfl; rfl; intro _ _) | (apply WD.cmpT; rfl; rfl; rfl; rfl; intro _ _) | (apply WD.pur; rfl; (intro _; rfl)) | (apply WC.condA; rfl; all_goals (intro hb; try subst hb)))
 refine ⟨trivial, [_, _], ⟨_, [_], rfl, rfl, _, [], rfl, rfl, rfl⟩, h ++ H, ⟨v, h, rfl, o, rfl⟩, ?_⟩
 exact ⟨[(wp, .row [v]), (p1, .row (dumpC d))], p.trans (permF (by intro f; simp only [AV.cells, pm] <;> omega))⟩
/-! ### What is read of what is laid -/
theorem digs_eq {n : Nat} (h : 0 < n) : digs n = n % 256 :: digs (n / 256) := digs_pos h
end Go.Proofs.Ytdcbglljljfleaa.DU
