/- What the functions do, shown by the logic. -/
import Derived.Test.YtdcbglljljfleaaDuD
set_option linter.unusedSimpArgs false
set_option linter.unusedVariables false
set_option maxRecDepth 20000
namespace Go.Proofs.Ytdcbglljljfleaa.DU
open Go.Proofs.Ytdcbglljljfleaa.Abs
variable {B : Nat → List AV}
/-- A dump's bytes. -/
def dumpB (d : DD) : List Nat := (((((((((((((([] ++ numB d.ix) ++ rowsB d.n) ++ rowsB d.s) ++ rowsB d.c) ++ rowsB d.i) ++ rowsB d.e) ++ rowsB d.l) ++ numB d.l0) ++ numB d.l1) ++ numB d.l2) ++ numB d.l3) ++ numB d.l4) ++ numB d.l5) ++ rowsB d.q)
theorem rowOk_of {l : List (List Fd)} {H : HL} {v : AV} {w : Nat} {sh : List Fd → Prop} (h : LAt B H v w sh l) (nb : ¬ badL l) : ∀ r, r ∈ l → sh r ∧ rowOk r ∧ ∀ f, f ∈ r → f.at B H := by
  intro r hr
  obtain ⟨h1, h2, h3⟩ := h.ok r hr
  refine ⟨h1, fun f hf => ⟨h2 f hf, ?_⟩, h3⟩
  have := Classical.byContradiction fun k => nb (badL_of hr k)
  exact this f hf
theorem rowOk_cons {l : List (List Fd)} {H : HL} {x : Nat × AObj} {sh : List Fd → Prop} (h : ∀ r, r ∈ l → sh r ∧ rowOk r ∧ ∀ f, f ∈ r → f.at B H) : ∀ r, r ∈ l → sh r ∧ rowOk r ∧ ∀ f, f ∈ r → f.at B (x :: H) := fun r hr => ⟨(h r hr).1, (h r hr).2.1, fun f hf => Fd.at_cons ((h r hr).2.2 f hf)⟩
theorem goods {d : DD} (h : ¬ badD d) : ¬ longD d ∧ ¬ badL d.n ∧ ¬ badL d.s ∧ ¬ badL d.c ∧ ¬ badL d.i ∧ ¬ badL d.e ∧ ¬ badL d.l ∧ ¬ badL d.q := by
  unfold badD at h; grind
theorem good_n {d : DD} {H : HL} (hd : DdAt B H d) (h : ¬ badD d) : (rowsB d.n).length ≤ 323017 ∧ d.n.length ≤ 64 := by
  have hl : d.n.length ≤ 64 := by have := (goods h).1; unfold longD at this; omega
  exact ⟨rowsB_len (fun r hr => ⟨(rowOk_of hd.n (by have := goods h; grind) r hr).2.1, (shN_len (hd.n.ok r hr).1).2⟩) hl, hl⟩
theorem good_s {d : DD} {H : HL} (hd : DdAt B H d) (h : ¬ badD d) : (rowsB d.s).length ≤ 323017 ∧ d.s.length ≤ 64 := by
  have hl : d.s.length ≤ 64 := by have := (goods h).1; unfold longD at this; omega
  exact ⟨rowsB_len (fun r hr => ⟨(rowOk_of hd.s (by have := goods h; grind) r hr).2.1, (shS_len (hd.s.ok r hr).1).2⟩) hl, hl⟩
theorem good_c {d : DD} {H : HL} (hd : DdAt B H d) (h : ¬ badD d) : (rowsB d.c).length ≤ 323017 ∧ d.c.length ≤ 64 := by
  have hl : d.c.length ≤ 64 := by have := (goods h).1; unfold longD at this; omega
  exact ⟨rowsB_len (fun r hr => ⟨(rowOk_of hd.c (by have := goods h; grind) r hr).2.1, (shC_len (hd.c.ok r hr).1).2⟩) hl, hl⟩
theorem good_i {d : DD} {H : HL} (hd : DdAt B H d) (h : ¬ badD d) : (rowsB d.i).length ≤ 323017 ∧ d.i.length ≤ 64 := by
  have hl : d.i.length ≤ 64 := by have := (goods h).1; unfold longD at this; omega
  exact ⟨rowsB_len (fun r hr => ⟨(rowOk_of hd.i (by have := goods h; grind) r hr).2.1, (shI_len (hd.i.ok r hr).1).2⟩) hl, hl⟩
theorem good_e {d : DD} {H : HL} (hd : DdAt B H d) (h : ¬ badD d) : (rowsB d.e).length ≤ 323017 ∧ d.e.length ≤ 64 := by
  have hl : d.e.length ≤ 64 := by have := (goods h).1; unfold longD at this; omega
  exact ⟨rowsB_len (fun r hr => ⟨(rowOk_of hd.e (by have := goods h; grind) r hr).2.1, (shE_len (hd.e.ok r hr).1).2⟩) hl, hl⟩
theorem good_l {d : DD} {H : HL} (hd : DdAt B H d) (h : ¬ badD d) : (rowsB d.l).length ≤ 323017 ∧ d.l.length ≤ 64 := by
  have hl : d.l.length ≤ 64 := by have := (goods h).1; unfold longD at this; omega
  exact ⟨rowsB_len (fun r hr => ⟨(rowOk_of hd.l (by have := goods h; grind) r hr).2.1, (shL_len (hd.l.ok r hr).1).2⟩) hl, hl⟩
theorem good_q {d : DD} {H : HL} (hd : DdAt B H d) (h : ¬ badD d) : (rowsB d.q).length ≤ 323017 ∧ d.q.length ≤ 64 := by
  have hl : d.q.length ≤ 64 := by have := (goods h).1; unfold longD at this; omega
  exact ⟨rowsB_len (fun r hr => ⟨(rowOk_of hd.q (by have := goods h; grind) r hr).2.1, (shQ_len (hd.q.ok r hr).1).2⟩) hl, hl⟩
theorem nums_len {d : DD} {H : HL} (hd : DdAt B H d) : (numB d.ix).length ≤ 9 ∧ (numB d.l0).length ≤ 9 ∧ (numB d.l1).length ≤ 9 ∧ (numB d.l2).length ≤ 9 ∧ (numB d.l3).length ≤ 9 ∧ (numB d.l4).length ≤ 9 ∧ (numB d.l5).length ≤ 9 := by
  obtain ⟨b0, b1, b2, b3, b4, b5, b6⟩ := hd.b
  have h0 := numB_len b0
  have h1 := numB_len b1
  have h2 := numB_len b2
  have h3 := numB_len b3
  have h4 := numB_len b4
  have h5 := numB_len b5
  have h6 := numB_len b6
  omega
theorem dumpB_len {d : DD} {H : HL} (hd : DdAt B H d) (h : ¬ badD d) : (dumpB d).length ≤ 3000000 := by
  have g1 := good_n hd h
  have g2 := good_s hd h
  have g3 := good_c hd h
  have g4 := good_i hd h
  have g5 := good_e hd h
  have g6 := good_l hd h
  have g7 := good_q hd h
  have g8 := nums_len hd
  unfold dumpB
  simp only [List.length_append, List.length_nil]; omega
theorem right8_bad {H : HL} {d : DD} (hd : DdAt B H d) (hb : badD d) : WF B tab (.func 8) [.agg (dumpC d)] H fun r H' => H' = H ∧ r = .bool false := (right8_ok hd).mono fun r _ ⟨h1, b, h2, h3⟩ => ⟨h1, by rw [h2]; cases b; rfl; exact absurd hb (h3.1 rfl)⟩
theorem right8_good {H : HL} {d : DD} (hd : DdAt B H d) (hb : ¬ badD d) : WF B tab (.func 8) [.agg (dumpC d)] H fun r H' => H' = H ∧ r = .bool true := (right8_ok hd).mono fun r _ ⟨h1, b, h2, h3⟩ => ⟨h1, by rw [h2, h3.2 hb]⟩
theorem right9_bad {H : HL} {d : DD} (hd : DdAt B H d) (hb : badD d) : WF B tab (.func 9) [.agg (dumpC d)] H fun r H' => H' = H ∧ r = .bool false := (right9_ok hd).mono fun r _ ⟨h1, b, h2, h3⟩ => ⟨h1, by rw [h2]; cases b; rfl; exact absurd hb (h3.1 rfl)⟩
theorem right9_good {H : HL} {d : DD} (hd : DdAt B H d) (hb : ¬ badD d) : WF B tab (.func 9) [.agg (dumpC d)] H fun r H' => H' = H ∧ r = .bool true := (right9_ok hd).mono fun r _ ⟨h1, b, h2, h3⟩ => ⟨h1, by rw [h2, h3.2 hb]⟩
theorem fn17_r {H : HL} : WF B tab (.func 17) [] H fun r H' => H' = H ∧ r = .agg [.fn (.func 63) [] [], .fn (.func 66) [] []] := fn17_ok.mono fun _ _ h => ⟨h.2, h.1⟩
theorem fn19_r {H : HL} : WF B tab (.func 19) [] H fun r H' => H' = H ∧ r = .agg [.fn (.func 70) [] [], .fn (.func 72) [] []] := fn19_ok.mono fun _ _ h => ⟨h.2, h.1⟩
theorem fn21_r {H : HL} : WF B tab (.func 21) [] H fun r H' => H' = H ∧ r = .agg [.fn (.func 75) [] [], .fn (.func 76) [] []] := fn21_ok.mono fun _ _ h => ⟨h.2, h.1⟩
theorem fn23_r {H : HL} : WF B tab (.func 23) [] H fun r H' => H' = H ∧ r = .agg [.fn (.func 77) [] [], .fn (.func 79) [] []] := fn23_ok.mono fun _ _ h => ⟨h.2, h.1⟩
theorem fn25_r {H : HL} : WF B tab (.func 25) [] H fun r H' => H' = H ∧ r = .agg [.fn (.func 81) [] [], .fn (.func 82) [] []] := fn25_ok.mono fun _ _ h => ⟨h.2, h.1⟩
theorem fn27_r {H : HL} : WF B tab (.func 27) [] H fun r H' => H' = H ∧ r = .agg [.fn (.func 83) [] [], .fn (.func 84) [] []] := fn27_ok.mono fun _ _ h => ⟨h.2, h.1⟩
theorem fn29_r {H : HL} : WF B tab (.func 29) [] H fun r H' => H' = H ∧ r = .agg [.fn (.func 85) [] [], .fn (.func 86) [] []] := fn29_ok.mono fun _ _ h => ⟨h.2, h.1⟩
theorem LAt.cons {H : HL} {x : Nat × AObj} {v : AV} {w : Nat} {sh : List Fd → Prop} {l : List (List Fd)} (h : LAt B H v w sh l) : LAt B (x :: H) v w sh l := ⟨SlIs.cons h.sl, fun r hr => ⟨(h.ok r hr).1, (h.ok r hr).2.1, fun f hf => Fd.at_cons ((h.ok r hr).2.2 f hf)⟩, h.len⟩
theorem DdAt.cons {H : HL} {x : Nat × AObj} {d : DD} (h : DdAt B H d) : DdAt B (x :: H) d := ⟨h.n.cons, h.s.cons, h.c.cons, h.i.cons, h.e.cons, h.l.cons, h.q.cons, h.b⟩
theorem put7_bad {H : HL} {d : DD} (hd : DdAt B H d) (hb : badD d) : WF B tab (.func 7) [.agg (dumpC d)] H fun r H' => r = .tup [.nilsl, .int .i64 (.ofNat 2)] ∧ H' = H := by
  refine WF.lessP ?_
  refine WF.fn g7 rfl ?_
  have cn := hd.n.sl.cell
  have cs := hd.s.sl.cell
  have cc := hd.c.sl.cell
  have ci := hd.i.sl.cell
  have ce := hd.e.sl.cell
  have cl := hd.l.sl.cell
  have cq := hd.q.sl.cell
  refine WC.seq (WC.reg ?_)
  repeat' (first
    | apply WOps.nil | (apply WOps.bx; rfl; rfl; (· repeat' (first | rfl | assumption | apply ac1)); intro _) | (apply WOps.purG; rfl; (intro _; rfl)))
  rename_i p1
  refine WC.seq (WC.seq (WC.reg ?_))
  repeat' (first
    | apply WOps.nil | (apply WC.condT; rfl) | (apply WOps.ldG; rfl; rfl; (first | exact ld0 rfl | exact ld1 rfl | exact ld2 rfl); rfl) | (apply WOps.clR; rfl; rfl; exact right8_bad (hd.cons (x := (p1, .row (dumpC d)))) hb; rintro _ rfl) | (apply WOps.purG; rfl; (intro _; rfl)))
  repeat' (first
    | apply WOps.nil | apply WC.seq | apply WC.reg | apply WC.ret | (apply WOps.purG; rfl; (intro _; rfl)))
  exact ⟨trivial, [_, _], ⟨_, [_], rfl, rfl, _, [], rfl, rfl, rfl⟩, H, ⟨rfl, rfl⟩, subF (by intro f; simp only [AV.cells, List.append_eq, List.map_cons, List.map_nil, List.sum_nil, List.map_append, List.sum_cons, List.sum_append, List.cons_append, List.nil_append, List.append_assoc, List.append_nil]; omega)⟩
set_option maxHeartbeats 4000000 in
theorem put7_ok {H : HL} {d : DD} (hd : DdAt B H d) (hb : ¬ badD d) : WF B tab (.func 7) [.agg (dumpC d)] H fun r H' => ∃ v h', r = .tup [v, .int .i64 (.ofNat 0)] ∧ OwnSl v (cellsOfStr (dumpB d)) (dumpB d).length 1 h' ∧ H' = h' ++ H := by
  refine WF.lessP ?_
  refine WF.fn g7 rfl ?_
  have cn := hd.n.sl.cell
  have cs := hd.s.sl.cell
  have cc := hd.c.sl.cell
  have ci := hd.i.sl.cell
  have ce := hd.e.sl.cell
  have cl := hd.l.sl.cell
  have cq := hd.q.sl.cell
  obtain ⟨gn, ln⟩ := good_n hd hb
  obtain ⟨gs, ls⟩ := good_s hd hb
  obtain ⟨gc, lc⟩ := good_c hd hb
  obtain ⟨gi, li⟩ := good_i hd hb
  obtain ⟨ge, le⟩ := good_e hd hb
  obtain ⟨gl, ll⟩ := good_l hd hb
  obtain ⟨gq, lq⟩ := good_q hd hb
  obtain ⟨n0, n1, n2, n3, n4, n5, n6⟩ := nums_len hd
  obtain ⟨b0, b1, b2, b3, b4, b5, b6⟩ := hd.b
  obtain ⟨_, kn, ks, kc, ki, ke, kl, kq⟩ := goods hb
  refine WC.seq (WC.reg ?_)
  repeat' (first
    | apply WOps.nil | (apply WOps.bx; rfl; rfl; (· repeat' (first | rfl | assumption | apply ac1)); intro _) | (apply WOps.purG; rfl; (intro _; rfl)))
  rename_i p1
  refine WC.seq (WC.seq (WC.reg ?_))
  repeat' (first
    | apply WOps.nil | apply WC.skip | (apply WC.condF; rfl) | (apply WOps.ldG; rfl; rfl; (first | exact ld0 rfl | exact ld1 rfl | exact ld2 rfl); rfl) | (apply WOps.clR; rfl; rfl; exact right8_good (hd.cons (x := (p1, .row (dumpC d)))) hb; rintro _ rfl) | (apply WOps.purG; rfl; (intro _; rfl)))
  refine WC.seq (WC.reg ?_)
  repeat' (first
    | apply WOps.nil | (apply WOps.bx; rfl; rfl; (· repeat' (first | rfl | assumption | apply ac1)); intro _) | (apply WOps.purG; rfl; (intro _; rfl)))
  rename_i wp
  have w0 : WrAt ((wp, .row [.nilsl]) :: (p1, .row (dumpC d)) :: H) wp [] ((p1, .row (dumpC d)) :: H) := ⟨.nilsl, [], .inl ⟨rfl, rfl, rfl, rfl⟩, List.Perm.refl _⟩
  refine WC.seq (WC.reg ?_)
  repeat' (first
    | apply WOps.nil | (apply WOps.ldG; rfl; rfl; (first | exact ld0 rfl | exact ld1 rfl | exact ld2 rfl); rfl) | (apply WOps.clA; rfl; rfl; exact num15_ok w0 b0 (by simp); intro _ H1 w1) | (apply WOps.purG; rfl; (intro _; rfl)))
  refine WC.seq ?_
  repeat' (first
    | apply WC.dreg | apply WD.nil | (apply WD.clR; rfl; rfl; exact fn17_r; rintro _ rfl) | (apply WD.load; rfl; · repeat' (first | refine at1 ?_ rfl | apply at2 | exact same0 | refine same1 ?_ rfl | apply same2 | exact rd_ld rfl (w1.ld (Ld.own Tk.head rfl)) rfl)) | (apply WD.clA; rfl; rfl; exact put16_ok (SlIs.cons hd.n.sl) ln (rowOk_cons (rowOk_of hd.n kn)) w1 (by simp only [List.length_append, List.length_nil]; omega); intro _ H2 w2) | (apply WD.pur; rfl; (intro _; rfl)))
  refine WC.seq ?_
  repeat' (first
    | apply WC.dreg | apply WD.nil | (apply WD.clR; rfl; rfl; exact fn19_r; rintro _ rfl) | (apply WD.load; rfl; · repeat' (first | refine at1 ?_ rfl | apply at2 | exact same0 | refine same1 ?_ rfl | apply same2 | exact rd_ld rfl (w2.ld (Ld.own Tk.head rfl)) rfl)) | (apply WD.clA; rfl; rfl; exact put18_ok (SlIs.cons hd.s.sl) ls (rowOk_cons (rowOk_of hd.s ks)) w2 (by simp only [List.length_append, List.length_nil]; omega); intro _ H3 w3) | (apply WD.pur; rfl; (intro _; rfl)))
  refine WC.seq ?_
  repeat' (first
    | apply WC.dreg | apply WD.nil | (apply WD.clR; rfl; rfl; exact fn21_r; rintro _ rfl) | (apply WD.load; rfl; · repeat' (first | refine at1 ?_ rfl | apply at2 | exact same0 | refine same1 ?_ rfl | apply same2 | exact rd_ld rfl (w3.ld (Ld.own Tk.head rfl)) rfl)) | (apply WD.clA; rfl; rfl; exact put20_ok (SlIs.cons hd.c.sl) lc (rowOk_cons (rowOk_of hd.c kc)) w3 (by simp only [List.length_append, List.length_nil]; omega); intro _ H4 w4) | (apply WD.pur; rfl; (intro _; rfl)))
  refine WC.seq ?_
  repeat' (first
    | apply WC.dreg | apply WD.nil | (apply WD.clR; rfl; rfl; exact fn23_r; rintro _ rfl) | (apply WD.load; rfl; · repeat' (first | refine at1 ?_ rfl | apply at2 | exact same0 | refine same1 ?_ rfl | apply same2 | exact rd_ld rfl (w4.ld (Ld.own Tk.head rfl)) rfl)) | (apply WD.clA; rfl; rfl; exact put22_ok (SlIs.cons hd.i.sl) li (rowOk_cons (rowOk_of hd.i ki)) w4 (by simp only [List.length_append, List.length_nil]; omega); intro _ H5 w5) | (apply WD.pur; rfl; (intro _; rfl)))
  refine WC.seq ?_
  repeat' (first
    | apply WC.dreg | apply WD.nil | (apply WD.clR; rfl; rfl; exact fn25_r; rintro _ rfl) | (apply WD.load; rfl; · repeat' (first | refine at1 ?_ rfl | apply at2 | exact same0 | refine same1 ?_ rfl | apply same2 | exact rd_ld rfl (w5.ld (Ld.own Tk.head rfl)) rfl)) | (apply WD.clA; rfl; rfl; exact put24_ok (SlIs.cons hd.e.sl) le (rowOk_cons (rowOk_of hd.e ke)) w5 (by simp only [List.length_append, List.length_nil]; omega); intro _ H6 w6) | (apply WD.pur; rfl; (intro _; rfl)))
  refine WC.seq ?_
  repeat' (first
    | apply WC.dreg | apply WD.nil | (apply WD.clR; rfl; rfl; exact fn27_r; rintro _ rfl) | (apply WD.load; rfl; · repeat' (first | refine at1 ?_ rfl | apply at2 | exact same0 | refine same1 ?_ rfl | apply same2 | exact rd_ld rfl (w6.ld (Ld.own Tk.head rfl)) rfl)) | (apply WD.clA; rfl; rfl; exact put26_ok (SlIs.cons hd.l.sl) ll (rowOk_cons (rowOk_of hd.l kl)) w6 (by simp only [List.length_append, List.length_nil]; omega); intro _ H7 w7) | (apply WD.pur; rfl; (intro _; rfl)))
  refine WC.seq (WC.seq (WC.reg ?_))
  repeat' (first
    | apply WOps.nil | apply WC.block | (apply WOps.ldG; rfl; rfl; exact w7.ld (Ld.own Tk.head rfl); rfl) | (apply WOps.purG; rfl; (intro _; rfl)))
  refine WC.loop ?_
  apply WL.step
  repeat' (first
    | apply WOps.nil | apply WC.seq | apply WC.reg | apply WC.skip | (apply WC.condT; rfl) | apply WC.block | (apply WOps.clA; rfl; rfl; exact num15_ok w7 b1 (by simp only [List.length_append, List.length_nil]; omega); intro _ H8 w8) | (apply WOps.purG; rfl; (intro _; rfl)))
  apply WL.step
  repeat' (first
    | apply WOps.nil | apply WC.seq | apply WC.reg | apply WC.skip | (apply WC.condT; rfl) | apply WC.block | (apply WOps.clA; rfl; rfl; exact num15_ok w8 b2 (by simp only [List.length_append, List.length_nil]; omega); intro _ H9 w9) | (apply WOps.purG; rfl; (intro _; rfl)))
  apply WL.step
  repeat' (first
    | apply WOps.nil | apply WC.seq | apply WC.reg | apply WC.skip | (apply WC.condT; rfl) | apply WC.block | (apply WOps.clA; rfl; rfl; exact num15_ok w9 b3 (by simp only [List.length_append, List.length_nil]; omega); intro _ H10 w10) | (apply WOps.purG; rfl; (intro _; rfl)))
  apply WL.step
  repeat' (first
    | apply WOps.nil | apply WC.seq | apply WC.reg | apply WC.skip | (apply WC.condT; rfl) | apply WC.block | (apply WOps.clA; rfl; rfl; exact num15_ok w10 b4 (by simp only [List.length_append, List.length_nil]; omega); intro _ H11 w11) | (apply WOps.purG; rfl; (intro _; rfl)))
  apply WL.step
  repeat' (first
    | apply WOps.nil | apply WC.seq | apply WC.reg | apply WC.skip | (apply WC.condT; rfl) | apply WC.block | (apply WOps.clA; rfl; rfl; exact num15_ok w11 b5 (by simp only [List.length_append, List.length_nil]; omega); intro _ H12 w12) | (apply WOps.purG; rfl; (intro _; rfl)))
  apply WL.step
  repeat' (first
    | apply WOps.nil | apply WC.seq | apply WC.reg | apply WC.skip | (apply WC.condT; rfl) | apply WC.block | (apply WOps.clA; rfl; rfl; exact num15_ok w12 b6 (by simp only [List.length_append, List.length_nil]; omega); intro _ H13 w13) | (apply WOps.purG; rfl; (intro _; rfl)))
  apply WL.step
  repeat' (first
    | apply WOps.nil | apply WC.seq | apply WC.reg | apply WC.exit | (apply WC.condF; rfl) | apply WC.dreg | (apply WOps.purG; rfl; (intro _; rfl)))
  repeat' (first
    | apply WD.nil | (apply WD.clR; rfl; rfl; exact fn29_r; rintro _ rfl) | (apply WD.load; rfl; · repeat' (first | refine at1 ?_ rfl | apply at2 | exact same0 | refine same1 ?_ rfl | apply same2 | exact rd_ld rfl (w13.ld (Ld.own Tk.head rfl)) rfl)) | (apply WD.clA; rfl; rfl; exact put28_ok (SlIs.cons hd.q.sl) lq (rowOk_cons (rowOk_of hd.q kq)) w13 (by simp only [List.length_append, List.length_nil]; omega); intro _ H14 w14) | (apply WD.pur; rfl; (intro _; rfl)))
  obtain ⟨v, h, o, p⟩ := w14
  refine WC.seq (WC.reg ?_)
  repeat' (first
    | apply WOps.nil | apply WC.ret | (apply WOps.ldG; rfl; rfl; exact Ld.perm p (Ld.own Tk.head rfl); rfl) | (apply WOps.purG; rfl; (intro _; rfl)))
  repeat' (first
    | apply WOps.nil | apply WC.seq | apply WC.reg | apply WC.skip | apply WC.ret | apply WC.exit | (apply WC.condT; rfl) | (apply WC.condF; rfl) | apply WC.block | apply WC.dreg | apply WD.nil | (apply WOps.ldG; rfl; rfl; (first | exact ld0 rfl | exact ld1 rfl | exact ld2 rfl); rfl) | (apply WOps.bx; rfl; rfl; (· repeat' (first | rfl | assumption | apply ac1)); intro _) | (apply WOps.cmp; rfl; rfl; rfl; rfl; intro _ _) | (apply WOps.cmpT; rfl; rfl; rfl; rfl; intro _ _) | (apply WOps.purG; rfl; (intro _; rfl)) | (apply WD.load; rfl; · repeat' (first | refine at1 ?_ rfl | apply at2 | exact same0 | refine same1 ?_ rfl | apply same2 | (first | exact rd0 rfl rfl rfl | exact rd1 rfl rfl rfl | exact rd2 rfl rfl rfl))) | (apply WD.cmp; rfl; rfl; rfl; rfl; intro _ _) | (apply WD.cmpT; rfl; rfl; rfl; rfl; intro _ _) | (apply WD.pur; rfl; (intro _; rfl)) | (apply WC.condA; rfl; all_goals (intro hb; try subst hb)))
  refine ⟨trivial, [_, _], ⟨_, [_], rfl, rfl, _, [], rfl, rfl, rfl⟩, h ++ H, ⟨v, h, rfl, o, rfl⟩, ?_⟩
  exact ⟨[(wp, .row [v]), (p1, .row (dumpC d))], p.trans (permF (by intro f; simp only [AV.cells, List.append_eq, List.map_cons, List.map_nil, List.sum_nil, List.map_append, List.sum_cons, List.sum_append, List.cons_append, List.nil_append, List.append_assoc, List.append_nil]; omega))⟩
/-- Bytes that are laid, at v. -/
def BAt (H : HL) (v : AV) (us : List Nat) (R : HL) : Prop := ∃ h, OwnSl v (cellsOfStr us) us.length 1 h ∧ H.Perm (h ++ R)
theorem BAt.app {H R : HL} {v : AV} {us : List Nat} (h : BAt H v us R) (X : HL) : BAt (X ++ H) v us (X ++ R) := by
  obtain ⟨hv, o, q⟩ := h
  exact ⟨hv, o, (q.append_left X).trans (permF (by intro f; simp only [AV.cells, List.append_eq, List.map_cons, List.map_nil, List.sum_nil, List.map_append, List.sum_cons, List.sum_append, List.cons_append, List.nil_append, List.append_assoc, List.append_nil]; omega))⟩
theorem BAt.cons {H R : HL} {v : AV} {us : List Nat} {x : Nat × AObj} (h : BAt H v us R) : BAt (x :: H) v us (x :: R) := h.app [x]
theorem BAt.less {H R R1 : HL} {v : AV} {us : List Nat} (h : BAt H v us R) (p : SubP R1 R) : ∃ H3, BAt H3 v us R1 ∧ SubP H3 H := by
  obtain ⟨hv, o, q⟩ := h
  obtain ⟨G, pg⟩ := p
  refine ⟨_, ⟨hv, o, List.Perm.refl _⟩, G, q.trans ?_⟩
  refine permF fun f => ?_
  have := sum_perm pg f
  simp only [List.map_append, List.sum_append] at this ⊢
  omega
theorem BAt.ld {H R : HL} {v : AV} {us : List Nat} {a : AA} {n : Nat} {l : List AV} (h : BAt H v us R) (k : Ld B R a n l) : Ld B H a n l := by
  obtain ⟨hv, o, q⟩ := h
  exact Ld.perm q (Ld.right k)
theorem BAt.sl {H R : HL} {v : AV} {us : List Nat} {w : AV} {n : Nat} {xs : List (List AV)} (h : BAt H v us R) (k : SlIs B R w n xs) : SlIs B H w n xs := by
  obtain ⟨hv, o, q⟩ := h
  exact SlIs.perm q (SlIs.right k)
theorem BAt.heq {H R : HL} {v : AV} {us us2 : List Nat} (h : BAt H v us R) (e : us = us2) : BAt H v us2 R := e ▸ h
theorem num35_b {H R : HL} {v : AV} {us : List Nat} {n : Nat} (b : BAt H v us R) (hn : n < 18446744073709551616) (hl : us.length ≤ 10000000000) :
    WF B tab (.func 35) [v, .int .u64 (.ofNat n)] H fun r H' => BAt H' r (us ++ numB n) R := by
  obtain ⟨h, o, p⟩ := b
  refine WF.perm p ((num35_ok (H := H) o hn hl).mono ?_)
  rintro r _ ⟨h', o', rfl⟩
  exact ⟨h', o', List.Perm.refl _⟩
theorem text36_b {H R : HL} {v : AV} {us s : List Nat} (b : BAt H v us R) (hs : s.length ≤ 80) (hl : us.length ≤ 10000000000) :
    WF B tab (.func 36) [v, .str s] H fun r H' => BAt H' r (us ++ textB s) R := by
  obtain ⟨h, o, p⟩ := b
  refine WF.perm p ((text36_ok (H := H) o (by omega) hl).mono ?_)
  rintro r _ ⟨h', o', rfl⟩
  exact ⟨h', o', List.Perm.refl _⟩
theorem WD.appB {T : Tr FnI} {t : EL} {Hc R h1 : HL} {HH : List (Nat × HL)} {Q : EL → HL → Prop} {os : List DOper} {k : Nat} {g : Option (Nat × Bool)} {i bs : Nat} {x y : AO} {v u : AV} {us xs : List Nat} (hg : wantedL g t = some true) (hx : gl t x = some v) (hy : gl t y = some u) (b : BAt Hc v us R) (o1 : OwnSl u (cellsOfStr xs) xs.length 1 h1) (room : us.length + xs.length ≤ 140737488355328)
    (w : ∀ v' H', BAt H' v' (us ++ xs) (h1 ++ R) → WD B T os ((k, v') :: t) H' ((i, H') :: HH) Q) : WD B T (⟨⟨some k, .append 1 1 x y, g⟩, .loud, i, bs⟩ :: os) t (h1 ++ Hc) HH Q := by
  obtain ⟨h, o, p⟩ := b
  refine WD.app (h := h) (R := h1 ++ R) (cells := cellsOfStr us) (n := us.length) (m := xs.length) (xs := cellsOfStr xs) hg hx hy o ?_ (SrcIs.left (own_src o1)) (cells_of_str _) (cells_of_str _) (by rw [cells_str_len, Nat.mul_one]) (by omega) ?_
  · exact (p.append_left h1).trans (permF (by intro f; simp only [AV.cells, List.append_eq, List.map_cons, List.map_nil, List.sum_nil, List.map_append, List.sum_cons, List.sum_append, List.cons_append, List.nil_append, List.append_assoc, List.append_nil]; omega))
  · intro v' h' o'
    exact w v' _ ⟨h', own_app2 o', List.Perm.refl _⟩
theorem WD.cvU {T : Tr FnI} {t : EL} {H : HL} {HH : List (Nat × HL)} {Q : EL → HL → Prop} {os : List DOper} {k : Nat} {g : Option (Nat × Bool)} {i bs : Nat} {x : AO} {k0 : IntKind} {m : Nat} (hg : wantedL g t = some true) (hx : gl t x = some (.int k0 (.ofNat m))) (h : m < 18446744073709551616) (w : WD B T os ((k, .int .u64 (.ofNat m)) :: t) H HH Q) : WD B T (⟨⟨some k, .cvInt .u64 x, g⟩, .quiet, i, bs⟩ :: os) t H HH Q :=
  WD.pur hg (fun h' => by
    have : IntKind.u64.wrap (Int.ofNat m) = Int.ofNat m := by rw [IntKind.wrap_u64]; simp only [Int.ofNat_eq_natCast]; omega
    simp only [aopL, hx, this]) w
set_option maxHeartbeats 16000000 in
theorem rest39_ok {H R : HL} {d : DD} {v : AV} {us : List Nat} (hd : DdAt B R d) (hb : ¬ badD d) (b : BAt H v us R) (hl : us.length ≤ 1300000) :
    WF B tab (.func 39) [v, .agg (dumpC d)] H fun r H' => BAt H' r (((((((((us ++ rowsB d.e) ++ rowsB d.l) ++ numB d.l0) ++ numB d.l1) ++ numB d.l2) ++ numB d.l3) ++ numB d.l4) ++ numB d.l5) ++ rowsB d.q) R := by
  refine WF.lessP ?_
  refine WF.fn g39 rfl ?_
  have cn := hd.n.sl.cell
  have cs := hd.s.sl.cell
  have cc := hd.c.sl.cell
  have ci := hd.i.sl.cell
  have ce := hd.e.sl.cell
  have cl := hd.l.sl.cell
  have cq := hd.q.sl.cell
  obtain ⟨gn, ln⟩ := good_n hd hb
  obtain ⟨gs, ls⟩ := good_s hd hb
  obtain ⟨gc, lc⟩ := good_c hd hb
  obtain ⟨gi, li⟩ := good_i hd hb
  obtain ⟨ge, le⟩ := good_e hd hb
  obtain ⟨gl, ll⟩ := good_l hd hb
  obtain ⟨gq, lq⟩ := good_q hd hb
  obtain ⟨n0, n1, n2, n3, n4, n5, n6⟩ := nums_len hd
  obtain ⟨b0, b1, b2, b3, b4, b5, b6⟩ := hd.b
  obtain ⟨_, kn, ks, kc, ki, ke, kl, kq⟩ := goods hb
  refine WC.seq (WC.reg ?_)
  repeat' (first
    | apply WOps.nil | (apply WOps.bx; rfl; rfl; (· repeat' (first | rfl | assumption | apply ac1)); intro _) | (apply WOps.purG; rfl; (intro _; rfl)))
  rename_i p1
  have w0 := b.cons (x := (p1, .row (dumpC d)))
  refine WC.seq (WC.reg ?_)
  repeat' (first
    | apply WOps.nil | (apply WOps.ldG; rfl; rfl; (first | exact ld0 rfl | exact ld1 rfl | exact ld2 rfl); rfl) | (apply WOps.lenS; rfl; rfl; exact w0.sl (SlIs.cons hd.e.sl)) | (apply WOps.cvU; rfl; rfl; rw [List.length_map]; omega) | (apply WOps.clA; rfl; rfl; exact num35_b w0 (by rw [List.length_map]; omega) (by first | omega | (simp only [List.length_append, List.length_nil]; omega)); intro v1 H1 w1) | (apply WOps.purG; rfl; (intro _; rfl)))
  rw [List.length_map] at w1
  refine WC.cut2 (X := AV × HL) (fun x => [(0, x.1), (3, .ptr ⟨false, p1, 0⟩)]) (fun x => x.2) (fun x => BAt x.2 x.1 (us ++ rowsB d.e) ((p1, .row (dumpC d)) :: R)) ?_ ?_
  · refine WC.seq (WC.reg ?_)
    repeat' (first
      | apply WOps.nil | apply WC.block | (apply WOps.purG; rfl; (intro _; rfl)))
    refine WC.loop ?_
    obtain ⟨i, hi⟩ : ∃ i : Nat, i = 0 := ⟨0, rfl⟩
    obtain ⟨u, hu⟩ : ∃ l' : List Nat, l' = us ++ numB d.e.length := ⟨_, rfl⟩
    refine WL.le (t' := [(0, v1), (3, .ptr ⟨false, p1, 0⟩), (5, .int .i64 (.ofNat i))]) (by subst hi; exact (Sub1.cons rfl (Sub1.cons rfl (Sub1.cons rfl Sub1.nil)))) ?_
    have zb : BAt H1 v1 u ((p1, .row (dumpC d)) :: R) := by subst hu; exact w1
    replace hu : u = us ++ (numB d.e.length ++ ((d.e.take i).map rowB).flatten) := by subst hi hu; simp
    have hle : i ≤ d.e.length := by omega
    clear hi w1
    have ok := rowOk_of hd.e ke
    have hn0 := numB_len (n := d.e.length) (by omega)
    induction hk : d.e.length - i using Nat.strongRecOn generalizing i u v1 H1 with | _ k ih => ?_
    apply WL.step
    refine WC.seq (WC.seq (WC.reg ?_))
    repeat' (first
      | apply WOps.nil | apply WC.skip | apply WC.exit | (apply WOps.ldG; rfl; rfl; exact zb.ld (Ld.own Tk.head rfl); rfl) | (apply WOps.lenS; rfl; rfl; exact zb.sl (SlIs.cons hd.e.sl)) | (apply WOps.cmp; rfl; rfl; rfl; rfl; intro _ _) | (apply WOps.purG; rfl; (intro _; rfl)) | (apply WC.condA; rfl; all_goals (intro hb; try subst hb)))
    all_goals rw [List.length_map] at *
    · have hlt : i < d.e.length := by
        have h0 := ‹true = true ↔ cmpP BinOp.lss (Int.ofNat i) (Int.ofNat d.e.length)›.1 rfl
        simp [cmpP] at h0; omega
      have hc : (d.e.map rowC)[i]? = some (rowC d.e[i]) := by rw [List.getElem?_map, List.getElem?_eq_getElem hlt]; rfl
      have hul : u.length ≤ 2500000 + 9 + 64 * 5047 := by
        have h2 := rows_len (l := d.e.take i) fun r hr => ⟨(ok r (List.mem_of_mem_take hr)).2.1, (shE_len (ok r (List.mem_of_mem_take hr)).1).2⟩
        rw [hu]; simp only [List.length_append, List.length_take, List.length_nil] at h2 ⊢; omega
      obtain ⟨o1, o2, o3⟩ := ok d.e[i] (List.getElem_mem hlt)
      obtain ⟨w1, w2⟩ := shE_len o1
      have ca := shE_cell o1 o3
      have nx : ∀ v' H', BAt H' v' (u ++ rowB d.e[i]) ((p1, .row (dumpC d)) :: R) → WL B tab c39.nt none _ [(0, v'), (3, .ptr ⟨false, p1, 0⟩), (5, .int .i64 (.ofNat (i + 1)))] H' _ := fun v' H' b' => ih _ (by omega) v' H' (i + 1) (u ++ rowB d.e[i]) b' (by rw [hu, List.take_succ_eq_append_getElem hlt]; simp only [List.map_append, List.flatten_append, List.map_cons, List.map_nil, List.flatten_cons, List.flatten_nil, List.append_nil, List.append_assoc]) (by omega) rfl
      have hi9 : i + 1 ≤ 9223372036854775807 := by omega
      clear ih hu
      generalize d.e[i] = r at *
      refine WC.seq (WC.block (WC.seq (WC.reg ?_)))
      repeat' (first
        | (apply WOps.alc; rfl; intro _) | (apply WOps.ldG; rfl; rfl; exact zb.ld (Ld.own Tk.head rfl); rfl) | (apply WOps.ixSl; rfl; rfl; rfl; exact zb.sl (SlIs.cons hd.e.sl); exact hc; intro ax hax) | (apply WOps.ldG; rfl; rfl; exact hax; rfl) | (apply WOps.purG; rfl; (intro _; rfl)))
      rename_i p7
      refine WOps.st (v := .agg (rowC r)) (cs' := rowC r) rfl rfl Tk.head w1 ca (put_all w1) ?_
      obtain ⟨a, b, c, d1, e, f, rfl⟩ := o1
      obtain ⟨wa, ra⟩ := o2 _ (List.Mem.head _)
      obtain ⟨wb, rb⟩ := o2 _ (.tail _ (List.Mem.head _))
      obtain ⟨wc, rc⟩ := o2 _ (.tail _ (.tail _ (List.Mem.head _)))
      obtain ⟨wd1, rd1⟩ := o2 _ (.tail _ (.tail _ (.tail _ (List.Mem.head _))))
      obtain ⟨we, re⟩ := o2 _ (.tail _ (.tail _ (.tail _ (.tail _ (List.Mem.head _)))))
      obtain ⟨wf, rf⟩ := o2 _ (.tail _ (.tail _ (.tail _ (.tail _ (.tail _ (List.Mem.head _))))))
      have qa : (textB a).length ≤ 89 := textB_len ra
      have qb : (textB b).length ≤ 89 := textB_len rb
      have qc := numB_len (n := c) (by simp only [Fd.wf] at *; omega)
      have qd1 := numB_len (n := d1) (by simp only [Fd.wf] at *; omega)
      have qe := numB_len (n := e) (by simp only [Fd.wf] at *; omega)
      have qf := numB_len (n := f) (by simp only [Fd.wf] at *; omega)
      have z0 := zb.cons (x := (p7, .row (rowC [.txt a, .txt b, .num c, .num d1, .num e, .num f])))
      repeat' (first
        | apply WOps.nil | apply WC.reg | apply WC.dreg | apply WD.nil | (apply WD.load; rfl; · repeat' (first | refine at1 ?_ rfl | apply at2 | exact same0 | refine same1 ?_ rfl | apply same2 | exact rd_ld rfl ((by first | exact z0.ld (by first | exact Ld.own Tk.head rfl | exact Ld.right (Ld.own Tk.head rfl)) | exact z1.ld (by first | exact Ld.own Tk.head rfl | exact Ld.right (Ld.own Tk.head rfl)) | exact z2.ld (by first | exact Ld.own Tk.head rfl | exact Ld.right (Ld.own Tk.head rfl)) | exact z3.ld (by first | exact Ld.own Tk.head rfl | exact Ld.right (Ld.own Tk.head rfl)) | exact z4.ld (by first | exact Ld.own Tk.head rfl | exact Ld.right (Ld.own Tk.head rfl)) | exact z5.ld (by first | exact Ld.own Tk.head rfl | exact Ld.right (Ld.own Tk.head rfl)) | exact z6.ld (by first | exact Ld.own Tk.head rfl | exact Ld.right (Ld.own Tk.head rfl)))) rfl)) | (apply WD.clA; rfl; rfl; exact text36_b z0 ra (by first | omega | (simp only [List.length_append]; omega)); intro v1 H1 z1) | (apply WD.clA; rfl; rfl; exact text36_b z1 rb (by first | omega | (simp only [List.length_append]; omega)); intro v2 H2 z2) | (apply WD.clA; rfl; rfl; exact num35_b z2 wc (by first | omega | (simp only [List.length_append]; omega)); intro v3 H3 z3) | (apply WD.clA; rfl; rfl; exact num35_b z3 wd1 (by first | omega | (simp only [List.length_append]; omega)); intro v4 H4 z4) | (apply WD.clA; rfl; rfl; exact num35_b z4 we (by first | omega | (simp only [List.length_append]; omega)); intro v5 H5 z5) | (apply WD.clA; rfl; rfl; exact num35_b z5 wf (by first | omega | (simp only [List.length_append]; omega)); intro v6 H6 z6) | (apply WOps.addN; rfl; rfl; rfl; omega) | (apply WOps.purG; rfl; (intro _; rfl)) | (apply WD.pur; rfl; (intro _; rfl)))
      obtain ⟨H9, b9, s9⟩ := z6.less (R1 := (p1, .row (dumpC d)) :: R) (subF (by intro f; simp only [AV.cells, List.append_eq, List.map_cons, List.map_nil, List.sum_nil, List.map_append, List.sum_cons, List.sum_append, List.cons_append, List.nil_append, List.append_assoc, List.append_nil]; omega))
      exact WL.le (Sub1.cons rfl (Sub1.cons rfl (Sub1.cons rfl Sub1.nil))) (WL.lessP s9 (nx _ _ (b9.heq (by simp [rowB, Fd.bytes]))))
    · have hge : i = d.e.length := by
        have h0 := eq_of_ff ‹false = true ↔ cmpP BinOp.lss (Int.ofNat i) (Int.ofNat d.e.length)›
        simp [cmpP] at h0; omega
      rw [hge, List.take_length] at hu
      exact ⟨(v1, H1), Sub1.cons rfl (Sub1.cons rfl Sub1.nil), SubP.refl, zb.heq (by rw [hu]; rfl)⟩
  rintro ⟨v0, H0⟩ w0
  replace w0 : BAt H0 v0 (us ++ rowsB d.e) ((p1, .row (dumpC d)) :: R) := w0
  show WC B tab _ _ _ [(0, v0), (3, .ptr ⟨false, p1, 0⟩)] H0 _
  refine WC.seq (WC.reg ?_)
  repeat' (first
    | apply WOps.nil | (apply WOps.ldG; rfl; rfl; exact w0.ld (Ld.own Tk.head rfl); rfl) | (apply WOps.lenS; rfl; rfl; exact w0.sl (SlIs.cons hd.l.sl)) | (apply WOps.cvU; rfl; rfl; rw [List.length_map]; omega) | (apply WOps.clA; rfl; rfl; exact num35_b w0 (by rw [List.length_map]; omega) (by first | omega | (simp only [List.length_append, List.length_nil]; omega)); intro v1 H1 w1) | (apply WOps.purG; rfl; (intro _; rfl)))
  rw [List.length_map] at w1
  refine WC.cut2 (X := AV × HL) (fun x => [(0, x.1), (3, .ptr ⟨false, p1, 0⟩)]) (fun x => x.2) (fun x => BAt x.2 x.1 ((us ++ rowsB d.e) ++ rowsB d.l) ((p1, .row (dumpC d)) :: R)) ?_ ?_
  · refine WC.seq (WC.reg ?_)
    repeat' (first
      | apply WOps.nil | apply WC.block | (apply WOps.purG; rfl; (intro _; rfl)))
    refine WC.loop ?_
    obtain ⟨i, hi⟩ : ∃ i : Nat, i = 0 := ⟨0, rfl⟩
    obtain ⟨u, hu⟩ : ∃ l' : List Nat, l' = (us ++ rowsB d.e) ++ numB d.l.length := ⟨_, rfl⟩
    refine WL.le (t' := [(0, v1), (3, .ptr ⟨false, p1, 0⟩), (7, .int .i64 (.ofNat i))]) (by subst hi; exact (Sub1.cons rfl (Sub1.cons rfl (Sub1.cons rfl Sub1.nil)))) ?_
    have zb : BAt H1 v1 u ((p1, .row (dumpC d)) :: R) := by subst hu; exact w1
    replace hu : u = (us ++ rowsB d.e) ++ (numB d.l.length ++ ((d.l.take i).map rowB).flatten) := by subst hi hu; simp
    have hle : i ≤ d.l.length := by omega
    clear hi w1
    have ok := rowOk_of hd.l kl
    have hn0 := numB_len (n := d.l.length) (by omega)
    induction hk : d.l.length - i using Nat.strongRecOn generalizing i u v1 H1 with | _ k ih => ?_
    apply WL.step
    refine WC.seq (WC.seq (WC.reg ?_))
    repeat' (first
      | apply WOps.nil | apply WC.skip | apply WC.exit | (apply WOps.ldG; rfl; rfl; exact zb.ld (Ld.own Tk.head rfl); rfl) | (apply WOps.lenS; rfl; rfl; exact zb.sl (SlIs.cons hd.l.sl)) | (apply WOps.cmp; rfl; rfl; rfl; rfl; intro _ _) | (apply WOps.purG; rfl; (intro _; rfl)) | (apply WC.condA; rfl; all_goals (intro hb; try subst hb)))
    all_goals rw [List.length_map] at *
    · have hlt : i < d.l.length := by
        have h0 := ‹true = true ↔ cmpP BinOp.lss (Int.ofNat i) (Int.ofNat d.l.length)›.1 rfl
        simp [cmpP] at h0; omega
      have hc : (d.l.map rowC)[i]? = some (rowC d.l[i]) := by rw [List.getElem?_map, List.getElem?_eq_getElem hlt]; rfl
      have hul : u.length ≤ 2500000 + 9 + 64 * 5047 := by
        have h2 := rows_len (l := d.l.take i) fun r hr => ⟨(ok r (List.mem_of_mem_take hr)).2.1, (shL_len (ok r (List.mem_of_mem_take hr)).1).2⟩
        rw [hu]; simp only [List.length_append, List.length_take, List.length_nil] at h2 ⊢; omega
      obtain ⟨o1, o2, o3⟩ := ok d.l[i] (List.getElem_mem hlt)
      obtain ⟨w1, w2⟩ := shL_len o1
      have ca := shL_cell o1 o3
      have nx : ∀ v' H', BAt H' v' (u ++ rowB d.l[i]) ((p1, .row (dumpC d)) :: R) → WL B tab c39.nt none _ [(0, v'), (3, .ptr ⟨false, p1, 0⟩), (7, .int .i64 (.ofNat (i + 1)))] H' _ := fun v' H' b' => ih _ (by omega) v' H' (i + 1) (u ++ rowB d.l[i]) b' (by rw [hu, List.take_succ_eq_append_getElem hlt]; simp only [List.map_append, List.flatten_append, List.map_cons, List.map_nil, List.flatten_cons, List.flatten_nil, List.append_nil, List.append_assoc]) (by omega) rfl
      have hi9 : i + 1 ≤ 9223372036854775807 := by omega
      clear ih hu
      generalize d.l[i] = r at *
      refine WC.seq (WC.block (WC.seq (WC.reg ?_)))
      repeat' (first
        | (apply WOps.alc; rfl; intro _) | (apply WOps.ldG; rfl; rfl; exact zb.ld (Ld.own Tk.head rfl); rfl) | (apply WOps.ixSl; rfl; rfl; rfl; exact zb.sl (SlIs.cons hd.l.sl); exact hc; intro ax hax) | (apply WOps.ldG; rfl; rfl; exact hax; rfl) | (apply WOps.purG; rfl; (intro _; rfl)))
      rename_i p7
      refine WOps.st (v := .agg (rowC r)) (cs' := rowC r) rfl rfl Tk.head w1 ca (put_all w1) ?_
      obtain ⟨a, b, c, d1, rfl⟩ := o1
      obtain ⟨wa, ra⟩ := o2 _ (List.Mem.head _)
      obtain ⟨wb, rb⟩ := o2 _ (.tail _ (List.Mem.head _))
      obtain ⟨nb, eb⟩ : ∃ n : Nat, b = .ofNat n := ⟨b.toNat, by simp only [Fd.right] at rb; simp only [Int.ofNat_eq_natCast]; omega⟩
      subst eb
      have lb : nb < 65536 := by simp only [Fd.right, Fd.wf, Int.ofNat_eq_natCast] at rb wb; omega
      obtain ⟨wc, rc⟩ := o2 _ (.tail _ (.tail _ (List.Mem.head _)))
      obtain ⟨wd1, rd1⟩ := o2 _ (.tail _ (.tail _ (.tail _ (List.Mem.head _))))
      have qa := numB_len (n := a) (by simp only [Fd.wf] at *; omega)
      have qb := numB_len (n := nb) (by omega)
      have qc := numB_len (n := c) (by simp only [Fd.wf] at *; omega)
      have qd1 := numB_len (n := d1) (by simp only [Fd.wf] at *; omega)
      have z0 := zb.cons (x := (p7, .row (rowC [.num a, .int (.ofNat nb) 255, .num c, .num d1])))
      repeat' (first
        | apply WOps.nil | apply WC.reg | apply WC.dreg | apply WD.nil | (apply WD.load; rfl; · repeat' (first | refine at1 ?_ rfl | apply at2 | exact same0 | refine same1 ?_ rfl | apply same2 | exact rd_ld rfl ((by first | exact z0.ld (by first | exact Ld.own Tk.head rfl | exact Ld.right (Ld.own Tk.head rfl)) | exact z1.ld (by first | exact Ld.own Tk.head rfl | exact Ld.right (Ld.own Tk.head rfl)) | exact z2.ld (by first | exact Ld.own Tk.head rfl | exact Ld.right (Ld.own Tk.head rfl)) | exact z3.ld (by first | exact Ld.own Tk.head rfl | exact Ld.right (Ld.own Tk.head rfl)) | exact z4.ld (by first | exact Ld.own Tk.head rfl | exact Ld.right (Ld.own Tk.head rfl)))) rfl)) | (apply WD.clA; rfl; rfl; exact num35_b z0 wa (by first | omega | (simp only [List.length_append]; omega)); intro v1 H1 z1) | (apply WD.clA; rfl; rfl; exact num35_b z1 (n := nb) (by omega) (by first | omega | (simp only [List.length_append]; omega)); intro v2 H2 z2) | (apply WD.clA; rfl; rfl; exact num35_b z2 wc (by first | omega | (simp only [List.length_append]; omega)); intro v3 H3 z3) | (apply WD.clA; rfl; rfl; exact num35_b z3 wd1 (by first | omega | (simp only [List.length_append]; omega)); intro v4 H4 z4) | (apply WD.cvU; rfl; rfl; (first | omega | (simp only [Fd.wf] at *; omega))) | (apply WOps.addN; rfl; rfl; rfl; omega) | (apply WOps.purG; rfl; (intro _; rfl)) | (apply WD.pur; rfl; (intro _; rfl)))
      obtain ⟨H9, b9, s9⟩ := z4.less (R1 := (p1, .row (dumpC d)) :: R) (subF (by intro f; simp only [AV.cells, List.append_eq, List.map_cons, List.map_nil, List.sum_nil, List.map_append, List.sum_cons, List.sum_append, List.cons_append, List.nil_append, List.append_assoc, List.append_nil]; omega))
      exact WL.le (Sub1.cons rfl (Sub1.cons rfl (Sub1.cons rfl Sub1.nil))) (WL.lessP s9 (nx _ _ (b9.heq (by simp [rowB, Fd.bytes]))))
    · have hge : i = d.l.length := by
        have h0 := eq_of_ff ‹false = true ↔ cmpP BinOp.lss (Int.ofNat i) (Int.ofNat d.l.length)›
        simp [cmpP] at h0; omega
      rw [hge, List.take_length] at hu
      exact ⟨(v1, H1), Sub1.cons rfl (Sub1.cons rfl Sub1.nil), SubP.refl, zb.heq (by rw [hu]; rfl)⟩
  rintro ⟨v0, H0⟩ w0
  replace w0 : BAt H0 v0 ((us ++ rowsB d.e) ++ rowsB d.l) ((p1, .row (dumpC d)) :: R) := w0
  show WC B tab _ _ _ [(0, v0), (3, .ptr ⟨false, p1, 0⟩)] H0 _
  refine WC.seq (WC.seq (WC.reg ?_))
  repeat' (first
    | apply WOps.nil | apply WC.block | (apply WOps.purG; rfl; (intro _; rfl)))
  refine WC.loop ?_
  apply WL.step
  repeat' (first
    | apply WOps.nil | apply WC.seq | apply WC.reg | apply WC.skip | (apply WC.condT; rfl) | apply WC.block | (apply WOps.ldG; rfl; rfl; exact w0.ld (Ld.own Tk.head rfl); rfl) | (apply WOps.clA; rfl; rfl; exact num35_b w0 b1 (by first | omega | (simp only [List.length_append, List.length_nil]; omega)); intro v1 H1 w1) | (apply WOps.purG; rfl; (intro _; rfl)))
  apply WL.step
  repeat' (first
    | apply WOps.nil | apply WC.seq | apply WC.reg | apply WC.skip | (apply WC.condT; rfl) | apply WC.block | (apply WOps.ldG; rfl; rfl; exact w1.ld (Ld.own Tk.head rfl); rfl) | (apply WOps.clA; rfl; rfl; exact num35_b w1 b2 (by first | omega | (simp only [List.length_append, List.length_nil]; omega)); intro v2 H2 w2) | (apply WOps.purG; rfl; (intro _; rfl)))
  apply WL.step
  repeat' (first
    | apply WOps.nil | apply WC.seq | apply WC.reg | apply WC.skip | (apply WC.condT; rfl) | apply WC.block | (apply WOps.ldG; rfl; rfl; exact w2.ld (Ld.own Tk.head rfl); rfl) | (apply WOps.clA; rfl; rfl; exact num35_b w2 b3 (by first | omega | (simp only [List.length_append, List.length_nil]; omega)); intro v3 H3 w3) | (apply WOps.purG; rfl; (intro _; rfl)))
  apply WL.step
  repeat' (first
    | apply WOps.nil | apply WC.seq | apply WC.reg | apply WC.skip | (apply WC.condT; rfl) | apply WC.block | (apply WOps.ldG; rfl; rfl; exact w3.ld (Ld.own Tk.head rfl); rfl) | (apply WOps.clA; rfl; rfl; exact num35_b w3 b4 (by first | omega | (simp only [List.length_append, List.length_nil]; omega)); intro v4 H4 w4) | (apply WOps.purG; rfl; (intro _; rfl)))
  apply WL.step
  repeat' (first
    | apply WOps.nil | apply WC.seq | apply WC.reg | apply WC.skip | (apply WC.condT; rfl) | apply WC.block | (apply WOps.ldG; rfl; rfl; exact w4.ld (Ld.own Tk.head rfl); rfl) | (apply WOps.clA; rfl; rfl; exact num35_b w4 b5 (by first | omega | (simp only [List.length_append, List.length_nil]; omega)); intro v5 H5 w5) | (apply WOps.purG; rfl; (intro _; rfl)))
  apply WL.step
  repeat' (first
    | apply WOps.nil | apply WC.seq | apply WC.reg | apply WC.skip | (apply WC.condT; rfl) | apply WC.block | (apply WOps.ldG; rfl; rfl; exact w5.ld (Ld.own Tk.head rfl); rfl) | (apply WOps.clA; rfl; rfl; exact num35_b w5 b6 (by first | omega | (simp only [List.length_append, List.length_nil]; omega)); intro v6 H6 w6) | (apply WOps.purG; rfl; (intro _; rfl)))
  apply WL.step
  refine WC.seq (WC.seq (WC.reg ?_))
  repeat' (first
    | apply WOps.nil | apply WC.exit | (apply WC.condF; rfl) | (apply WOps.purG; rfl; (intro _; rfl)))
  clear w0 w1 w2 w3 w4 w5
  revert w6
  generalize v6 = v0
  generalize H6 = H0
  intro w0
  refine WC.seq (WC.reg ?_)
  repeat' (first
    | apply WOps.nil | (apply WOps.ldG; rfl; rfl; exact w0.ld (Ld.own Tk.head rfl); rfl) | (apply WOps.lenS; rfl; rfl; exact w0.sl (SlIs.cons hd.q.sl)) | (apply WOps.cvU; rfl; rfl; rw [List.length_map]; omega) | (apply WOps.clA; rfl; rfl; exact num35_b w0 (by rw [List.length_map]; omega) (by first | omega | (simp only [List.length_append, List.length_nil]; omega)); intro v1 H1 w1) | (apply WOps.purG; rfl; (intro _; rfl)))
  rw [List.length_map] at w1
  refine WC.cut2 (X := AV × HL) (fun x => [(0, x.1), (3, .ptr ⟨false, p1, 0⟩)]) (fun x => x.2) (fun x => BAt x.2 x.1 (((((((((us ++ rowsB d.e) ++ rowsB d.l) ++ numB d.l0) ++ numB d.l1) ++ numB d.l2) ++ numB d.l3) ++ numB d.l4) ++ numB d.l5) ++ rowsB d.q) ((p1, .row (dumpC d)) :: R)) ?_ ?_
  · refine WC.seq (WC.reg ?_)
    repeat' (first
      | apply WOps.nil | apply WC.block | (apply WOps.purG; rfl; (intro _; rfl)))
    refine WC.loop ?_
    obtain ⟨i, hi⟩ : ∃ i : Nat, i = 0 := ⟨0, rfl⟩
    obtain ⟨u, hu⟩ : ∃ l' : List Nat, l' = ((((((((us ++ rowsB d.e) ++ rowsB d.l) ++ numB d.l0) ++ numB d.l1) ++ numB d.l2) ++ numB d.l3) ++ numB d.l4) ++ numB d.l5) ++ numB d.q.length := ⟨_, rfl⟩
    refine WL.le (t' := [(0, v1), (3, .ptr ⟨false, p1, 0⟩), (10, .int .i64 (.ofNat i))]) (by subst hi; exact (Sub1.cons rfl (Sub1.cons rfl (Sub1.cons rfl Sub1.nil)))) ?_
    have zb : BAt H1 v1 u ((p1, .row (dumpC d)) :: R) := by subst hu; exact w1
    replace hu : u = ((((((((us ++ rowsB d.e) ++ rowsB d.l) ++ numB d.l0) ++ numB d.l1) ++ numB d.l2) ++ numB d.l3) ++ numB d.l4) ++ numB d.l5) ++ (numB d.q.length ++ ((d.q.take i).map rowB).flatten) := by subst hi hu; simp
    have hle : i ≤ d.q.length := by omega
    clear hi w1
    have ok := rowOk_of hd.q kq
    have hn0 := numB_len (n := d.q.length) (by omega)
    induction hk : d.q.length - i using Nat.strongRecOn generalizing i u v1 H1 with | _ k ih => ?_
    apply WL.step
    refine WC.seq (WC.seq (WC.reg ?_))
    repeat' (first
      | apply WOps.nil | apply WC.skip | apply WC.exit | (apply WOps.ldG; rfl; rfl; exact zb.ld (Ld.own Tk.head rfl); rfl) | (apply WOps.lenS; rfl; rfl; exact zb.sl (SlIs.cons hd.q.sl)) | (apply WOps.cmp; rfl; rfl; rfl; rfl; intro _ _) | (apply WOps.purG; rfl; (intro _; rfl)) | (apply WC.condA; rfl; all_goals (intro hb; try subst hb)))
    all_goals rw [List.length_map] at *
    · have hlt : i < d.q.length := by
        have h0 := ‹true = true ↔ cmpP BinOp.lss (Int.ofNat i) (Int.ofNat d.q.length)›.1 rfl
        simp [cmpP] at h0; omega
      have hc : (d.q.map rowC)[i]? = some (rowC d.q[i]) := by rw [List.getElem?_map, List.getElem?_eq_getElem hlt]; rfl
      have hul : u.length ≤ 2500000 + 9 + 64 * 5047 := by
        have h2 := rows_len (l := d.q.take i) fun r hr => ⟨(ok r (List.mem_of_mem_take hr)).2.1, (shQ_len (ok r (List.mem_of_mem_take hr)).1).2⟩
        rw [hu]; simp only [List.length_append, List.length_take, List.length_nil] at h2 ⊢; omega
      obtain ⟨o1, o2, o3⟩ := ok d.q[i] (List.getElem_mem hlt)
      obtain ⟨w1, w2⟩ := shQ_len o1
      have ca := shQ_cell o1 o3
      have nx : ∀ v' H', BAt H' v' (u ++ rowB d.q[i]) ((p1, .row (dumpC d)) :: R) → WL B tab c39.nt none _ [(0, v'), (3, .ptr ⟨false, p1, 0⟩), (10, .int .i64 (.ofNat (i + 1)))] H' _ := fun v' H' b' => ih _ (by omega) v' H' (i + 1) (u ++ rowB d.q[i]) b' (by rw [hu, List.take_succ_eq_append_getElem hlt]; simp only [List.map_append, List.flatten_append, List.map_cons, List.map_nil, List.flatten_cons, List.flatten_nil, List.append_nil, List.append_assoc]) (by omega) rfl
      have hi9 : i + 1 ≤ 9223372036854775807 := by omega
      clear ih hu
      generalize d.q[i] = r at *
      refine WC.seq (WC.block (WC.seq (WC.reg ?_)))
      repeat' (first
        | (apply WOps.alc; rfl; intro _) | (apply WOps.ldG; rfl; rfl; exact zb.ld (Ld.own Tk.head rfl); rfl) | (apply WOps.ixSl; rfl; rfl; rfl; exact zb.sl (SlIs.cons hd.q.sl); exact hc; intro ax hax) | (apply WOps.ldG; rfl; rfl; exact hax; rfl) | (apply WOps.purG; rfl; (intro _; rfl)))
      rename_i p7
      refine WOps.st (v := .agg (rowC r)) (cs' := rowC r) rfl rfl Tk.head w1 ca (put_all w1) ?_
      obtain ⟨a, b, c, rfl⟩ := o1
      obtain ⟨wa, ra⟩ := o2 _ (List.Mem.head _)
      obtain ⟨na, ea⟩ : ∃ n : Nat, a = .ofNat n := ⟨a.toNat, by simp only [Fd.right] at ra; simp only [Int.ofNat_eq_natCast]; omega⟩
      subst ea
      have la : na < 65536 := by simp only [Fd.right, Fd.wf, Int.ofNat_eq_natCast] at ra wa; omega
      obtain ⟨wb, rb⟩ := o2 _ (.tail _ (List.Mem.head _))
      obtain ⟨wc, rc⟩ := o2 _ (.tail _ (.tail _ (List.Mem.head _)))
      have qa := numB_len (n := na) (by omega)
      have qb := numB_len (n := b) (by simp only [Fd.wf] at *; omega)
      have qc := numB_len (n := c) (by simp only [Fd.wf] at *; omega)
      have z0 := zb.cons (x := (p7, .row (rowC [.int (.ofNat na) 255, .u32 b, .num c])))
      repeat' (first
        | apply WOps.nil | apply WC.reg | apply WC.dreg | apply WD.nil | (apply WD.load; rfl; · repeat' (first | refine at1 ?_ rfl | apply at2 | exact same0 | refine same1 ?_ rfl | apply same2 | exact rd_ld rfl ((by first | exact z0.ld (by first | exact Ld.own Tk.head rfl | exact Ld.right (Ld.own Tk.head rfl)) | exact z1.ld (by first | exact Ld.own Tk.head rfl | exact Ld.right (Ld.own Tk.head rfl)) | exact z2.ld (by first | exact Ld.own Tk.head rfl | exact Ld.right (Ld.own Tk.head rfl)) | exact z3.ld (by first | exact Ld.own Tk.head rfl | exact Ld.right (Ld.own Tk.head rfl)))) rfl)) | (apply WD.clA; rfl; rfl; exact num35_b z0 (n := na) (by omega) (by first | omega | (simp only [List.length_append]; omega)); intro v1 H1 z1) | (apply WD.clA; rfl; rfl; exact num35_b z1 (n := b) (by simp only [Fd.wf] at *; omega) (by first | omega | (simp only [List.length_append]; omega)); intro v2 H2 z2) | (apply WD.clA; rfl; rfl; exact num35_b z2 wc (by first | omega | (simp only [List.length_append]; omega)); intro v3 H3 z3) | (apply WD.cvU; rfl; rfl; (first | omega | (simp only [Fd.wf] at *; omega))) | (apply WOps.addN; rfl; rfl; rfl; omega) | (apply WOps.purG; rfl; (intro _; rfl)) | (apply WD.pur; rfl; (intro _; rfl)))
      obtain ⟨H9, b9, s9⟩ := z3.less (R1 := (p1, .row (dumpC d)) :: R) (subF (by intro f; simp only [AV.cells, List.append_eq, List.map_cons, List.map_nil, List.sum_nil, List.map_append, List.sum_cons, List.sum_append, List.cons_append, List.nil_append, List.append_assoc, List.append_nil]; omega))
      exact WL.le (Sub1.cons rfl (Sub1.cons rfl (Sub1.cons rfl Sub1.nil))) (WL.lessP s9 (nx _ _ (b9.heq (by simp [rowB, Fd.bytes]))))
    · have hge : i = d.q.length := by
        have h0 := eq_of_ff ‹false = true ↔ cmpP BinOp.lss (Int.ofNat i) (Int.ofNat d.q.length)›
        simp [cmpP] at h0; omega
      rw [hge, List.take_length] at hu
      exact ⟨(v1, H1), Sub1.cons rfl (Sub1.cons rfl Sub1.nil), SubP.refl, zb.heq (by rw [hu]; rfl)⟩
  rintro ⟨v0, H0⟩ w0
  replace w0 : BAt H0 v0 (((((((((us ++ rowsB d.e) ++ rowsB d.l) ++ numB d.l0) ++ numB d.l1) ++ numB d.l2) ++ numB d.l3) ++ numB d.l4) ++ numB d.l5) ++ rowsB d.q) ((p1, .row (dumpC d)) :: R) := w0
  show WC B tab _ _ _ [(0, v0), (3, .ptr ⟨false, p1, 0⟩)] H0 _
  repeat' (first
    | apply WOps.nil | apply WC.seq | apply WC.reg | apply WC.ret | (apply WOps.purG; rfl; (intro _; rfl)))
  obtain ⟨H9, b9, s9⟩ := w0.less (R1 := R) (subF (by intro f; simp only [AV.cells, List.append_eq, List.map_cons, List.map_nil, List.sum_nil, List.map_append, List.sum_cons, List.sum_append, List.cons_append, List.nil_append, List.append_assoc, List.append_nil]; omega))
  exact ⟨trivial, [_], ⟨_, [], rfl, rfl, rfl⟩, H9, b9, s9⟩
end Go.Proofs.Ytdcbglljljfleaa.DU
