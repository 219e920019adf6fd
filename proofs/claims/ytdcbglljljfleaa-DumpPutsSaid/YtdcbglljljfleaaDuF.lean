/- What the functions do, shown by the logic. -/
import Derived.Test.YtdcbglljljfleaaDuE
import Derived.Test.YtdcbglljljfleaaAbsN2
set_option linter.unusedSimpArgs false
set_option linter.unusedVariables false
set_option maxRecDepth 20000
namespace Go.Proofs.Ytdcbglljljfleaa.DU
open Go.Proofs.Ytdcbglljljfleaa.Abs
variable {B : Nat → List AV}
set_option maxHeartbeats 16000000 in
theorem bytes11_ok {R : HL} {d : DD} (hd : DdAt B R d) (hb : ¬ badD d) :
    WF B tab (.func 11) [.agg (dumpC d)] R fun r H' => BAt H' r (dumpB d) R := by
  refine WF.lessP ?_
  refine WF.fn g11 rfl ?_
  have cn := hd.n.sl.cell
  have cs := hd.s.sl.cell
  have cc := hd.c.sl.cell
  have ci := hd.i.sl.cell
  have ce := hd.e.sl.cell
  have cl := hd.l.sl.cell
  have cq := hd.q.sl.cell
  obtain ⟨gn, ln⟩ := good_n hd hb
  obtain ⟨gs, ls⟩ := good_s hd hb
  obtain ⟨gc, lc⟩ := good_c hd hb
  obtain ⟨gi, li⟩ := good_i hd hb
  obtain ⟨ge, le⟩ := good_e hd hb
  obtain ⟨gl, ll⟩ := good_l hd hb
  obtain ⟨gq, lq⟩ := good_q hd hb
  obtain ⟨n0, n1, n2, n3, n4, n5, n6⟩ := nums_len hd
  obtain ⟨b0, b1, b2, b3, b4, b5, b6⟩ := hd.b
  obtain ⟨_, kn, ks, kc, ki, ke, kl, kq⟩ := goods hb
  refine WC.seq (WC.reg ?_)
  repeat' (first
    | apply WOps.nil | (apply WOps.bx; rfl; rfl; (· repeat' (first | rfl | assumption | apply ac1)); intro _) | (apply WOps.purG; rfl; (intro _; rfl)))
  rename_i p1
  have w : BAt ((p1, .row (dumpC d)) :: R) .nilsl [] ((p1, .row (dumpC d)) :: R) := ⟨[], .inl ⟨rfl, rfl, rfl, rfl⟩, List.Perm.refl _⟩
  refine WC.seq (WC.reg ?_)
  repeat' (first
    | apply WOps.nil | (apply WOps.ldG; rfl; rfl; (first | exact ld0 rfl | exact ld1 rfl | exact ld2 rfl); rfl) | (apply WOps.clA; rfl; rfl; exact num35_b w b0 (by simp); intro v0 H0 w0) | (apply WOps.purG; rfl; (intro _; rfl)))
  clear w
  refine WC.seq (WC.reg ?_)
  repeat' (first
    | apply WOps.nil | (apply WOps.ldG; rfl; rfl; exact w0.ld (Ld.own Tk.head rfl); rfl) | (apply WOps.lenS; rfl; rfl; exact w0.sl (SlIs.cons hd.n.sl)) | (apply WOps.cvU; rfl; rfl; rw [List.length_map]; omega) | (apply WOps.clA; rfl; rfl; exact num35_b w0 (by rw [List.length_map]; omega) (by first | omega | (simp only [List.length_append, List.length_nil]; omega)); intro v1 H1 w1) | (apply WOps.purG; rfl; (intro _; rfl)))
  rw [List.length_map] at w1
  refine WC.cut2 (X := AV × HL) (fun x => [(1, .ptr ⟨false, p1, 0⟩), (3, x.1)]) (fun x => x.2) (fun x => BAt x.2 x.1 (([] ++ numB d.ix) ++ rowsB d.n) ((p1, .row (dumpC d)) :: R)) ?_ ?_
  · refine WC.seq (WC.reg ?_)
    repeat' (first
      | apply WOps.nil | apply WC.block | (apply WOps.purG; rfl; (intro _; rfl)))
    refine WC.loop ?_
    obtain ⟨i, hi⟩ : ∃ i : Nat, i = 0 := ⟨0, rfl⟩
    obtain ⟨u, hu⟩ : ∃ l' : List Nat, l' = ([] ++ numB d.ix) ++ numB d.n.length := ⟨_, rfl⟩
    refine WL.le (t' := [(1, .ptr ⟨false, p1, 0⟩), (3, v1), (4, .int .i64 (.ofNat i))]) (by subst hi; exact (Sub1.cons rfl (Sub1.cons rfl (Sub1.cons rfl Sub1.nil)))) ?_
    have zb : BAt H1 v1 u ((p1, .row (dumpC d)) :: R) := by subst hu; exact w1
    replace hu : u = ([] ++ numB d.ix) ++ (numB d.n.length ++ ((d.n.take i).map rowB).flatten) := by subst hi hu; simp
    have hle : i ≤ d.n.length := by omega
    clear hi w1
    have ok := rowOk_of hd.n kn
    have hn0 := numB_len (n := d.n.length) (by omega)
    induction hk : d.n.length - i using Nat.strongRecOn generalizing i u v1 H1 with | _ k ih => ?_
    apply WL.step
    refine WC.seq (WC.seq (WC.reg ?_))
    repeat' (first
      | apply WOps.nil | apply WC.skip | apply WC.exit | (apply WOps.ldG; rfl; rfl; exact zb.ld (Ld.own Tk.head rfl); rfl) | (apply WOps.lenS; rfl; rfl; exact zb.sl (SlIs.cons hd.n.sl)) | (apply WOps.cmp; rfl; rfl; rfl; rfl; intro _ _) | (apply WOps.purG; rfl; (intro _; rfl)) | (apply WC.condA; rfl; all_goals (intro hb; try subst hb)))
    all_goals rw [List.length_map] at *
    · have hlt : i < d.n.length := by
        have h0 := ‹true = true ↔ cmpP BinOp.lss (Int.ofNat i) (Int.ofNat d.n.length)›.1 rfl
        simp [cmpP] at h0; omega
      have hc : (d.n.map rowC)[i]? = some (rowC d.n[i]) := by rw [List.getElem?_map, List.getElem?_eq_getElem hlt]; rfl
      have hul : u.length ≤ 2500000 + 9 + 64 * 5047 := by
        have h2 := rows_len (l := d.n.take i) fun r hr => ⟨(ok r (List.mem_of_mem_take hr)).2.1, (shN_len (ok r (List.mem_of_mem_take hr)).1).2⟩
        rw [hu]; simp only [List.length_append, List.length_take, List.length_nil] at h2 ⊢; omega
      obtain ⟨o1, o2, o3⟩ := ok d.n[i] (List.getElem_mem hlt)
      obtain ⟨w1, w2⟩ := shN_len o1
      have ca := shN_cell o1 o3
      have nx : ∀ v' H', BAt H' v' (u ++ rowB d.n[i]) ((p1, .row (dumpC d)) :: R) → WL B tab c11.nt none _ [(1, .ptr ⟨false, p1, 0⟩), (3, v'), (4, .int .i64 (.ofNat (i + 1)))] H' _ := fun v' H' b' => ih _ (by omega) v' H' (i + 1) (u ++ rowB d.n[i]) b' (by rw [hu, List.take_succ_eq_append_getElem hlt]; simp only [List.map_append, List.flatten_append, List.map_cons, List.map_nil, List.flatten_cons, List.flatten_nil, List.append_nil, List.append_assoc]) (by omega) rfl
      have hi9 : i + 1 ≤ 9223372036854775807 := by omega
      clear ih hu
      generalize d.n[i] = r at *
      refine WC.seq (WC.block (WC.seq (WC.reg ?_)))
      repeat' (first
        | (apply WOps.alc; rfl; intro _) | (apply WOps.ldG; rfl; rfl; exact zb.ld (Ld.own Tk.head rfl); rfl) | (apply WOps.ixSl; rfl; rfl; rfl; exact zb.sl (SlIs.cons hd.n.sl); exact hc; intro ax hax) | (apply WOps.ldG; rfl; rfl; exact hax; rfl) | (apply WOps.purG; rfl; (intro _; rfl)))
      rename_i p7
      refine WOps.st (v := .agg (rowC r)) (cs' := rowC r) rfl rfl Tk.head w1 ca (put_all w1) ?_
      obtain ⟨a, b, c, d1, rfl⟩ := o1
      obtain ⟨wa, ra⟩ := o2 _ (List.Mem.head _)
      obtain ⟨na, ea⟩ : ∃ n : Nat, a = .ofNat n := ⟨a.toNat, by simp only [Fd.right] at ra; simp only [Int.ofNat_eq_natCast]; omega⟩
      subst ea
      have la : na < 65536 := by simp only [Fd.right, Fd.wf, Int.ofNat_eq_natCast] at ra wa; omega
      obtain ⟨wb, rb⟩ := o2 _ (.tail _ (List.Mem.head _))
      obtain ⟨wc, rc⟩ := o2 _ (.tail _ (.tail _ (List.Mem.head _)))
      obtain ⟨wd1, rd1⟩ := o2 _ (.tail _ (.tail _ (.tail _ (List.Mem.head _))))
      have qa := numB_len (n := na) (by omega)
      have qb : (textB b).length ≤ 89 := textB_len rb
      have qc := numB_len (n := c) (by simp only [Fd.wf] at *; omega)
      have qd1 := numB_len (n := d1) (by simp only [Fd.wf] at *; omega)
      have z0 := zb.cons (x := (p7, .row (rowC [.int (.ofNat na) 255, .txt b, .num c, .num d1])))
      repeat' (first
        | apply WOps.nil | apply WC.reg | apply WC.dreg | apply WD.nil | (apply WD.load; rfl; · repeat' (first | refine at1 ?_ rfl | apply at2 | exact same0 | refine same1 ?_ rfl | apply same2 | exact rd_ld rfl ((by first | exact z0.ld (by first | exact Ld.own Tk.head rfl | exact Ld.right (Ld.own Tk.head rfl)) | exact z1.ld (by first | exact Ld.own Tk.head rfl | exact Ld.right (Ld.own Tk.head rfl)) | exact z2.ld (by first | exact Ld.own Tk.head rfl | exact Ld.right (Ld.own Tk.head rfl)) | exact z3.ld (by first | exact Ld.own Tk.head rfl | exact Ld.right (Ld.own Tk.head rfl)) | exact z4.ld (by first | exact Ld.own Tk.head rfl | exact Ld.right (Ld.own Tk.head rfl)))) rfl)) | (apply WD.clA; rfl; rfl; exact num35_b z0 (n := na) (by omega) (by first | omega | (simp only [List.length_append]; omega)); intro v1 H1 z1) | (apply WD.clA; rfl; rfl; exact text36_b z1 rb (by first | omega | (simp only [List.length_append]; omega)); intro v2 H2 z2) | (apply WD.clA; rfl; rfl; exact num35_b z2 wc (by first | omega | (simp only [List.length_append]; omega)); intro v3 H3 z3) | (apply WD.clA; rfl; rfl; exact num35_b z3 wd1 (by first | omega | (simp only [List.length_append]; omega)); intro v4 H4 z4) | (apply WD.cvU; rfl; rfl; (first | omega | (simp only [Fd.wf] at *; omega))) | (apply WOps.addN; rfl; rfl; rfl; omega) | (apply WOps.purG; rfl; (intro _; rfl)) | (apply WD.pur; rfl; (intro _; rfl)))
      obtain ⟨H9, b9, s9⟩ := z4.less (R1 := (p1, .row (dumpC d)) :: R) (subF (by intro f; simp only [AV.cells, List.append_eq, List.map_cons, List.map_nil, List.sum_nil, List.map_append, List.sum_cons, List.sum_append, List.cons_append, List.nil_append, List.append_assoc, List.append_nil]; omega))
      exact WL.le (Sub1.cons rfl (Sub1.cons rfl (Sub1.cons rfl Sub1.nil))) (WL.lessP s9 (nx _ _ (b9.heq (by simp [rowB, Fd.bytes]))))
    · have hge : i = d.n.length := by
        have h0 := eq_of_ff ‹false = true ↔ cmpP BinOp.lss (Int.ofNat i) (Int.ofNat d.n.length)›
        simp [cmpP] at h0; omega
      rw [hge, List.take_length] at hu
      exact ⟨(v1, H1), Sub1.cons rfl (Sub1.cons rfl Sub1.nil), SubP.refl, zb.heq (by rw [hu]; rfl)⟩
  rintro ⟨v0, H0⟩ w0
  replace w0 : BAt H0 v0 (([] ++ numB d.ix) ++ rowsB d.n) ((p1, .row (dumpC d)) :: R) := w0
  show WC B tab _ _ _ [(1, .ptr ⟨false, p1, 0⟩), (3, v0)] H0 _
  refine WC.seq (WC.reg ?_)
  repeat' (first
    | apply WOps.nil | (apply WOps.ldG; rfl; rfl; exact w0.ld (Ld.own Tk.head rfl); rfl) | (apply WOps.lenS; rfl; rfl; exact w0.sl (SlIs.cons hd.s.sl)) | (apply WOps.cvU; rfl; rfl; rw [List.length_map]; omega) | (apply WOps.clA; rfl; rfl; exact num35_b w0 (by rw [List.length_map]; omega) (by first | omega | (simp only [List.length_append, List.length_nil]; omega)); intro v1 H1 w1) | (apply WOps.purG; rfl; (intro _; rfl)))
  rw [List.length_map] at w1
  refine WC.cut2 (X := AV × HL) (fun x => [(1, .ptr ⟨false, p1, 0⟩), (3, x.1)]) (fun x => x.2) (fun x => BAt x.2 x.1 ((([] ++ numB d.ix) ++ rowsB d.n) ++ rowsB d.s) ((p1, .row (dumpC d)) :: R)) ?_ ?_
  · refine WC.seq (WC.reg ?_)
    repeat' (first
      | apply WOps.nil | apply WC.block | (apply WOps.purG; rfl; (intro _; rfl)))
    refine WC.loop ?_
    obtain ⟨i, hi⟩ : ∃ i : Nat, i = 0 := ⟨0, rfl⟩
    obtain ⟨u, hu⟩ : ∃ l' : List Nat, l' = (([] ++ numB d.ix) ++ rowsB d.n) ++ numB d.s.length := ⟨_, rfl⟩
    refine WL.le (t' := [(1, .ptr ⟨false, p1, 0⟩), (3, v1), (6, .int .i64 (.ofNat i))]) (by subst hi; exact (Sub1.cons rfl (Sub1.cons rfl (Sub1.cons rfl Sub1.nil)))) ?_
    have zb : BAt H1 v1 u ((p1, .row (dumpC d)) :: R) := by subst hu; exact w1
    replace hu : u = (([] ++ numB d.ix) ++ rowsB d.n) ++ (numB d.s.length ++ ((d.s.take i).map rowB).flatten) := by subst hi hu; simp
    have hle : i ≤ d.s.length := by omega
    clear hi w1
    have ok := rowOk_of hd.s ks
    have hn0 := numB_len (n := d.s.length) (by omega)
    induction hk : d.s.length - i using Nat.strongRecOn generalizing i u v1 H1 with | _ k ih => ?_
    apply WL.step
    refine WC.seq (WC.seq (WC.reg ?_))
    repeat' (first
      | apply WOps.nil | apply WC.skip | apply WC.exit | (apply WOps.ldG; rfl; rfl; exact zb.ld (Ld.own Tk.head rfl); rfl) | (apply WOps.lenS; rfl; rfl; exact zb.sl (SlIs.cons hd.s.sl)) | (apply WOps.cmp; rfl; rfl; rfl; rfl; intro _ _) | (apply WOps.purG; rfl; (intro _; rfl)) | (apply WC.condA; rfl; all_goals (intro hb; try subst hb)))
    all_goals rw [List.length_map] at *
    · have hlt : i < d.s.length := by
        have h0 := ‹true = true ↔ cmpP BinOp.lss (Int.ofNat i) (Int.ofNat d.s.length)›.1 rfl
        simp [cmpP] at h0; omega
      have hc : (d.s.map rowC)[i]? = some (rowC d.s[i]) := by rw [List.getElem?_map, List.getElem?_eq_getElem hlt]; rfl
      have hul : u.length ≤ 2500000 + 9 + 64 * 5047 := by
        have h2 := rows_len (l := d.s.take i) fun r hr => ⟨(ok r (List.mem_of_mem_take hr)).2.1, (shS_len (ok r (List.mem_of_mem_take hr)).1).2⟩
        rw [hu]; simp only [List.length_append, List.length_take, List.length_nil] at h2 ⊢; omega
      obtain ⟨o1, o2, o3⟩ := ok d.s[i] (List.getElem_mem hlt)
      obtain ⟨w1, w2⟩ := shS_len o1
      have ca := shS_cell o1 o3
      have nx : ∀ v' H', BAt H' v' (u ++ rowB d.s[i]) ((p1, .row (dumpC d)) :: R) → WL B tab c11.nt none _ [(1, .ptr ⟨false, p1, 0⟩), (3, v'), (6, .int .i64 (.ofNat (i + 1)))] H' _ := fun v' H' b' => ih _ (by omega) v' H' (i + 1) (u ++ rowB d.s[i]) b' (by rw [hu, List.take_succ_eq_append_getElem hlt]; simp only [List.map_append, List.flatten_append, List.map_cons, List.map_nil, List.flatten_cons, List.flatten_nil, List.append_nil, List.append_assoc]) (by omega) rfl
      have hi9 : i + 1 ≤ 9223372036854775807 := by omega
      clear ih hu
      generalize d.s[i] = r at *
      refine WC.seq (WC.block (WC.seq (WC.reg ?_)))
      repeat' (first
        | (apply WOps.alc; rfl; intro _) | (apply WOps.ldG; rfl; rfl; exact zb.ld (Ld.own Tk.head rfl); rfl) | (apply WOps.ixSl; rfl; rfl; rfl; exact zb.sl (SlIs.cons hd.s.sl); exact hc; intro ax hax) | (apply WOps.ldG; rfl; rfl; exact hax; rfl) | (apply WOps.purG; rfl; (intro _; rfl)))
      rename_i p7
      refine WOps.st (v := .agg (rowC r)) (cs' := rowC r) rfl rfl Tk.head w1 ca (put_all w1) ?_
      obtain ⟨a, b, c, vd1, d1, e, f, g, rfl⟩ := o1
      obtain ⟨wa, ra⟩ := o2 _ (List.Mem.head _)
      obtain ⟨na, ea⟩ : ∃ n : Nat, a = .ofNat n := ⟨a.toNat, by simp only [Fd.right] at ra; simp only [Int.ofNat_eq_natCast]; omega⟩
      subst ea
      have la : na < 65536 := by simp only [Fd.right, Fd.wf, Int.ofNat_eq_natCast] at ra wa; omega
      obtain ⟨wb, rb⟩ := o2 _ (.tail _ (List.Mem.head _))
      obtain ⟨wc, rc⟩ := o2 _ (.tail _ (.tail _ (List.Mem.head _)))
      obtain ⟨wd1, rd1⟩ := o2 _ (.tail _ (.tail _ (.tail _ (List.Mem.head _))))
      have tgs : SlIs B R vd1 1 (d1.map strC) := o3 (.txs vd1 d1) (.tail _ (.tail _ (.tail _ (List.Mem.head _))))
      have ct := tgs.cell
      obtain ⟨we, re⟩ := o2 _ (.tail _ (.tail _ (.tail _ (.tail _ (List.Mem.head _)))))
      obtain ⟨ne, ee⟩ : ∃ n : Nat, e = .ofNat n := ⟨e.toNat, by simp only [Fd.right] at re; simp only [Int.ofNat_eq_natCast]; omega⟩
      subst ee
      have le : ne < 65536 := by simp only [Fd.right, Fd.wf, Int.ofNat_eq_natCast] at re we; omega
      obtain ⟨wf, rf⟩ := o2 _ (.tail _ (.tail _ (.tail _ (.tail _ (.tail _ (List.Mem.head _))))))
      obtain ⟨wg, rg⟩ := o2 _ (.tail _ (.tail _ (.tail _ (.tail _ (.tail _ (.tail _ (List.Mem.head _)))))))
      have qa := numB_len (n := na) (by omega)
      have qb : (textB b).length ≤ 89 := textB_len rb
      have qc : (textB c).length ≤ 89 := textB_len rc
      have qd1 : (textsB d1).length ≤ 721 := bytes_len (f := .txs vd1 d1) wd1 rd1
      have qe := numB_len (n := ne) (by omega)
      have qf := numB_len (n := f) (by simp only [Fd.wf] at *; omega)
      have qg := numB_len (n := g) (by simp only [Fd.wf] at *; omega)
      have z0 := zb.cons (x := (p7, .row (rowC [.int (.ofNat na) 255, .txt b, .txt c, .txs vd1 d1, .int (.ofNat ne) 65535, .num f, .num g])))
      repeat' (first
        | apply WOps.nil | apply WC.seq | apply WC.reg | apply WC.dreg | apply WD.nil | (apply WD.load; rfl; · repeat' (first | refine at1 ?_ rfl | apply at2 | exact same0 | refine same1 ?_ rfl | apply same2 | exact rd_ld rfl ((by first | exact z0.ld (by first | exact Ld.own Tk.head rfl | exact Ld.right (Ld.own Tk.head rfl)) | exact z1.ld (by first | exact Ld.own Tk.head rfl | exact Ld.right (Ld.own Tk.head rfl)) | exact z2.ld (by first | exact Ld.own Tk.head rfl | exact Ld.right (Ld.own Tk.head rfl)) | exact z3.ld (by first | exact Ld.own Tk.head rfl | exact Ld.right (Ld.own Tk.head rfl)) | exact z4.ld (by first | exact Ld.own Tk.head rfl | exact Ld.right (Ld.own Tk.head rfl)) | exact z5.ld (by first | exact Ld.own Tk.head rfl | exact Ld.right (Ld.own Tk.head rfl)) | exact z6.ld (by first | exact Ld.own Tk.head rfl | exact Ld.right (Ld.own Tk.head rfl)) | exact z7.ld (by first | exact Ld.own Tk.head rfl | exact Ld.right (Ld.own Tk.head rfl)))) rfl)) | (apply WD.clA; rfl; rfl; exact num35_b z0 (n := na) (by omega) (by first | omega | (simp only [List.length_append]; omega)); intro v1 H1 z1) | (apply WD.clA; rfl; rfl; exact text36_b z1 rb (by first | omega | (simp only [List.length_append]; omega)); intro v2 H2 z2) | (apply WD.clA; rfl; rfl; exact text36_b z2 rc (by first | omega | (simp only [List.length_append]; omega)); intro v3 H3 z3) | (apply WD.clA; rfl; rfl; exact texts37_ok (z3.sl (SlIs.cons (SlIs.cons tgs))) rd1.1 rd1.2; rintro _ _ ⟨hx, ox, rfl⟩) | (apply WD.appB; rfl; rfl; rfl; exact z3; exact ox; exact (by first | omega | (simp only [List.length_append]; omega)); intro v4 H4 z4) | (apply WD.clA; rfl; rfl; exact num35_b z4 (n := ne) (by omega) (by first | omega | (simp only [List.length_append]; omega)); intro v5 H5 z5) | (apply WD.clA; rfl; rfl; exact num35_b z5 wf (by first | omega | (simp only [List.length_append]; omega)); intro v6 H6 z6) | (apply WD.clA; rfl; rfl; exact num35_b z6 wg (by first | omega | (simp only [List.length_append]; omega)); intro v7 H7 z7) | (apply WD.cvU; rfl; rfl; (first | omega | (simp only [Fd.wf] at *; omega))) | (apply WOps.addN; rfl; rfl; rfl; omega) | (apply WOps.purG; rfl; (intro _; rfl)) | (apply WD.pur; rfl; (intro _; rfl)))
      obtain ⟨H9, b9, s9⟩ := z7.less (R1 := (p1, .row (dumpC d)) :: R) (subF (by intro f; simp only [AV.cells, List.append_eq, List.map_cons, List.map_nil, List.sum_nil, List.map_append, List.sum_cons, List.sum_append, List.cons_append, List.nil_append, List.append_assoc, List.append_nil]; omega))
      exact WL.le (Sub1.cons rfl (Sub1.cons rfl (Sub1.cons rfl Sub1.nil))) (WL.lessP s9 (nx _ _ (b9.heq (by simp [rowB, Fd.bytes]))))
    · have hge : i = d.s.length := by
        have h0 := eq_of_ff ‹false = true ↔ cmpP BinOp.lss (Int.ofNat i) (Int.ofNat d.s.length)›
        simp [cmpP] at h0; omega
      rw [hge, List.take_length] at hu
      exact ⟨(v1, H1), Sub1.cons rfl (Sub1.cons rfl Sub1.nil), SubP.refl, zb.heq (by rw [hu]; rfl)⟩
  rintro ⟨v0, H0⟩ w0
  replace w0 : BAt H0 v0 ((([] ++ numB d.ix) ++ rowsB d.n) ++ rowsB d.s) ((p1, .row (dumpC d)) :: R) := w0
  show WC B tab _ _ _ [(1, .ptr ⟨false, p1, 0⟩), (3, v0)] H0 _
  refine WC.seq (WC.reg ?_)
  repeat' (first
    | apply WOps.nil | (apply WOps.ldG; rfl; rfl; exact w0.ld (Ld.own Tk.head rfl); rfl) | (apply WOps.lenS; rfl; rfl; exact w0.sl (SlIs.cons hd.c.sl)) | (apply WOps.cvU; rfl; rfl; rw [List.length_map]; omega) | (apply WOps.clA; rfl; rfl; exact num35_b w0 (by rw [List.length_map]; omega) (by first | omega | (simp only [List.length_append, List.length_nil]; omega)); intro v1 H1 w1) | (apply WOps.purG; rfl; (intro _; rfl)))
  rw [List.length_map] at w1
  refine WC.cut2 (X := AV × HL) (fun x => [(1, .ptr ⟨false, p1, 0⟩), (3, x.1)]) (fun x => x.2) (fun x => BAt x.2 x.1 (((([] ++ numB d.ix) ++ rowsB d.n) ++ rowsB d.s) ++ rowsB d.c) ((p1, .row (dumpC d)) :: R)) ?_ ?_
  · refine WC.seq (WC.reg ?_)
    repeat' (first
      | apply WOps.nil | apply WC.block | (apply WOps.purG; rfl; (intro _; rfl)))
    refine WC.loop ?_
    obtain ⟨i, hi⟩ : ∃ i : Nat, i = 0 := ⟨0, rfl⟩
    obtain ⟨u, hu⟩ : ∃ l' : List Nat, l' = ((([] ++ numB d.ix) ++ rowsB d.n) ++ rowsB d.s) ++ numB d.c.length := ⟨_, rfl⟩
    refine WL.le (t' := [(1, .ptr ⟨false, p1, 0⟩), (3, v1), (8, .int .i64 (.ofNat i))]) (by subst hi; exact (Sub1.cons rfl (Sub1.cons rfl (Sub1.cons rfl Sub1.nil)))) ?_
    have zb : BAt H1 v1 u ((p1, .row (dumpC d)) :: R) := by subst hu; exact w1
    replace hu : u = ((([] ++ numB d.ix) ++ rowsB d.n) ++ rowsB d.s) ++ (numB d.c.length ++ ((d.c.take i).map rowB).flatten) := by subst hi hu; simp
    have hle : i ≤ d.c.length := by omega
    clear hi w1
    have ok := rowOk_of hd.c kc
    have hn0 := numB_len (n := d.c.length) (by omega)
    induction hk : d.c.length - i using Nat.strongRecOn generalizing i u v1 H1 with | _ k ih => ?_
    apply WL.step
    refine WC.seq (WC.seq (WC.reg ?_))
    repeat' (first
      | apply WOps.nil | apply WC.skip | apply WC.exit | (apply WOps.ldG; rfl; rfl; exact zb.ld (Ld.own Tk.head rfl); rfl) | (apply WOps.lenS; rfl; rfl; exact zb.sl (SlIs.cons hd.c.sl)) | (apply WOps.cmp; rfl; rfl; rfl; rfl; intro _ _) | (apply WOps.purG; rfl; (intro _; rfl)) | (apply WC.condA; rfl; all_goals (intro hb; try subst hb)))
    all_goals rw [List.length_map] at *
    · have hlt : i < d.c.length := by
        have h0 := ‹true = true ↔ cmpP BinOp.lss (Int.ofNat i) (Int.ofNat d.c.length)›.1 rfl
        simp [cmpP] at h0; omega
      have hc : (d.c.map rowC)[i]? = some (rowC d.c[i]) := by rw [List.getElem?_map, List.getElem?_eq_getElem hlt]; rfl
      have hul : u.length ≤ 2500000 + 9 + 64 * 5047 := by
        have h2 := rows_len (l := d.c.take i) fun r hr => ⟨(ok r (List.mem_of_mem_take hr)).2.1, (shC_len (ok r (List.mem_of_mem_take hr)).1).2⟩
        rw [hu]; simp only [List.length_append, List.length_take, List.length_nil] at h2 ⊢; omega
      obtain ⟨o1, o2, o3⟩ := ok d.c[i] (List.getElem_mem hlt)
      obtain ⟨w1, w2⟩ := shC_len o1
      have ca := shC_cell o1 o3
      have nx : ∀ v' H', BAt H' v' (u ++ rowB d.c[i]) ((p1, .row (dumpC d)) :: R) → WL B tab c11.nt none _ [(1, .ptr ⟨false, p1, 0⟩), (3, v'), (8, .int .i64 (.ofNat (i + 1)))] H' _ := fun v' H' b' => ih _ (by omega) v' H' (i + 1) (u ++ rowB d.c[i]) b' (by rw [hu, List.take_succ_eq_append_getElem hlt]; simp only [List.map_append, List.flatten_append, List.map_cons, List.map_nil, List.flatten_cons, List.flatten_nil, List.append_nil, List.append_assoc]) (by omega) rfl
      have hi9 : i + 1 ≤ 9223372036854775807 := by omega
      clear ih hu
      generalize d.c[i] = r at *
      refine WC.seq (WC.block (WC.seq (WC.reg ?_)))
      repeat' (first
        | (apply WOps.alc; rfl; intro _) | (apply WOps.ldG; rfl; rfl; exact zb.ld (Ld.own Tk.head rfl); rfl) | (apply WOps.ixSl; rfl; rfl; rfl; exact zb.sl (SlIs.cons hd.c.sl); exact hc; intro ax hax) | (apply WOps.ldG; rfl; rfl; exact hax; rfl) | (apply WOps.purG; rfl; (intro _; rfl)))
      rename_i p7
      refine WOps.st (v := .agg (rowC r)) (cs' := rowC r) rfl rfl Tk.head w1 ca (put_all w1) ?_
      obtain ⟨a, b, c, d1, e, f, g, rfl⟩ := o1
      obtain ⟨wa, ra⟩ := o2 _ (List.Mem.head _)
      obtain ⟨na, ea⟩ : ∃ n : Nat, a = .ofNat n := ⟨a.toNat, by simp only [Fd.right] at ra; simp only [Int.ofNat_eq_natCast]; omega⟩
      subst ea
      have la : na < 65536 := by simp only [Fd.right, Fd.wf, Int.ofNat_eq_natCast] at ra wa; omega
      obtain ⟨wb, rb⟩ := o2 _ (.tail _ (List.Mem.head _))
      obtain ⟨wc, rc⟩ := o2 _ (.tail _ (.tail _ (List.Mem.head _)))
      obtain ⟨wd1, rd1⟩ := o2 _ (.tail _ (.tail _ (.tail _ (List.Mem.head _))))
      obtain ⟨we, re⟩ := o2 _ (.tail _ (.tail _ (.tail _ (.tail _ (List.Mem.head _)))))
      obtain ⟨ne, ee⟩ : ∃ n : Nat, e = .ofNat n := ⟨e.toNat, by simp only [Fd.right] at re; simp only [Int.ofNat_eq_natCast]; omega⟩
      subst ee
      have le : ne < 65536 := by simp only [Fd.right, Fd.wf, Int.ofNat_eq_natCast] at re we; omega
      obtain ⟨wf, rf⟩ := o2 _ (.tail _ (.tail _ (.tail _ (.tail _ (.tail _ (List.Mem.head _))))))
      obtain ⟨wg, rg⟩ := o2 _ (.tail _ (.tail _ (.tail _ (.tail _ (.tail _ (.tail _ (List.Mem.head _)))))))
      have qa := numB_len (n := na) (by omega)
      have qb : (textB b).length ≤ 89 := textB_len rb
      have qc : (textB c).length ≤ 89 := textB_len rc
      have qd1 : (textB d1).length ≤ 89 := textB_len rd1
      have qe := numB_len (n := ne) (by omega)
      have qf := numB_len (n := f) (by simp only [Fd.wf] at *; omega)
      have qg := numB_len (n := g) (by simp only [Fd.wf] at *; omega)
      have z0 := zb.cons (x := (p7, .row (rowC [.int (.ofNat na) 255, .txt b, .txt c, .txt d1, .int (.ofNat ne) 255, .num f, .num g])))
      repeat' (first
        | apply WOps.nil | apply WC.seq | apply WC.reg | apply WC.dreg | apply WD.nil | (apply WD.load; rfl; · repeat' (first | refine at1 ?_ rfl | apply at2 | exact same0 | refine same1 ?_ rfl | apply same2 | exact rd_ld rfl ((by first | exact z0.ld (by first | exact Ld.own Tk.head rfl | exact Ld.right (Ld.own Tk.head rfl)) | exact z1.ld (by first | exact Ld.own Tk.head rfl | exact Ld.right (Ld.own Tk.head rfl)) | exact z2.ld (by first | exact Ld.own Tk.head rfl | exact Ld.right (Ld.own Tk.head rfl)) | exact z3.ld (by first | exact Ld.own Tk.head rfl | exact Ld.right (Ld.own Tk.head rfl)) | exact z4.ld (by first | exact Ld.own Tk.head rfl | exact Ld.right (Ld.own Tk.head rfl)) | exact z5.ld (by first | exact Ld.own Tk.head rfl | exact Ld.right (Ld.own Tk.head rfl)) | exact z6.ld (by first | exact Ld.own Tk.head rfl | exact Ld.right (Ld.own Tk.head rfl)) | exact z7.ld (by first | exact Ld.own Tk.head rfl | exact Ld.right (Ld.own Tk.head rfl)))) rfl)) | (apply WD.clA; rfl; rfl; exact num35_b z0 (n := na) (by omega) (by first | omega | (simp only [List.length_append]; omega)); intro v1 H1 z1) | (apply WD.clA; rfl; rfl; exact text36_b z1 rb (by first | omega | (simp only [List.length_append]; omega)); intro v2 H2 z2) | (apply WD.clA; rfl; rfl; exact text36_b z2 rc (by first | omega | (simp only [List.length_append]; omega)); intro v3 H3 z3) | (apply WD.clA; rfl; rfl; exact text36_b z3 rd1 (by first | omega | (simp only [List.length_append]; omega)); intro v4 H4 z4) | (apply WD.clA; rfl; rfl; exact num35_b z4 (n := ne) (by omega) (by first | omega | (simp only [List.length_append]; omega)); intro v5 H5 z5) | (apply WD.clA; rfl; rfl; exact num35_b z5 wf (by first | omega | (simp only [List.length_append]; omega)); intro v6 H6 z6) | (apply WD.clA; rfl; rfl; exact num35_b z6 wg (by first | omega | (simp only [List.length_append]; omega)); intro v7 H7 z7) | (apply WD.cvU; rfl; rfl; (first | omega | (simp only [Fd.wf] at *; omega))) | (apply WOps.addN; rfl; rfl; rfl; omega) | (apply WOps.purG; rfl; (intro _; rfl)) | (apply WD.pur; rfl; (intro _; rfl)))
      obtain ⟨H9, b9, s9⟩ := z7.less (R1 := (p1, .row (dumpC d)) :: R) (subF (by intro f; simp only [AV.cells, List.append_eq, List.map_cons, List.map_nil, List.sum_nil, List.map_append, List.sum_cons, List.sum_append, List.cons_append, List.nil_append, List.append_assoc, List.append_nil]; omega))
      exact WL.le (Sub1.cons rfl (Sub1.cons rfl (Sub1.cons rfl Sub1.nil))) (WL.lessP s9 (nx _ _ (b9.heq (by simp [rowB, Fd.bytes]))))
    · have hge : i = d.c.length := by
        have h0 := eq_of_ff ‹false = true ↔ cmpP BinOp.lss (Int.ofNat i) (Int.ofNat d.c.length)›
        simp [cmpP] at h0; omega
      rw [hge, List.take_length] at hu
      exact ⟨(v1, H1), Sub1.cons rfl (Sub1.cons rfl Sub1.nil), SubP.refl, zb.heq (by rw [hu]; rfl)⟩
  rintro ⟨v0, H0⟩ w0
  replace w0 : BAt H0 v0 (((([] ++ numB d.ix) ++ rowsB d.n) ++ rowsB d.s) ++ rowsB d.c) ((p1, .row (dumpC d)) :: R) := w0
  show WC B tab _ _ _ [(1, .ptr ⟨false, p1, 0⟩), (3, v0)] H0 _
  refine WC.seq (WC.reg ?_)
  repeat' (first
    | apply WOps.nil | (apply WOps.ldG; rfl; rfl; exact w0.ld (Ld.own Tk.head rfl); rfl) | (apply WOps.lenS; rfl; rfl; exact w0.sl (SlIs.cons hd.i.sl)) | (apply WOps.cvU; rfl; rfl; rw [List.length_map]; omega) | (apply WOps.clA; rfl; rfl; exact num35_b w0 (by rw [List.length_map]; omega) (by first | omega | (simp only [List.length_append, List.length_nil]; omega)); intro v1 H1 w1) | (apply WOps.purG; rfl; (intro _; rfl)))
  rw [List.length_map] at w1
  refine WC.cut2 (X := AV × HL) (fun x => [(1, .ptr ⟨false, p1, 0⟩), (3, x.1)]) (fun x => x.2) (fun x => BAt x.2 x.1 ((((([] ++ numB d.ix) ++ rowsB d.n) ++ rowsB d.s) ++ rowsB d.c) ++ rowsB d.i) ((p1, .row (dumpC d)) :: R)) ?_ ?_
  · refine WC.seq (WC.reg ?_)
    repeat' (first
      | apply WOps.nil | apply WC.block | (apply WOps.purG; rfl; (intro _; rfl)))
    refine WC.loop ?_
    obtain ⟨i, hi⟩ : ∃ i : Nat, i = 0 := ⟨0, rfl⟩
    obtain ⟨u, hu⟩ : ∃ l' : List Nat, l' = (((([] ++ numB d.ix) ++ rowsB d.n) ++ rowsB d.s) ++ rowsB d.c) ++ numB d.i.length := ⟨_, rfl⟩
    refine WL.le (t' := [(1, .ptr ⟨false, p1, 0⟩), (3, v1), (10, .int .i64 (.ofNat i))]) (by subst hi; exact (Sub1.cons rfl (Sub1.cons rfl (Sub1.cons rfl Sub1.nil)))) ?_
    have zb : BAt H1 v1 u ((p1, .row (dumpC d)) :: R) := by subst hu; exact w1
    replace hu : u = (((([] ++ numB d.ix) ++ rowsB d.n) ++ rowsB d.s) ++ rowsB d.c) ++ (numB d.i.length ++ ((d.i.take i).map rowB).flatten) := by subst hi hu; simp
    have hle : i ≤ d.i.length := by omega
    clear hi w1
    have ok := rowOk_of hd.i ki
    have hn0 := numB_len (n := d.i.length) (by omega)
    induction hk : d.i.length - i using Nat.strongRecOn generalizing i u v1 H1 with | _ k ih => ?_
    apply WL.step
    refine WC.seq (WC.seq (WC.reg ?_))
    repeat' (first
      | apply WOps.nil | apply WC.skip | apply WC.exit | (apply WOps.ldG; rfl; rfl; exact zb.ld (Ld.own Tk.head rfl); rfl) | (apply WOps.lenS; rfl; rfl; exact zb.sl (SlIs.cons hd.i.sl)) | (apply WOps.cmp; rfl; rfl; rfl; rfl; intro _ _) | (apply WOps.purG; rfl; (intro _; rfl)) | (apply WC.condA; rfl; all_goals (intro hb; try subst hb)))
    all_goals rw [List.length_map] at *
    · have hlt : i < d.i.length := by
        have h0 := ‹true = true ↔ cmpP BinOp.lss (Int.ofNat i) (Int.ofNat d.i.length)›.1 rfl
        simp [cmpP] at h0; omega
      have hc : (d.i.map rowC)[i]? = some (rowC d.i[i]) := by rw [List.getElem?_map, List.getElem?_eq_getElem hlt]; rfl
      have hul : u.length ≤ 2500000 + 9 + 64 * 5047 := by
        have h2 := rows_len (l := d.i.take i) fun r hr => ⟨(ok r (List.mem_of_mem_take hr)).2.1, (shI_len (ok r (List.mem_of_mem_take hr)).1).2⟩
        rw [hu]; simp only [List.length_append, List.length_take, List.length_nil] at h2 ⊢; omega
      obtain ⟨o1, o2, o3⟩ := ok d.i[i] (List.getElem_mem hlt)
      obtain ⟨w1, w2⟩ := shI_len o1
      have ca := shI_cell o1 o3
      have nx : ∀ v' H', BAt H' v' (u ++ rowB d.i[i]) ((p1, .row (dumpC d)) :: R) → WL B tab c11.nt none _ [(1, .ptr ⟨false, p1, 0⟩), (3, v'), (10, .int .i64 (.ofNat (i + 1)))] H' _ := fun v' H' b' => ih _ (by omega) v' H' (i + 1) (u ++ rowB d.i[i]) b' (by rw [hu, List.take_succ_eq_append_getElem hlt]; simp only [List.map_append, List.flatten_append, List.map_cons, List.map_nil, List.flatten_cons, List.flatten_nil, List.append_nil, List.append_assoc]) (by omega) rfl
      have hi9 : i + 1 ≤ 9223372036854775807 := by omega
      clear ih hu
      generalize d.i[i] = r at *
      refine WC.seq (WC.block (WC.seq (WC.reg ?_)))
      repeat' (first
        | (apply WOps.alc; rfl; intro _) | (apply WOps.ldG; rfl; rfl; exact zb.ld (Ld.own Tk.head rfl); rfl) | (apply WOps.ixSl; rfl; rfl; rfl; exact zb.sl (SlIs.cons hd.i.sl); exact hc; intro ax hax) | (apply WOps.ldG; rfl; rfl; exact hax; rfl) | (apply WOps.purG; rfl; (intro _; rfl)))
      rename_i p7
      refine WOps.st (v := .agg (rowC r)) (cs' := rowC r) rfl rfl Tk.head w1 ca (put_all w1) ?_
      obtain ⟨a, b, c, d1, e, rfl⟩ := o1
      obtain ⟨wa, ra⟩ := o2 _ (List.Mem.head _)
      obtain ⟨wb, rb⟩ := o2 _ (.tail _ (List.Mem.head _))
      obtain ⟨wc, rc⟩ := o2 _ (.tail _ (.tail _ (List.Mem.head _)))
      obtain ⟨wd1, rd1⟩ := o2 _ (.tail _ (.tail _ (.tail _ (List.Mem.head _))))
      obtain ⟨we, re⟩ := o2 _ (.tail _ (.tail _ (.tail _ (.tail _ (List.Mem.head _)))))
      have qa : (textB a).length ≤ 89 := textB_len ra
      have qb : (textB b).length ≤ 89 := textB_len rb
      have qc : (flagB c).length ≤ 2 := by cases c <;> simp [flagB]
      have qd1 := numB_len (n := d1) (by simp only [Fd.wf] at *; omega)
      have qe := numB_len (n := e) (by simp only [Fd.wf] at *; omega)
      have z0 := zb.cons (x := (p7, .row (rowC [.txt a, .txt b, .flg c, .num d1, .num e])))
      repeat' (first
        | apply WOps.nil | apply WC.seq | apply WC.reg | apply WC.dreg | apply WD.nil | (apply WD.load; rfl; · repeat' (first | refine at1 ?_ rfl | apply at2 | exact same0 | refine same1 ?_ rfl | apply same2 | exact rd_ld rfl ((by first | exact z0.ld (by first | exact Ld.own Tk.head rfl | exact Ld.right (Ld.own Tk.head rfl)) | exact z1.ld (by first | exact Ld.own Tk.head rfl | exact Ld.right (Ld.own Tk.head rfl)) | exact z2.ld (by first | exact Ld.own Tk.head rfl | exact Ld.right (Ld.own Tk.head rfl)) | exact z3.ld (by first | exact Ld.own Tk.head rfl | exact Ld.right (Ld.own Tk.head rfl)) | exact z4.ld (by first | exact Ld.own Tk.head rfl | exact Ld.right (Ld.own Tk.head rfl)) | exact z5.ld (by first | exact Ld.own Tk.head rfl | exact Ld.right (Ld.own Tk.head rfl)))) rfl)) | (apply WD.clA; rfl; rfl; exact text36_b z0 ra (by first | omega | (simp only [List.length_append]; omega)); intro v1 H1 z1) | (apply WD.clA; rfl; rfl; exact text36_b z1 rb (by first | omega | (simp only [List.length_append]; omega)); intro v2 H2 z2) | (apply WD.clA; rfl; rfl; exact flag38_ok (b := c); rintro _ _ ⟨hx, ox, rfl⟩) | (apply WD.appB; rfl; rfl; rfl; exact z2; exact ox; exact (by first | omega | (simp only [List.length_append]; omega)); intro v3 H3 z3) | (apply WD.clA; rfl; rfl; exact num35_b z3 wd1 (by first | omega | (simp only [List.length_append]; omega)); intro v4 H4 z4) | (apply WD.clA; rfl; rfl; exact num35_b z4 we (by first | omega | (simp only [List.length_append]; omega)); intro v5 H5 z5) | (apply WOps.addN; rfl; rfl; rfl; omega) | (apply WOps.purG; rfl; (intro _; rfl)) | (apply WD.pur; rfl; (intro _; rfl)))
      obtain ⟨H9, b9, s9⟩ := z5.less (R1 := (p1, .row (dumpC d)) :: R) (subF (by intro f; simp only [AV.cells, List.append_eq, List.map_cons, List.map_nil, List.sum_nil, List.map_append, List.sum_cons, List.sum_append, List.cons_append, List.nil_append, List.append_assoc, List.append_nil]; omega))
      exact WL.le (Sub1.cons rfl (Sub1.cons rfl (Sub1.cons rfl Sub1.nil))) (WL.lessP s9 (nx _ _ (b9.heq (by simp [rowB, Fd.bytes]))))
    · have hge : i = d.i.length := by
        have h0 := eq_of_ff ‹false = true ↔ cmpP BinOp.lss (Int.ofNat i) (Int.ofNat d.i.length)›
        simp [cmpP] at h0; omega
      rw [hge, List.take_length] at hu
      exact ⟨(v1, H1), Sub1.cons rfl (Sub1.cons rfl Sub1.nil), SubP.refl, zb.heq (by rw [hu]; rfl)⟩
  rintro ⟨v0, H0⟩ w0
  replace w0 : BAt H0 v0 ((((([] ++ numB d.ix) ++ rowsB d.n) ++ rowsB d.s) ++ rowsB d.c) ++ rowsB d.i) ((p1, .row (dumpC d)) :: R) := w0
  show WC B tab _ _ _ [(1, .ptr ⟨false, p1, 0⟩), (3, v0)] H0 _
  repeat' (first
    | apply WOps.nil | apply WC.seq | apply WC.reg | apply WC.ret | (apply WOps.ldG; rfl; rfl; exact w0.ld (Ld.own Tk.head rfl); rfl) | (apply WOps.clA; rfl; rfl; exact rest39_ok (hd.cons (x := (p1, .row (dumpC d)))) hb w0 (by first | omega | (simp only [List.length_append, List.length_nil]; omega)); intro v9 H8 w9) | (apply WOps.purG; rfl; (intro _; rfl)))
  obtain ⟨H9, b9, s9⟩ := w9.less (R1 := R) (subF (by intro f; simp only [AV.cells, List.append_eq, List.map_cons, List.map_nil, List.sum_nil, List.map_append, List.sum_cons, List.sum_append, List.cons_append, List.nil_append, List.append_assoc, List.append_nil]; omega))
  exact ⟨trivial, [_], ⟨_, [], rfl, rfl, rfl⟩, H9, b9, s9⟩
/-! ### Bytes as a text -/
def byL (l : List Nat) : Prop := ∀ b, b ∈ l → b < 256
theorem byL.app {a b : List Nat} (h : byL a) (k : byL b) : byL (a ++ b) := fun x hx => (List.mem_append.1 hx).elim (h x) (k x)
theorem digs_by : ∀ (k n : Nat), n < k → byL (digs n) := by
  intro k
  induction k with
  | zero => intro n h; omega
  | succ k ih =>
    intro n h
    by_cases hn : n = 0
    · subst hn; rw [digs_zero]; intro b hb; cases hb
    · rw [digs_pos (by omega)]
      intro b hb
      rcases List.mem_cons.1 hb with hb | hb
      · subst hb; omega
      · exact ih (n / 256) (by omega) b hb
theorem numB_by {n : Nat} (h : n < 18446744073709551616) : byL (numB n) := by
  intro b hb
  rcases List.mem_cons.1 hb with hb | hb
  · have := digs_8 h; subst hb; omega
  · exact digs_by _ n (Nat.lt_succ_self n) b (List.mem_reverse.1 hb)
theorem textB_by {s : List Nat} (h : s.length ≤ 80) (k : byL s) : byL (textB s) := (numB_by (by omega)).app k
def Fd.by : Fd → Prop
  | .txt s => byL s
  | .txs _ l => ∀ s, s ∈ l → byL s
  | _ => True
theorem bytes_by {f : Fd} (w : f.wf) (r : f.right) (h : f.by) : byL f.bytes := by
  cases f with
  | int n m => exact numB_by (by simp only [Fd.right, Fd.wf, Int.ofNat_eq_natCast] at r w; omega)
  | num n => exact numB_by w
  | u32 n => exact numB_by (by simp only [Fd.wf] at w; omega)
  | txt s => exact textB_by r h
  | flg b => intro x hx; cases b <;> simp [Fd.bytes, flagB] at hx <;> omega
  | txs v l =>
    refine (numB_by (by have := r.1; omega)).app ?_
    intro b hb
    obtain ⟨x, hx, hb⟩ := List.mem_flatten.1 hb
    obtain ⟨s, hs, rfl⟩ := List.mem_map.1 hx
    exact textB_by (r.2 s hs) (h s hs) b hb
theorem rowB_by {r : List Fd} (h : rowOk r) (k : ∀ f, f ∈ r → f.by) : byL (rowB r) := by
  intro b hb
  obtain ⟨x, hx, hb⟩ := List.mem_flatten.1 hb
  obtain ⟨f, hf, rfl⟩ := List.mem_map.1 hx
  exact bytes_by (h f hf).1 (h f hf).2 (k f hf) b hb
theorem rowsB_by {l : List (List Fd)} {H : HL} {sh : List Fd → Prop} (h64 : l.length ≤ 64) (h : ∀ r, r ∈ l → sh r ∧ rowOk r ∧ ∀ f, f ∈ r → f.at B H) (k : ∀ r, r ∈ l → ∀ f, f ∈ r → f.by) : byL (rowsB l) := by
  refine (numB_by (by omega)).app ?_
  intro b hb
  obtain ⟨x, hx, hb⟩ := List.mem_flatten.1 hb
  obtain ⟨r, hr, rfl⟩ := List.mem_map.1 hx
  exact rowB_by (h r hr).2.1 (k r hr) b hb
/-- All texts of a dump are bytes. -/
structure DdBy (d : DD) : Prop where
  n : ∀ r, r ∈ d.n → ∀ f, f ∈ r → f.by
  s : ∀ r, r ∈ d.s → ∀ f, f ∈ r → f.by
  c : ∀ r, r ∈ d.c → ∀ f, f ∈ r → f.by
  i : ∀ r, r ∈ d.i → ∀ f, f ∈ r → f.by
  e : ∀ r, r ∈ d.e → ∀ f, f ∈ r → f.by
  l : ∀ r, r ∈ d.l → ∀ f, f ∈ r → f.by
  q : ∀ r, r ∈ d.q → ∀ f, f ∈ r → f.by
theorem dumpB_by {d : DD} {H : HL} (hd : DdAt B H d) (hb : ¬ badD d) (hy : DdBy d) : byL (dumpB d) := by
  obtain ⟨b0, b1, b2, b3, b4, b5, b6⟩ := hd.b
  obtain ⟨_, kn, ks, kc, ki, ke, kl, kq⟩ := goods hb
  have r1 := rowsB_by (good_n hd hb).2 (rowOk_of hd.n kn) hy.n
  have r2 := rowsB_by (good_s hd hb).2 (rowOk_of hd.s ks) hy.s
  have r3 := rowsB_by (good_c hd hb).2 (rowOk_of hd.c kc) hy.c
  have r4 := rowsB_by (good_i hd hb).2 (rowOk_of hd.i ki) hy.i
  have r5 := rowsB_by (good_e hd hb).2 (rowOk_of hd.e ke) hy.e
  have r6 := rowsB_by (good_l hd hb).2 (rowOk_of hd.l kl) hy.l
  have r7 := rowsB_by (good_q hd hb).2 (rowOk_of hd.q kq) hy.q
  have n0 : byL [] := fun b hb => by cases hb
  exact (((((((((((((n0.app (numB_by b0)).app r1).app r2).app r3).app r4).app r5).app r6).app (numB_by b1)).app (numB_by b2)).app (numB_by b3)).app (numB_by b4)).app (numB_by b5)).app (numB_by b6)).app r7
theorem bytesOf_cells {l : List Nat} (h : byL l) : bytesOf (cellsOfStr l) = some l := by
  induction l with
  | nil => rfl
  | cons a l ih =>
    have h1 : Nat.blt a 256 = true := by rw [Nat.blt_eq]; exact h a List.mem_cons_self
    simp only [cellsOfStr, bytesOf, h1, ih fun b hb => h b (List.mem_cons_of_mem _ hb)]
theorem rd_str {x : AO} {t : EL} {H : HL} {u : AV} {l : List Nat} (hx : gl t x = some u) (hs : SrcIs B H u 1 l.length (cellsOfStr l)) (hb : byL l) : Rd B (.cvStr x) t H (.str l) := by
  intro env h F le s
  refine ⟨h, ?_⟩
  rcases hs with ⟨rfl, h0, h1⟩ | ⟨a, rfl, h0⟩
  · obtain rfl : l = [] := List.length_eq_zero_iff.1 h0
    simp only [aop, rd_mono le hx]
  · cases l with
    | nil => simp only [aop, rd_mono le hx]; rfl
    | cons c l =>
      rcases h0 with ⟨h0, _⟩ | h0
      · simp at h0
      · rw [Nat.mul_one] at h0
        have e1 := h0.cells s
        have e2 := bytesOf_cells hb
        simp only [aop, rd_mono le hx, List.length_cons] at e1 ⊢
        simp only [e1, e2, show Nat.beq 1 1 = true from rfl]
theorem BAt.src {H R : HL} {v : AV} {us : List Nat} (h : BAt H v us R) : SrcIs B H v 1 us.length (cellsOfStr us) := by
  obtain ⟨hv, o, q⟩ := h
  exact SrcIs.perm q (SrcIs.left (own_src o))
theorem BAt.srcR {H R : HL} {v u : AV} {us : List Nat} {n m : Nat} {xs : List AV} (h : BAt H v us R) (k : SrcIs B R u n m xs) : SrcIs B H u n m xs := by
  obtain ⟨hv, o, q⟩ := h
  exact SrcIs.perm q (SrcIs.right k)
theorem Fd.at_app {H : HL} {f : Fd} (h : f.at B H) (X : HL) : f.at B (X ++ H) := by
  cases f <;> first | trivial | exact SlIs.right h
theorem LAt.app {H : HL} {v : AV} {w : Nat} {sh : List Fd → Prop} {l : List (List Fd)} (h : LAt B H v w sh l) (X : HL) : LAt B (X ++ H) v w sh l := ⟨SlIs.right h.sl, fun r hr => ⟨(h.ok r hr).1, (h.ok r hr).2.1, fun f hf => Fd.at_app ((h.ok r hr).2.2 f hf) X⟩, h.len⟩
theorem DdAt.app {H : HL} {d : DD} (h : DdAt B H d) (X : HL) : DdAt B (X ++ H) d := ⟨h.n.app X, h.s.app X, h.c.app X, h.i.app X, h.e.app X, h.l.app X, h.q.app X, h.b⟩
theorem strEq_self (l : List Nat) : strEq l l = true := by
  induction l with
  | nil => rfl
  | cons a l ih => simp only [strEq, ih, Nat.beq_refl]
theorem WD.eqS {T : Tr FnI} {t : EL} {H : HL} {HH : List (Nat × HL)} {Q : EL → HL → Prop} {os : List DOper} {k : Nat} {g : Option (Nat × Bool)} {i bs : Nat} {x y : AO} {l : List Nat} (hg : wantedL g t = some true) (hx : gl t x = some (.str l)) (hy : gl t y = some (.str l))
    (w : WD B T os ((k, .bool true) :: t) H HH Q) : WD B T (⟨⟨some k, .bin .eql x y, g⟩, .quiet, i, bs⟩ :: os) t H HH Q :=
  WD.pur hg (fun h => by simp [aopL, hx, hy, aBin, pure1, strEq_self]) w
theorem works10 {H : HL} : WF B tab (.func 10) [] H fun r H' => H' = H ∧ r = .bool true := by
  refine WF.fnR g10 rfl ?_
  exact WC.reg (WOps.pur (fun _ => rfl) (WOps.nil ⟨trivial, List.Sublist.refl _, [_], ⟨_, [], rfl, rfl, rfl⟩, rfl⟩))
set_option maxHeartbeats 4000000 in
theorem puts_ok {d : DD} (hd : DdAt B [] d) (hy : DdBy d) : WF B tab (.func 3) [.agg (dumpC d)] [] fun v _ => v = .bool true := by
  have cn := hd.n.sl.cell
  have cs := hd.s.sl.cell
  have cc := hd.c.sl.cell
  have ci := hd.i.sl.cell
  have ce := hd.e.sl.cell
  have cl := hd.l.sl.cell
  have cq := hd.q.sl.cell
  by_cases hb : badD d
  · refine WF.fn g3 rfl ?_
    refine WC.seq (WC.reg ?_)
    repeat' (first
      | apply WOps.nil | (apply WOps.bx; rfl; rfl; (· repeat' (first | rfl | assumption | apply ac1)); intro _) | (apply WOps.purG; rfl; (intro _; rfl)))
    rename_i p1
    have h1 := hd.cons (x := (p1, .row (dumpC d)))
    refine WC.seq (WC.reg ?_)
    repeat' (first
      | apply WOps.nil | apply WC.seq | apply WC.reg | apply WC.skip | apply WC.ret | (apply WC.condT; rfl) | (apply WC.condF; rfl) | apply WC.dreg | apply WD.nil | (apply WOps.ldG; rfl; rfl; (first | exact ld0 rfl | exact ld1 rfl | exact ld2 rfl); rfl) | (apply WOps.clA; rfl; rfl; exact put7_bad h1 hb; rintro _ _ ⟨rfl, rfl⟩) | (apply WD.clR; rfl; rfl; exact right8_bad h1 hb; rintro _ rfl) | (apply WD.clR; rfl; rfl; exact right9_bad h1 hb; rintro _ rfl) | (apply WOps.clR; rfl; rfl; exact right9_bad h1 hb; rintro _ rfl) | (apply WOps.clR; rfl; rfl; exact works10; rintro _ rfl) | (apply WOps.purG; rfl; (intro _; rfl)) | (apply WD.pur; rfl; (intro _; rfl)) | (apply WD.load; rfl; · repeat' (first | refine at1 ?_ rfl | apply at2 | exact same0 | refine same1 ?_ rfl | apply same2 | (first | exact rd0 rfl rfl rfl | exact rd1 rfl rfl rfl | exact rd2 rfl rfl rfl))))
    exact ⟨trivial, [_], ⟨_, [], rfl, rfl, rfl⟩, rfl⟩
  · have by1 := dumpB_by hd hb hy
    refine WF.fn g3 rfl ?_
    refine WC.seq (WC.reg ?_)
    repeat' (first
      | apply WOps.nil | (apply WOps.bx; rfl; rfl; (· repeat' (first | rfl | assumption | apply ac1)); intro _) | (apply WOps.purG; rfl; (intro _; rfl)))
    rename_i p1
    have h1 := hd.cons (x := (p1, .row (dumpC d)))
    refine WC.seq (WC.reg ?_)
    repeat' (first
      | apply WOps.nil | apply WC.seq | apply WC.reg | apply WC.skip | apply WC.ret | (apply WC.condF; rfl) | apply WC.dreg | apply WD.nil | (apply WOps.ldG; rfl; rfl; (first | exact ld0 rfl | exact ld1 rfl | exact ld2 rfl); rfl) | (apply WOps.clA; rfl; rfl; exact put7_ok h1 hb; rintro _ _ ⟨v, h, rfl, o, rfl⟩) | (apply WD.eqS; rfl; rfl; rfl) | (apply WD.load; rfl; · repeat' (first | refine at1 ?_ rfl | apply at2 | exact same0 | refine same1 ?_ rfl | apply same2 | exact rd_ld rfl (Ld.right (Ld.own Tk.head rfl)) rfl)) | (apply WOps.ldG; rfl; rfl; exact Ld.right (Ld.own Tk.head rfl); rfl) | (apply WD.clR; rfl; rfl; exact right8_good (hd.cons.app h) hb; rintro _ rfl) | (apply WD.clR; rfl; rfl; exact right9_good (hd.cons.app h) hb; rintro _ rfl) | (apply WOps.clR; rfl; rfl; exact right9_good (hd.cons.app h) hb; rintro _ rfl) | (apply WD.clA; rfl; rfl; exact bytes11_ok (hd.cons.app h) hb; intro v2 H2 w2) | (apply WD.load; rfl; apply at1; exact rd_str rfl w2.src by1; rfl) | (apply WD.load; rfl; apply at2; exact rd_str rfl (w2.srcR (SrcIs.left (own_src o))) by1; (repeat' (first | exact same0 | (apply same2; exact rd_str rfl (SrcIs.left (own_src o)) by1)))) | (apply WD.clR; rfl; rfl; exact works10; rintro _ rfl) | (apply WOps.purG; rfl; (intro _; rfl)) | (apply WD.pur; rfl; (intro _; rfl)))
    exact ⟨trivial, [_], ⟨_, [], rfl, rfl, rfl⟩, rfl⟩
theorem t3 : tyOf Try.prog 3 = .int .i64 := by kernel_rfl
theorem t9 : tyOf Try.prog 9 = .str := by kernel_rfl
theorem t22 : tyOf Try.prog 22 = .int .u64 := by kernel_rfl
theorem t4 : tyOf Try.prog 4 = .bool := by kernel_rfl
theorem t100 : tyOf Try.prog 100 = .int .u32 := by kernel_rfl
theorem t59 : tyOf Try.prog 59 = .sl 9 1 := by kernel_rfl
theorem t5 : tyOf Try.prog 5 = .int .u8 := by kernel_rfl
theorem t52 : tyOf Try.prog 52 = .st [(0, 1, 3), (1, 1, 9), (2, 1, 22), (3, 1, 22)] := by kernel_rfl
theorem t23 : tyOf Try.prog 23 = .sl 52 4 := by kernel_rfl
theorem t61 : tyOf Try.prog 61 = .st [(0, 1, 3), (1, 1, 9), (2, 1, 9), (3, 1, 59), (4, 1, 3), (5, 1, 22), (6, 1, 22)] := by kernel_rfl
theorem t24 : tyOf Try.prog 24 = .sl 61 7 := by kernel_rfl
theorem t69 : tyOf Try.prog 69 = .st [(0, 1, 3), (1, 1, 9), (2, 1, 9), (3, 1, 9), (4, 1, 3), (5, 1, 22), (6, 1, 22)] := by kernel_rfl
theorem t25 : tyOf Try.prog 25 = .sl 69 7 := by kernel_rfl
theorem t77 : tyOf Try.prog 77 = .st [(0, 1, 9), (1, 1, 9), (2, 1, 4), (3, 1, 22), (4, 1, 22)] := by kernel_rfl
theorem t26 : tyOf Try.prog 26 = .sl 77 5 := by kernel_rfl
theorem t85 : tyOf Try.prog 85 = .st [(0, 1, 9), (1, 1, 9), (2, 1, 22), (3, 1, 22), (4, 1, 22), (5, 1, 22)] := by kernel_rfl
theorem t27 : tyOf Try.prog 27 = .sl 85 6 := by kernel_rfl
theorem t93 : tyOf Try.prog 93 = .st [(0, 1, 22), (1, 1, 3), (2, 1, 22), (3, 1, 22)] := by kernel_rfl
theorem t28 : tyOf Try.prog 28 = .sl 93 4 := by kernel_rfl
theorem t102 : tyOf Try.prog 102 = .st [(0, 1, 3), (1, 1, 100), (2, 1, 22)] := by kernel_rfl
theorem t30 : tyOf Try.prog 30 = .sl 102 3 := by kernel_rfl
theorem t29 : tyOf Try.prog 29 = .st [(0, 1, 22), (1, 1, 22), (2, 1, 22), (3, 1, 22), (4, 1, 22), (5, 1, 22)] := by kernel_rfl
theorem t32 : tyOf Try.prog 32 = .st [(0, 1, 22), (1, 1, 23), (2, 1, 24), (3, 1, 25), (4, 1, 26), (5, 1, 27), (6, 1, 28), (7, 6, 29), (13, 1, 30)] := by kernel_rfl
theorem b9 : Try.prog.bytesOf 9 = 16 := by kernel_rfl
theorem list_of {α : Type} {P : α → Prop} {f : α → List AV} {xs : List (List AV)} (h : ∀ (i : Nat) c, xs[i]? = some c → ∃ a, c = f a ∧ P a) : ∃ l : List α, xs = l.map f ∧ ∀ a, a ∈ l → P a := by
  induction xs with
  | nil => exact ⟨[], rfl, fun a ha => by cases ha⟩
  | cons c xs ih =>
    obtain ⟨l, e, hl⟩ := ih fun i c' h' => h (i + 1) c' (by simpa using h')
    obtain ⟨a, e2, ha⟩ := h 0 c (by simp)
    refine ⟨a :: l, by rw [e, e2]; rfl, fun b hb => ?_⟩
    rcases List.mem_cons.1 hb with h3 | h3
    · rw [h3]; exact ha
    · exact hl b h3
theorem nat_of {n : Int} (h : 0 ≤ n) (k : n ≤ 18446744073709551615) : ∃ m : Nat, n = .ofNat m ∧ m < 18446744073709551616 := ⟨n.toNat, by simp only [Int.ofNat_eq_natCast]; omega, by omega⟩
theorem nat_of32 {n : Int} (h : 0 ≤ n) (k : n ≤ 4294967295) : ∃ m : Nat, n = .ofNat m ∧ m < 4294967296 := ⟨n.toNat, by simp only [Int.ofNat_eq_natCast]; omega, by omega⟩
theorem m64 : IntKind.u64.min = 0 ∧ IntKind.u64.max = 18446744073709551615 := by decide
theorem m32 : IntKind.u32.min = 0 ∧ IntKind.u32.max = 4294967295 := by decide
def FOk (B : Nat → List AV) (f : Fd) : Prop := f.wf ∧ f.at B [] ∧ f.by
theorem fok {sh : List Fd → Prop} {r : List Fd} (h : sh r) (k : ∀ f, f ∈ r → FOk B f) : (sh r ∧ (∀ f, f ∈ r → f.wf) ∧ ∀ f, f ∈ r → f.at B []) ∧ ∀ f, f ∈ r → f.by := ⟨⟨h, fun f hf => (k f hf).1, fun f hf => (k f hf).2.1⟩, fun f hf => (k f hf).2.2⟩
theorem cons_ok {f : Fd} {r : List Fd} (h : FOk B f) (k : ∀ f, f ∈ r → FOk B f) : ∀ g, g ∈ f :: r → FOk B g := fun g hg => (List.mem_cons.1 hg).elim (fun e => e ▸ h) (k g)
theorem nil_ok : ∀ g, g ∈ ([] : List Fd) → FOk B g := fun g hg => by cases hg
theorem tags_of {n : Nat} {c : List AV} (h : Is Try.prog B n 59 c) : ∃ (v : AV) (l : List (List Nat)), c = [v] ∧ SlIs B [] v 1 (l.map strC) ∧ l.length ≤ 9223372036854775807 ∧ ∀ s, s ∈ l → byL s := by
  obtain ⟨m2, tg, xs, e4, k1, k2, k4⟩ := h.slice t59
  obtain ⟨tags, kt, ks⟩ := list_of (α := List Nat) (P := fun s => byL s) (f := strC) (xs := xs) fun i c hc => by
    obtain ⟨s, e, hb, _⟩ := (k4 i c hc).str t9
    exact ⟨s, e, hb⟩
  subst kt
  rw [List.length_map] at k2
  exact ⟨tg, tags, e4, k1, k2, ks⟩
theorem row_N {n : Nat} {c : List AV} (h : Is Try.prog B n 52 c) : ∃ r, c = rowC r ∧ ((shN r ∧ (∀ f, f ∈ r → f.wf) ∧ ∀ f, f ∈ r → f.at B []) ∧ ∀ f, f ∈ r → f.by) := by
  obtain ⟨m, h0⟩ := h.st t52
  obtain ⟨a, r1, e1, lo1, hi1, h1⟩ := h0.int t3
  obtain ⟨b, r2, e2, y2, _, h2⟩ := h1.str t9
  obtain ⟨c, r3, e3, lo3, hi3, h3⟩ := h2.int t22
  rw [m64.1] at lo3
  rw [m64.2] at hi3
  obtain ⟨nc, q3, w3⟩ := nat_of lo3 hi3
  obtain ⟨d, r4, e4, lo4, hi4, h4⟩ := h3.int t22
  rw [m64.1] at lo4
  rw [m64.2] at hi4
  obtain ⟨nd, q4, w4⟩ := nat_of lo4 hi4
  have e0 := h4.nil
  exact ⟨[.int a 255, .txt b, .num nc, .num nd], by rw [e1, e2, e3, q3, e4, q4, e0]; rfl, fok ⟨a, b, nc, nd, rfl⟩ (cons_ok ⟨(by simp only [Fd.wf]; omega), trivial, trivial⟩ (cons_ok ⟨trivial, trivial, y2⟩ (cons_ok ⟨w3, trivial, trivial⟩ (cons_ok ⟨w4, trivial, trivial⟩ nil_ok))))⟩
theorem row_S {n : Nat} {c : List AV} (h : Is Try.prog B n 61 c) : ∃ r, c = rowC r ∧ ((shS r ∧ (∀ f, f ∈ r → f.wf) ∧ ∀ f, f ∈ r → f.at B []) ∧ ∀ f, f ∈ r → f.by) := by
  obtain ⟨m, h0⟩ := h.st t61
  obtain ⟨a, r1, e1, lo1, hi1, h1⟩ := h0.int t3
  obtain ⟨b, r2, e2, y2, _, h2⟩ := h1.str t9
  obtain ⟨c, r3, e3, y3, _, h3⟩ := h2.str t9
  obtain ⟨p4, r4, e4, _, g4, h4⟩ := h3.cons
  obtain ⟨vd, d, f4, s4, w4, y4⟩ := tags_of g4
  obtain ⟨e, r5, e5, lo5, hi5, h5⟩ := h4.int t3
  obtain ⟨f, r6, e6, lo6, hi6, h6⟩ := h5.int t22
  rw [m64.1] at lo6
  rw [m64.2] at hi6
  obtain ⟨nf, q6, w6⟩ := nat_of lo6 hi6
  obtain ⟨g, r7, e7, lo7, hi7, h7⟩ := h6.int t22
  rw [m64.1] at lo7
  rw [m64.2] at hi7
  obtain ⟨ng, q7, w7⟩ := nat_of lo7 hi7
  have e0 := h7.nil
  exact ⟨[.int a 255, .txt b, .txt c, .txs vd d, .int e 65535, .num nf, .num ng], by rw [e1, e2, e3, e4, f4, e5, e6, q6, e7, q7, e0]; rfl, fok ⟨a, b, c, vd, d, e, nf, ng, rfl⟩ (cons_ok ⟨(by simp only [Fd.wf]; omega), trivial, trivial⟩ (cons_ok ⟨trivial, trivial, y2⟩ (cons_ok ⟨trivial, trivial, y3⟩ (cons_ok ⟨w4, s4, y4⟩ (cons_ok ⟨(by simp only [Fd.wf]; omega), trivial, trivial⟩ (cons_ok ⟨w6, trivial, trivial⟩ (cons_ok ⟨w7, trivial, trivial⟩ nil_ok)))))))⟩
theorem row_C {n : Nat} {c : List AV} (h : Is Try.prog B n 69 c) : ∃ r, c = rowC r ∧ ((shC r ∧ (∀ f, f ∈ r → f.wf) ∧ ∀ f, f ∈ r → f.at B []) ∧ ∀ f, f ∈ r → f.by) := by
  obtain ⟨m, h0⟩ := h.st t69
  obtain ⟨a, r1, e1, lo1, hi1, h1⟩ := h0.int t3
  obtain ⟨b, r2, e2, y2, _, h2⟩ := h1.str t9
  obtain ⟨c, r3, e3, y3, _, h3⟩ := h2.str t9
  obtain ⟨d, r4, e4, y4, _, h4⟩ := h3.str t9
  obtain ⟨e, r5, e5, lo5, hi5, h5⟩ := h4.int t3
  obtain ⟨f, r6, e6, lo6, hi6, h6⟩ := h5.int t22
  rw [m64.1] at lo6
  rw [m64.2] at hi6
  obtain ⟨nf, q6, w6⟩ := nat_of lo6 hi6
  obtain ⟨g, r7, e7, lo7, hi7, h7⟩ := h6.int t22
  rw [m64.1] at lo7
  rw [m64.2] at hi7
  obtain ⟨ng, q7, w7⟩ := nat_of lo7 hi7
  have e0 := h7.nil
  exact ⟨[.int a 255, .txt b, .txt c, .txt d, .int e 255, .num nf, .num ng], by rw [e1, e2, e3, e4, e5, e6, q6, e7, q7, e0]; rfl, fok ⟨a, b, c, d, e, nf, ng, rfl⟩ (cons_ok ⟨(by simp only [Fd.wf]; omega), trivial, trivial⟩ (cons_ok ⟨trivial, trivial, y2⟩ (cons_ok ⟨trivial, trivial, y3⟩ (cons_ok ⟨trivial, trivial, y4⟩ (cons_ok ⟨(by simp only [Fd.wf]; omega), trivial, trivial⟩ (cons_ok ⟨w6, trivial, trivial⟩ (cons_ok ⟨w7, trivial, trivial⟩ nil_ok)))))))⟩
theorem row_I {n : Nat} {c : List AV} (h : Is Try.prog B n 77 c) : ∃ r, c = rowC r ∧ ((shI r ∧ (∀ f, f ∈ r → f.wf) ∧ ∀ f, f ∈ r → f.at B []) ∧ ∀ f, f ∈ r → f.by) := by
  obtain ⟨m, h0⟩ := h.st t77
  obtain ⟨a, r1, e1, y1, _, h1⟩ := h0.str t9
  obtain ⟨b, r2, e2, y2, _, h2⟩ := h1.str t9
  obtain ⟨p3, r3, e3, _, g3, h3⟩ := h2.cons
  obtain ⟨c, f3⟩ := g3.bool t4
  obtain ⟨d, r4, e4, lo4, hi4, h4⟩ := h3.int t22
  rw [m64.1] at lo4
  rw [m64.2] at hi4
  obtain ⟨nd, q4, w4⟩ := nat_of lo4 hi4
  obtain ⟨e, r5, e5, lo5, hi5, h5⟩ := h4.int t22
  rw [m64.1] at lo5
  rw [m64.2] at hi5
  obtain ⟨ne, q5, w5⟩ := nat_of lo5 hi5
  have e0 := h5.nil
  exact ⟨[.txt a, .txt b, .flg c, .num nd, .num ne], by rw [e1, e2, e3, f3, e4, q4, e5, q5, e0]; rfl, fok ⟨a, b, c, nd, ne, rfl⟩ (cons_ok ⟨trivial, trivial, y1⟩ (cons_ok ⟨trivial, trivial, y2⟩ (cons_ok ⟨trivial, trivial, trivial⟩ (cons_ok ⟨w4, trivial, trivial⟩ (cons_ok ⟨w5, trivial, trivial⟩ nil_ok)))))⟩
theorem row_E {n : Nat} {c : List AV} (h : Is Try.prog B n 85 c) : ∃ r, c = rowC r ∧ ((shE r ∧ (∀ f, f ∈ r → f.wf) ∧ ∀ f, f ∈ r → f.at B []) ∧ ∀ f, f ∈ r → f.by) := by
  obtain ⟨m, h0⟩ := h.st t85
  obtain ⟨a, r1, e1, y1, _, h1⟩ := h0.str t9
  obtain ⟨b, r2, e2, y2, _, h2⟩ := h1.str t9
  obtain ⟨c, r3, e3, lo3, hi3, h3⟩ := h2.int t22
  rw [m64.1] at lo3
  rw [m64.2] at hi3
  obtain ⟨nc, q3, w3⟩ := nat_of lo3 hi3
  obtain ⟨d, r4, e4, lo4, hi4, h4⟩ := h3.int t22
  rw [m64.1] at lo4
  rw [m64.2] at hi4
  obtain ⟨nd, q4, w4⟩ := nat_of lo4 hi4
  obtain ⟨e, r5, e5, lo5, hi5, h5⟩ := h4.int t22
  rw [m64.1] at lo5
  rw [m64.2] at hi5
  obtain ⟨ne, q5, w5⟩ := nat_of lo5 hi5
  obtain ⟨f, r6, e6, lo6, hi6, h6⟩ := h5.int t22
  rw [m64.1] at lo6
  rw [m64.2] at hi6
  obtain ⟨nf, q6, w6⟩ := nat_of lo6 hi6
  have e0 := h6.nil
  exact ⟨[.txt a, .txt b, .num nc, .num nd, .num ne, .num nf], by rw [e1, e2, e3, q3, e4, q4, e5, q5, e6, q6, e0]; rfl, fok ⟨a, b, nc, nd, ne, nf, rfl⟩ (cons_ok ⟨trivial, trivial, y1⟩ (cons_ok ⟨trivial, trivial, y2⟩ (cons_ok ⟨w3, trivial, trivial⟩ (cons_ok ⟨w4, trivial, trivial⟩ (cons_ok ⟨w5, trivial, trivial⟩ (cons_ok ⟨w6, trivial, trivial⟩ nil_ok))))))⟩
theorem row_L {n : Nat} {c : List AV} (h : Is Try.prog B n 93 c) : ∃ r, c = rowC r ∧ ((shL r ∧ (∀ f, f ∈ r → f.wf) ∧ ∀ f, f ∈ r → f.at B []) ∧ ∀ f, f ∈ r → f.by) := by
  obtain ⟨m, h0⟩ := h.st t93
  obtain ⟨a, r1, e1, lo1, hi1, h1⟩ := h0.int t22
  rw [m64.1] at lo1
  rw [m64.2] at hi1
  obtain ⟨na, q1, w1⟩ := nat_of lo1 hi1
  obtain ⟨b, r2, e2, lo2, hi2, h2⟩ := h1.int t3
  obtain ⟨c, r3, e3, lo3, hi3, h3⟩ := h2.int t22
  rw [m64.1] at lo3
  rw [m64.2] at hi3
  obtain ⟨nc, q3, w3⟩ := nat_of lo3 hi3
  obtain ⟨d, r4, e4, lo4, hi4, h4⟩ := h3.int t22
  rw [m64.1] at lo4
  rw [m64.2] at hi4
  obtain ⟨nd, q4, w4⟩ := nat_of lo4 hi4
  have e0 := h4.nil
  exact ⟨[.num na, .int b 255, .num nc, .num nd], by rw [e1, q1, e2, e3, q3, e4, q4, e0]; rfl, fok ⟨na, b, nc, nd, rfl⟩ (cons_ok ⟨w1, trivial, trivial⟩ (cons_ok ⟨(by simp only [Fd.wf]; omega), trivial, trivial⟩ (cons_ok ⟨w3, trivial, trivial⟩ (cons_ok ⟨w4, trivial, trivial⟩ nil_ok))))⟩
theorem row_Q {n : Nat} {c : List AV} (h : Is Try.prog B n 102 c) : ∃ r, c = rowC r ∧ ((shQ r ∧ (∀ f, f ∈ r → f.wf) ∧ ∀ f, f ∈ r → f.at B []) ∧ ∀ f, f ∈ r → f.by) := by
  obtain ⟨m, h0⟩ := h.st t102
  obtain ⟨a, r1, e1, lo1, hi1, h1⟩ := h0.int t3
  obtain ⟨b, r2, e2, lo2, hi2, h2⟩ := h1.int t100
  rw [m32.1] at lo2
  rw [m32.2] at hi2
  obtain ⟨nb, q2, w2⟩ := nat_of32 lo2 hi2
  obtain ⟨c, r3, e3, lo3, hi3, h3⟩ := h2.int t22
  rw [m64.1] at lo3
  rw [m64.2] at hi3
  obtain ⟨nc, q3, w3⟩ := nat_of lo3 hi3
  have e0 := h3.nil
  exact ⟨[.int a 255, .u32 nb, .num nc], by rw [e1, e2, q2, e3, q3, e0]; rfl, fok ⟨a, nb, nc, rfl⟩ (cons_ok ⟨(by simp only [Fd.wf]; omega), trivial, trivial⟩ (cons_ok ⟨w2, trivial, trivial⟩ (cons_ok ⟨w3, trivial, trivial⟩ nil_ok)))⟩
theorem dump_of {n : Nat} {c : List AV} (h : Is Try.prog B n 32 c) : ∃ d : DD, c = dumpC d ∧ DdAt B [] d ∧ DdBy d := by
  obtain ⟨m, h0⟩ := h.st t32
  obtain ⟨a0, r0, e0, lo0, hi0, h1⟩ := h0.int t22
  rw [m64.1] at lo0
  rw [m64.2] at hi0
  obtain ⟨n0, q0, w0⟩ := nat_of lo0 hi0
  obtain ⟨p1, r1, e1, _, g1, h2⟩ := h1.cons
  obtain ⟨_, vN, xN, kN, sN, lN, yN⟩ := g1.slice t23
  obtain ⟨zN, iN, oN⟩ := list_of (f := rowC) fun i c hc => row_N (yN i c hc)
  rw [iN] at sN lN
  rw [List.length_map] at lN
  obtain ⟨p2, r2, e2, _, g2, h3⟩ := h2.cons
  obtain ⟨_, vS, xS, kS, sS, lS, yS⟩ := g2.slice t24
  obtain ⟨zS, iS, oS⟩ := list_of (f := rowC) fun i c hc => row_S (yS i c hc)
  rw [iS] at sS lS
  rw [List.length_map] at lS
  obtain ⟨p3, r3, e3, _, g3, h4⟩ := h3.cons
  obtain ⟨_, vC, xC, kC, sC, lC, yC⟩ := g3.slice t25
  obtain ⟨zC, iC, oC⟩ := list_of (f := rowC) fun i c hc => row_C (yC i c hc)
  rw [iC] at sC lC
  rw [List.length_map] at lC
  obtain ⟨p4, r4, e4, _, g4, h5⟩ := h4.cons
  obtain ⟨_, vI, xI, kI, sI, lI, yI⟩ := g4.slice t26
  obtain ⟨zI, iI, oI⟩ := list_of (f := rowC) fun i c hc => row_I (yI i c hc)
  rw [iI] at sI lI
  rw [List.length_map] at lI
  obtain ⟨p5, r5, e5, _, g5, h6⟩ := h5.cons
  obtain ⟨_, vE, xE, kE, sE, lE, yE⟩ := g5.slice t27
  obtain ⟨zE, iE, oE⟩ := list_of (f := rowC) fun i c hc => row_E (yE i c hc)
  rw [iE] at sE lE
  rw [List.length_map] at lE
  obtain ⟨p6, r6, e6, _, g6, h7⟩ := h6.cons
  obtain ⟨_, vL, xL, kL, sL, lL, yL⟩ := g6.slice t28
  obtain ⟨zL, iL, oL⟩ := list_of (f := rowC) fun i c hc => row_L (yL i c hc)
  rw [iL] at sL lL
  rw [List.length_map] at lL
  obtain ⟨p7, r7, e7, _, g7, h8⟩ := h7.cons
  obtain ⟨m7, j0⟩ := g7.st t29
  obtain ⟨b0, u0, f0, ll0, lh0, j1⟩ := j0.int t22
  rw [m64.1] at ll0
  rw [m64.2] at lh0
  obtain ⟨c0, d0, x0⟩ := nat_of ll0 lh0
  obtain ⟨b1, u1, f1, ll1, lh1, j2⟩ := j1.int t22
  rw [m64.1] at ll1
  rw [m64.2] at lh1
  obtain ⟨c1, d1, x1⟩ := nat_of ll1 lh1
  obtain ⟨b2, u2, f2, ll2, lh2, j3⟩ := j2.int t22
  rw [m64.1] at ll2
  rw [m64.2] at lh2
  obtain ⟨c2, d2, x2⟩ := nat_of ll2 lh2
  obtain ⟨b3, u3, f3, ll3, lh3, j4⟩ := j3.int t22
  rw [m64.1] at ll3
  rw [m64.2] at lh3
  obtain ⟨c3, d3, x3⟩ := nat_of ll3 lh3
  obtain ⟨b4, u4, f4, ll4, lh4, j5⟩ := j4.int t22
  rw [m64.1] at ll4
  rw [m64.2] at lh4
  obtain ⟨c4, d4, x4⟩ := nat_of ll4 lh4
  obtain ⟨b5, u5, f5, ll5, lh5, j6⟩ := j5.int t22
  rw [m64.1] at ll5
  rw [m64.2] at lh5
  obtain ⟨c5, d5, x5⟩ := nat_of ll5 lh5
  have f6 := j6.nil
  obtain ⟨p8, r8, e8, _, g8, h9⟩ := h8.cons
  obtain ⟨_, vQ, xQ, kQ, sQ, lQ, yQ⟩ := g8.slice t30
  obtain ⟨zQ, iQ, oQ⟩ := list_of (f := rowC) fun i c hc => row_Q (yQ i c hc)
  rw [iQ] at sQ lQ
  rw [List.length_map] at lQ
  have e9 := h9.nil
  exact ⟨⟨n0, vN, vS, vC, vI, vE, vL, c0, c1, c2, c3, c4, c5, vQ, zN, zS, zC, zI, zE, zL, zQ⟩, by rw [e0, q0, e1, kN, e2, kS, e3, kC, e4, kI, e5, kE, e6, kL, e7, f0, d0, f1, d1, f2, d2, f3, d3, f4, d4, f5, d5, f6, e8, kQ, e9]; rfl, ⟨⟨sN, fun r hr => (oN r hr).1, lN⟩, ⟨sS, fun r hr => (oS r hr).1, lS⟩, ⟨sC, fun r hr => (oC r hr).1, lC⟩, ⟨sI, fun r hr => (oI r hr).1, lI⟩, ⟨sE, fun r hr => (oE r hr).1, lE⟩, ⟨sL, fun r hr => (oL r hr).1, lL⟩, ⟨sQ, fun r hr => (oQ r hr).1, lQ⟩, ⟨w0, x0, x1, x2, x3, x4, x5⟩⟩, ⟨fun r hr => (oN r hr).2, fun r hr => (oS r hr).2, fun r hr => (oC r hr).2, fun r hr => (oI r hr).2, fun r hr => (oE r hr).2, fun r hr => (oL r hr).2, fun r hr => (oQ r hr).2⟩⟩
theorem dumpPuts_wf (B : Nat → List AV) (args : List AV) (h : ArgIs Try.prog B Try.f3.params.toList args) : WF B tab (.func 3) args [] fun v _ => v = .bool true := by
  rw [show Try.f3.params.toList = [32] from by kernel_rfl] at h
  match args, h with
  | [a], ⟨⟨n, cs, h, ha⟩, _⟩ =>
    rw [show (shapeOf Try.prog 32).1 = true from by kernel_rfl] at ha
    simp only at ha
    obtain ⟨d, e, h1, h2⟩ := dump_of h
    rw [e] at ha
    cases ha
    exact puts_ok h1 h2
end Go.Proofs.Ytdcbglljljfleaa.DU
