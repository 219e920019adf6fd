/- What the functions do, shown by the logic. -/
import Derived.Test.YtmkcbjklcfegcaaGreatQS3
set_option linter.unusedSimpArgs false
set_option linter.unusedVariables false
set_option maxRecDepth 20000
namespace Go.Proofs.YtmkcbjklcfegcaaGreat.QS
open Go.Proofs.YtmkcbjklcfegcaaGreat.Abs
variable {B : Nat → List AV}

set_option maxHeartbeats 1000000 in
theorem law_ok {c d : List AV} {x y : An} (hc : AnR B c x) (hd : AnR B d y) : WF B tab (.func 3) [.agg c, .agg d] [] fun r _ => r = .bool true := by
  have hc0 := hc
  have hd0 := hd
  obtain ⟨v1, v2, v3, v4, v5, v6, rfl, ⟨xs1, s1, -, -⟩, f2, f3, ⟨xs4, s4, -, -⟩, f5, f6⟩ := hc
  obtain ⟨w1, w2, w3, w4, w5, w6, rfl, ⟨ys1, z1, -, -⟩, e2, e3, ⟨ys4, z4, -, -⟩, e5, e6⟩ := hd
  have cv1 := s1.cell
  have cv2 := f2.sl.cell
  have cv3 := f3.sl.cell
  have cv4 := s4.cell
  have cv5 := f5.sl.cell
  have cv6 := f6.sl.cell
  have cw1 := z1.cell
  have cw2 := e2.sl.cell
  have cw3 := e3.sl.cell
  have cw4 := z4.cell
  have cw5 := e5.sl.cell
  have cw6 := e6.sl.cell
  refine (WF.fnR (P := fun r => r = .bool true) g3 rfl ?_).mono fun v H h => h.2
  repeat' (first
    | apply WOps.nil
    | apply WC.seq
    | apply WC.reg
    | apply WC.skip
    | apply WC.ret
    | apply WC.exit
    | (apply WC.condT; rfl)
    | (apply WC.condF; rfl)
    | apply WC.block
    | apply WC.scope
    | apply WC.dreg
    | apply WD.nil
    | (apply WOps.ldG; rfl; rfl; (first | exact Ld.own Tk.head rfl | exact Ld.own (Tk.tail Tk.head) rfl | exact Ld.own (Tk.tail (Tk.tail Tk.head)) rfl); rfl)
    | (apply WOps.st; rfl; rfl; (first | exact Tk.head | exact (Tk.tail Tk.head) | exact (Tk.tail (Tk.tail Tk.head))); rfl; (first | rfl | ((repeat' (first | exact allCell_nil | apply allCell_cons)) <;> (first | rfl | assumption))); rfl)
    | (apply WOps.alc; rfl; intro _)
    | (apply WOps.bx; rfl; rfl; (first | rfl | ((repeat' (first | exact allCell_nil | apply allCell_cons)) <;> (first | rfl | assumption))); intro _)
    | (apply WOps.bsl; rfl; (first | rfl | ((repeat' (first | exact allCell_nil | apply allCell_cons)) <;> (first | rfl | assumption))); intro _)
    | (apply WD.st; rfl; rfl; rfl; (first | exact Tk.head | exact (Tk.tail Tk.head) | exact (Tk.tail (Tk.tail Tk.head))); rfl; (first | rfl | ((repeat' (first | exact allCell_nil | apply allCell_cons)) <;> (first | rfl | assumption))); rfl)
    | (apply WD.alc; rfl; rfl; intro _)
    | (apply WD.bsl; rfl; rfl; (first | rfl | ((repeat' (first | exact allCell_nil | apply allCell_cons)) <;> (first | rfl | assumption))); intro _)
    | (apply WD.clR; rfl; rfl; exact qsame_ok hc0 hd0; rintro _ ⟨_, rfl, _⟩)
    | (apply WD.clR; rfl; rfl; exact rsame_ok hc0 hd0; rintro _ ⟨_, rfl, _⟩)
    | (apply WD.clR; rfl; rfl; exact qsame_ok hc0 hc0; rintro _ ⟨_, rfl, _⟩)
    | (apply WD.cl1; rfl; rfl; exact WF.const g6)
    | (apply WOps.cmp; rfl; rfl; rfl; rfl; intro _ _)
    | (apply WOps.cmpT; rfl; rfl; rfl; rfl; intro _ _)
    | (apply WOps.eqB; rfl; rfl; rfl; intro _ _)
    | (apply WOps.purG; rfl; (intro _; rfl))
    | (apply WOps.skp; rfl)
    | (apply WD.load; rfl; (first | (apply at1; (first | exact rd_ld rfl (Ld.own Tk.head rfl) rfl | exact rd_ld rfl (Ld.own (Tk.tail Tk.head) rfl) rfl | exact rd_ld rfl (Ld.own (Tk.tail (Tk.tail Tk.head)) rfl) rfl); rfl) | (apply at2; (first | exact rd_ld rfl (Ld.own Tk.head rfl) rfl | exact rd_ld rfl (Ld.own (Tk.tail Tk.head) rfl) rfl | exact rd_ld rfl (Ld.own (Tk.tail (Tk.tail Tk.head)) rfl) rfl); repeat' (first | exact same0 | (apply same1; (first | exact rd_ld rfl (Ld.own Tk.head rfl) rfl | exact rd_ld rfl (Ld.own (Tk.tail Tk.head) rfl) rfl | exact rd_ld rfl (Ld.own (Tk.tail (Tk.tail Tk.head)) rfl) rfl); rfl) | (apply same2; (first | exact rd_ld rfl (Ld.own Tk.head rfl) rfl | exact rd_ld rfl (Ld.own (Tk.tail Tk.head) rfl) rfl | exact rd_ld rfl (Ld.own (Tk.tail (Tk.tail Tk.head)) rfl) rfl))))))
    | (apply WD.cmp; rfl; rfl; rfl; rfl; intro _ _)
    | (apply WD.cmpT; rfl; rfl; rfl; rfl; intro _ _)
    | (apply WD.eqB; rfl; rfl; rfl; intro _ _)
    | (apply WD.pur; rfl; (intro _; rfl))
    | (apply WD.skp; rfl)
    | (apply WD.skpL; rfl)
    | (apply WD.skpX; rfl)
    | (apply WOps.ask; rfl; all_goals (intro hb; try subst hb))
    | (apply WC.condA; rfl; all_goals (intro hb; try subst hb))
    | (apply WD.ask; rfl; all_goals (intro hb; try subst hb)))
  all_goals refine ⟨trivial, .cons _ (.cons _ (List.Sublist.refl _)), [_], ⟨_, [], rfl, rfl, rfl⟩, ?_⟩
  · rfl
  · simp_all
  · rename_i h1 _ h2 h3
    simp at h3
    exact absurd (Bool.eq_iff_iff.2 (h1.trans h2.symm)) h3
theorem t3 : tyOf Tryz.prog 3 = .int .i64 := by kernel_rfl
theorem t4 : tyOf Tryz.prog 4 = .bool := by kernel_rfl
theorem t9 : tyOf Tryz.prog 9 = .str := by kernel_rfl
theorem t22 : tyOf Tryz.prog 22 = .int .u64 := by kernel_rfl
theorem t23 : tyOf Tryz.prog 23 = .sl 37 7 := by kernel_rfl
theorem t24 : tyOf Tryz.prog 24 = .sl 45 7 := by kernel_rfl
theorem t26 : tyOf Tryz.prog 26 = .st [(0, 1, 4), (1, 1, 3), (2, 1, 9), (3, 1, 23), (4, 1, 24)] := by kernel_rfl
theorem t27 : tyOf Tryz.prog 27 = .sl 48 4 := by kernel_rfl
theorem t28 : tyOf Tryz.prog 28 = .sl 39 8 := by kernel_rfl
theorem t29 : tyOf Tryz.prog 29 = .sl 52 6 := by kernel_rfl
theorem t30 : tyOf Tryz.prog 30 = .sl 55 5 := by kernel_rfl
theorem t32 : tyOf Tryz.prog 32 = .st [(0, 1, 3), (1, 1, 22), (2, 5, 26), (7, 1, 27), (8, 1, 28), (9, 1, 29), (10, 1, 30)] := by kernel_rfl
theorem t35 : tyOf Tryz.prog 35 = .sl 9 1 := by kernel_rfl
theorem t37 : tyOf Tryz.prog 37 = .st [(0, 1, 3), (1, 1, 9), (2, 1, 9), (3, 1, 35), (4, 1, 3), (5, 1, 22), (6, 1, 22)] := by kernel_rfl
theorem t39 : tyOf Tryz.prog 39 = .st [(0, 7, 37), (7, 1, 3)] := by kernel_rfl
theorem t45 : tyOf Tryz.prog 45 = .st [(0, 1, 3), (1, 1, 9), (2, 1, 9), (3, 1, 9), (4, 1, 3), (5, 1, 22), (6, 1, 22)] := by kernel_rfl
theorem t48 : tyOf Tryz.prog 48 = .st [(0, 1, 3), (1, 1, 9), (2, 1, 22), (3, 1, 22)] := by kernel_rfl
theorem t52 : tyOf Tryz.prog 52 = .st [(0, 1, 9), (1, 1, 9), (2, 1, 22), (3, 1, 22), (4, 1, 22), (5, 1, 22)] := by kernel_rfl
theorem t55 : tyOf Tryz.prog 55 = .st [(0, 1, 9), (1, 1, 9), (2, 1, 4), (3, 1, 22), (4, 1, 22)] := by kernel_rfl

theorem svR_of {n : Nat} {c : List AV} (h : Is Tryz.prog B n 37 c) : ∃ s, SvR B c s := by
  obtain ⟨m, h_1⟩ := h.st t37
  obtain ⟨n1, r, rfl, _, _, h_2⟩ := h_1.int t3
  obtain ⟨i1, r, rfl, _, _, h_3⟩ := h_2.str t9
  obtain ⟨m1, r, rfl, _, _, h_4⟩ := h_3.str t9
  obtain ⟨p, r, rfl, _, h1_6, h_5⟩ := h_4.cons
  obtain ⟨tg, ts, rfl, k1, k2, k3⟩ := h1_6.texts t35 t9
  obtain ⟨p1, r, rfl, _, _, h_7⟩ := h_5.int t3
  obtain ⟨a1, r, rfl, _, _, h_8⟩ := h_7.int t22
  obtain ⟨b1, r, rfl, _, _, h_9⟩ := h_8.int t22
  obtain rfl := h_9.nil
  exact ⟨⟨n1, i1, m1, ts, p1, a1, b1⟩, tg, rfl, k1, k2, k3⟩
theorem inR_of {n : Nat} {c : List AV} (h : Is Tryz.prog B n 39 c) : ∃ s, InR B c s := by
  obtain ⟨m, h_10⟩ := h.st t39
  obtain ⟨p, r, rfl, _, h1_12, h_11⟩ := h_10.cons
  obtain ⟨s, tg, rfl, k1, k2, k3⟩ := svR_of h1_12
  obtain ⟨st, r, rfl, _, _, h_13⟩ := h_11.int t3
  obtain rfl := h_13.nil
  exact ⟨(s, st), tg, rfl, k1, k2, k3⟩
theorem anR_of {n : Nat} {c : List AV} (h : Is Tryz.prog B n 32 c) : ∃ x, AnR B c x := by
  obtain ⟨m, h_14⟩ := h.st t32
  obtain ⟨k, r, rfl, _, _, h_15⟩ := h_14.int t3
  obtain ⟨ix, r, rfl, _, _, h_16⟩ := h_15.int t22
  obtain ⟨p, r, rfl, _, h1_18, h_17⟩ := h_16.cons
  obtain ⟨m2, h1_19⟩ := h1_18.st t26
  obtain ⟨th, r1, rfl, h1_20⟩ := h1_19.bool t4
  obtain ⟨n1, r1, rfl, _, _, h1_21⟩ := h1_20.int t3
  obtain ⟨ad, r1, rfl, _, _, h1_22⟩ := h1_21.str t9
  obtain ⟨p1, r1, rfl, _, g1, h1_23⟩ := h1_22.cons
  obtain ⟨m3, v1, xs1, rfl, s1, l1, e1⟩ := g1.slice t23
  obtain ⟨us1, q1⟩ := Rel2.of fun i c hc => svR_of (e1 i c hc)
  obtain ⟨p2, r1, rfl, _, g2, h1_24⟩ := h1_23.cons
  obtain ⟨v2, xs2, rfl, s2, y2, l2⟩ := g2.flat (cts := chkT) t24 t45 ⟨t3, t9, t9, t9, t3, t22, t22, trivial⟩
  obtain rfl := h1_24.nil
  obtain ⟨p3, r, rfl, _, g3, h_25⟩ := h_17.cons
  obtain ⟨v3, xs3, rfl, s3, y3, l3⟩ := g3.flat (cts := nodT) t27 t48 ⟨t3, t9, t22, t22, trivial⟩
  obtain ⟨p4, r, rfl, _, g4, h_26⟩ := h_25.cons
  obtain ⟨m4, v4, xs4, rfl, s4, l4, e4⟩ := g4.slice t28
  obtain ⟨us4, q4⟩ := Rel2.of fun i c hc => inR_of (e4 i c hc)
  obtain ⟨p5, r, rfl, _, g5, h_27⟩ := h_26.cons
  obtain ⟨v5, xs5, rfl, s5, y5, l5⟩ := g5.flat (cts := entT) t29 t52 ⟨t9, t9, t22, t22, t22, t22, trivial⟩
  obtain ⟨p6, r, rfl, _, g6, h_28⟩ := h_27.cons
  obtain ⟨v6, xs6, rfl, s6, y6, l6⟩ := g6.flat (cts := itnT) t30 t55 ⟨t9, t9, t4, t22, t22, trivial⟩
  obtain rfl := h_28.nil
  exact ⟨⟨k, ix, th, n1, ad, us1, xs2, xs3, us4, xs5, xs6⟩, v1, v2, v3, v4, v5, v6, rfl, ⟨xs1, s1, q1, l1⟩, ⟨s2, y2, l2⟩, ⟨s3, y3, l3⟩, ⟨xs4, s4, q4, l4⟩, ⟨s5, y5, l5⟩, ⟨s6, y6, l6⟩⟩

theorem querySame_wf (B : Nat → List AV) (args : List AV) (h : ArgIs Tryz.prog B Tryz.f3.params.toList args) : WF B tab (.func 3) args [] fun v _ => v = .bool true := by
  rw [show Tryz.f3.params.toList = [32, 32] from by kernel_rfl] at h
  match args, h with
  | [a, b], ⟨⟨n, cs, h, ha⟩, ⟨n2, ds, k, hb⟩, _⟩ =>
    rw [show (shapeOf Tryz.prog 32).1 = true from by kernel_rfl] at ha hb
    simp only at ha hb
    subst ha
    subst hb
    obtain ⟨x, hx⟩ := anR_of h
    obtain ⟨y, hy⟩ := anR_of k
    exact law_ok hx hy
end Go.Proofs.YtmkcbjklcfegcaaGreat.QS
