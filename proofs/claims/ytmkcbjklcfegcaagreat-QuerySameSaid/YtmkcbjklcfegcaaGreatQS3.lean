/- What the functions do, shown by the logic. -/
import Derived.Test.YtmkcbjklcfegcaaGreatQS2
set_option linter.unusedSimpArgs false
set_option linter.unusedVariables false
set_option maxRecDepth 20000
namespace Go.Proofs.YtmkcbjklcfegcaaGreat.QS
open Go.Proofs.YtmkcbjklcfegcaaGreat.Abs
variable {B : Nat → List AV}

abbrev chkT : List CT := [.int .i64, .str, .str, .str, .int .i64, .int .u64, .int .u64]
abbrev nodT : List CT := [.int .i64, .str, .int .u64, .int .u64]
abbrev entT : List CT := [.str, .str, .int .u64, .int .u64, .int .u64, .int .u64]
abbrev itnT : List CT := [.str, .str, .bool, .int .u64, .int .u64]
/-- A slice of flat structs. -/
structure FlR (B : Nat → List AV) (v : AV) (cts : List CT) (xs : List (List AV)) : Prop where
  sl : SlIs B [] v cts.length xs
  ty : ∀ (i : Nat) c, xs[i]? = some c → AllT cts c
  len : xs.length ≤ 9223372036854775807
/-- A slice of others. -/
structure LsR {α : Type} (B : Nat → List AV) (v : AV) (esz : Nat) (R : List AV → α → Prop) (us : List α) : Prop where
  ex : ∃ xs, SlIs B [] v esz xs ∧ Rel2 R xs us ∧ xs.length ≤ 9223372036854775807
/-- An answer. -/
structure An where
  k : Int
  ix : Int
  th : Bool
  n : Int
  ad : List Nat
  sv : List Sv
  ck : List (List AV)
  nd : List (List AV)
  ins : List (Sv × Int)
  en : List (List AV)
  it : List (List AV)
def AnR (B : Nat → List AV) (c : List AV) (x : An) : Prop := ∃ v1 v2 v3 v4 v5 v6, c = [.int .i64 x.k, .int .u64 x.ix, .bool x.th, .int .i64 x.n, .str x.ad, v1, v2, v3, v4, v5, v6] ∧
  LsR B v1 7 (SvR B) x.sv ∧ FlR B v2 chkT x.ck ∧ FlR B v3 nodT x.nd ∧ LsR B v4 8 (InR B) x.ins ∧ FlR B v5 entT x.en ∧ FlR B v6 itnT x.it

set_option maxHeartbeats 1000000 in
theorem qsame_ok {H : HL} {c d : List AV} {x y : An} (hc : AnR B c x) (hd : AnR B d y) : WF B tab (.func 4) [.agg c, .agg d] H fun r H' => H' = H ∧ ∃ b : Bool, r = .bool b ∧ (b = true ↔ x = y) := by
  obtain ⟨xk, xix, xth, xn, xad, xsv, xck, xnd, xins, xen, xit⟩ := x
  obtain ⟨yk, yix, yth, yn, yad, ysv, yck, ynd, yins, yen, yit⟩ := y
  obtain ⟨v1, v2, v3, v4, v5, v6, rfl, ⟨xs1, s1, r1, m1⟩, f2, f3, ⟨xs4, s4, r4, m4⟩, f5, f6⟩ := hc
  obtain ⟨w1, w2, w3, w4, w5, w6, rfl, ⟨ys1, z1, q1, n1⟩, e2, e3, ⟨ys4, z4, q4, n4⟩, e5, e6⟩ := hd
  simp only at r1 q1 r4 q4 f2 f3 f5 f6 e2 e3 e5 e6
  have cv1 := s1.cell
  have cv2 := f2.sl.cell
  have cv3 := f3.sl.cell
  have cv4 := s4.cell
  have cv5 := f5.sl.cell
  have cv6 := f6.sl.cell
  have cw1 := z1.cell
  have cw2 := e2.sl.cell
  have cw3 := e3.sl.cell
  have cw4 := z4.cell
  have cw5 := e5.sl.cell
  have cw6 := e6.sl.cell
  refine WF.fnR g4 rfl ?_
  repeat' (first
    | apply WOps.nil
    | apply WC.seq
    | apply WC.reg
    | apply WC.skip
    | apply WC.ret
    | apply WC.exit
    | (apply WC.condT; rfl)
    | (apply WC.condF; rfl)
    | apply WC.block
    | apply WC.scope
    | apply WC.dreg
    | apply WD.nil
    | (apply WOps.ldG; rfl; rfl; (first | exact Ld.own Tk.head rfl | exact Ld.own (Tk.tail Tk.head) rfl | exact Ld.own (Tk.tail (Tk.tail Tk.head)) rfl); rfl)
    | (apply WOps.st; rfl; rfl; (first | exact Tk.head | exact (Tk.tail Tk.head) | exact (Tk.tail (Tk.tail Tk.head))); rfl; (first | rfl | ((repeat' (first | exact allCell_nil | apply allCell_cons)) <;> (first | rfl | assumption))); rfl)
    | (apply WOps.alc; rfl; intro _)
    | (apply WOps.bx; rfl; rfl; (first | rfl | ((repeat' (first | exact allCell_nil | apply allCell_cons)) <;> (first | rfl | assumption))); intro _)
    | (apply WOps.bsl; rfl; (first | rfl | ((repeat' (first | exact allCell_nil | apply allCell_cons)) <;> (first | rfl | assumption))); intro _)
    | (apply WD.st; rfl; rfl; rfl; (first | exact Tk.head | exact (Tk.tail Tk.head) | exact (Tk.tail (Tk.tail Tk.head))); rfl; (first | rfl | ((repeat' (first | exact allCell_nil | apply allCell_cons)) <;> (first | rfl | assumption))); rfl)
    | (apply WD.alc; rfl; rfl; intro _)
    | (apply WD.bsl; rfl; rfl; (first | rfl | ((repeat' (first | exact allCell_nil | apply allCell_cons)) <;> (first | rfl | assumption))); intro _)
    | (apply WOps.clR; rfl; rfl; exact ef9_ok s1.any z1.any r1 q1 m1; rintro _ ⟨_, rfl, _⟩)
    | (apply WOps.clR; rfl; rfl; exact eq10_ok f2.sl.any e2.sl.any f2.ty e2.ty f2.len; rintro _ ⟨_, rfl, _⟩)
    | (apply WOps.clR; rfl; rfl; exact eq11_ok f3.sl.any e3.sl.any f3.ty e3.ty f3.len; rintro _ ⟨_, rfl, _⟩)
    | (apply WOps.clR; rfl; rfl; exact ef12_ok s4.any z4.any r4 q4 m4; rintro _ ⟨_, rfl, _⟩)
    | (apply WOps.clR; rfl; rfl; exact eq13_ok f5.sl.any e5.sl.any f5.ty e5.ty f5.len; rintro _ ⟨_, rfl, _⟩)
    | (apply WOps.clR; rfl; rfl; exact eq14_ok f6.sl.any e6.sl.any f6.ty e6.ty f6.len; rintro _ ⟨_, rfl, _⟩)
    | (apply WOps.cmp; rfl; rfl; rfl; rfl; intro _ _)
    | (apply WOps.cmpT; rfl; rfl; rfl; rfl; intro _ _)
    | (apply WOps.eqB; rfl; rfl; rfl; intro _ _)
    | (apply WOps.purG; rfl; (intro _; rfl))
    | (apply WOps.skp; rfl)
    | (apply WD.load; rfl; (first | (apply at1; (first | exact rd_ld rfl (Ld.own Tk.head rfl) rfl | exact rd_ld rfl (Ld.own (Tk.tail Tk.head) rfl) rfl | exact rd_ld rfl (Ld.own (Tk.tail (Tk.tail Tk.head)) rfl) rfl); rfl) | (apply at2; (first | exact rd_ld rfl (Ld.own Tk.head rfl) rfl | exact rd_ld rfl (Ld.own (Tk.tail Tk.head) rfl) rfl | exact rd_ld rfl (Ld.own (Tk.tail (Tk.tail Tk.head)) rfl) rfl); repeat' (first | exact same0 | (apply same1; (first | exact rd_ld rfl (Ld.own Tk.head rfl) rfl | exact rd_ld rfl (Ld.own (Tk.tail Tk.head) rfl) rfl | exact rd_ld rfl (Ld.own (Tk.tail (Tk.tail Tk.head)) rfl) rfl); rfl) | (apply same2; (first | exact rd_ld rfl (Ld.own Tk.head rfl) rfl | exact rd_ld rfl (Ld.own (Tk.tail Tk.head) rfl) rfl | exact rd_ld rfl (Ld.own (Tk.tail (Tk.tail Tk.head)) rfl) rfl))))))
    | (apply WD.cmp; rfl; rfl; rfl; rfl; intro _ _)
    | (apply WD.cmpT; rfl; rfl; rfl; rfl; intro _ _)
    | (apply WD.eqB; rfl; rfl; rfl; intro _ _)
    | (apply WD.pur; rfl; (intro _; rfl))
    | (apply WD.skp; rfl)
    | (apply WD.skpL; rfl)
    | (apply WD.skpX; rfl)
    | (apply WOps.ask; rfl; all_goals (intro hb; try subst hb))
    | (apply WC.condA; rfl; all_goals (intro hb; try subst hb))
    | (apply WD.ask; rfl; all_goals (intro hb; try subst hb)))
  all_goals refine ⟨trivial, .cons _ (.cons _ (List.Sublist.refl _)), [_], ⟨_, [], rfl, rfl, rfl⟩, _, rfl, ?_⟩
  all_goals simp only [cmpP, cmpS, An.mk.injEq] at *
  all_goals simp_all

set_option maxHeartbeats 4000000 in
theorem rsame_ok {H : HL} {c d : List AV} {x y : An} (hc : AnR B c x) (hd : AnR B d y) : WF B tab (.func 5) [.agg c, .agg d] H fun r H' => H' = H ∧ ∃ b : Bool, r = .bool b ∧ (b = true ↔ x = y) := by
  obtain ⟨xk, xix, xth, xn, xad, xsv, xck, xnd, xins, xen, xit⟩ := x
  obtain ⟨yk, yix, yth, yn, yad, ysv, yck, ynd, yins, yen, yit⟩ := y
  obtain ⟨v1, v2, v3, v4, v5, v6, rfl, ⟨xs1, s1, r1, m1⟩, f2, f3, ⟨xs4, s4, r4, m4⟩, f5, f6⟩ := hc
  obtain ⟨w1, w2, w3, w4, w5, w6, rfl, ⟨ys1, z1, q1, n1⟩, e2, e3, ⟨ys4, z4, q4, n4⟩, e5, e6⟩ := hd
  simp only at r1 q1 r4 q4 f2 f3 f5 f6 e2 e3 e5 e6
  have cv1 := s1.cell
  have cv2 := f2.sl.cell
  have cv3 := f3.sl.cell
  have cv4 := s4.cell
  have cv5 := f5.sl.cell
  have cv6 := f6.sl.cell
  have cw1 := z1.cell
  have cw2 := e2.sl.cell
  have cw3 := e3.sl.cell
  have cw4 := z4.cell
  have cw5 := e5.sl.cell
  have cw6 := e6.sl.cell
  refine WF.fnR g5 rfl ?_
  repeat' (first
    | apply WOps.nil
    | apply WC.seq
    | apply WC.reg
    | apply WC.skip
    | apply WC.ret
    | apply WC.exit
    | (apply WC.condT; rfl)
    | (apply WC.condF; rfl)
    | apply WC.block
    | apply WC.scope
    | apply WC.dreg
    | apply WD.nil
    | (apply WOps.ldG; rfl; rfl; (first | exact Ld.own Tk.head rfl | exact Ld.own (Tk.tail Tk.head) rfl | exact Ld.own (Tk.tail (Tk.tail Tk.head)) rfl); rfl)
    | (apply WOps.st; rfl; rfl; (first | exact Tk.head | exact (Tk.tail Tk.head) | exact (Tk.tail (Tk.tail Tk.head))); rfl; (first | rfl | ((repeat' (first | exact allCell_nil | apply allCell_cons)) <;> (first | rfl | assumption))); rfl)
    | (apply WOps.alc; rfl; intro _)
    | (apply WOps.bx; rfl; rfl; (first | rfl | ((repeat' (first | exact allCell_nil | apply allCell_cons)) <;> (first | rfl | assumption))); intro _)
    | (apply WOps.bsl; rfl; (first | rfl | ((repeat' (first | exact allCell_nil | apply allCell_cons)) <;> (first | rfl | assumption))); intro _)
    | (apply WD.st; rfl; rfl; rfl; (first | exact Tk.head | exact (Tk.tail Tk.head) | exact (Tk.tail (Tk.tail Tk.head))); rfl; (first | rfl | ((repeat' (first | exact allCell_nil | apply allCell_cons)) <;> (first | rfl | assumption))); rfl)
    | (apply WD.alc; rfl; rfl; intro _)
    | (apply WD.bsl; rfl; rfl; (first | rfl | ((repeat' (first | exact allCell_nil | apply allCell_cons)) <;> (first | rfl | assumption))); intro _)
    | (apply WOps.lenS; rfl; rfl; exact s4.any)
    | (apply WOps.lenS; rfl; rfl; exact z4.any)
    | (apply WOps.cmp; rfl; rfl; rfl; rfl; intro _ _)
    | (apply WOps.cmpT; rfl; rfl; rfl; rfl; intro _ _)
    | (apply WOps.eqB; rfl; rfl; rfl; intro _ _)
    | (apply WOps.purG; rfl; (intro _; rfl))
    | (apply WOps.skp; rfl)
    | (apply WD.load; rfl; (first | (apply at1; (first | exact rd_ld rfl (Ld.own Tk.head rfl) rfl | exact rd_ld rfl (Ld.own (Tk.tail Tk.head) rfl) rfl | exact rd_ld rfl (Ld.own (Tk.tail (Tk.tail Tk.head)) rfl) rfl); rfl) | (apply at2; (first | exact rd_ld rfl (Ld.own Tk.head rfl) rfl | exact rd_ld rfl (Ld.own (Tk.tail Tk.head) rfl) rfl | exact rd_ld rfl (Ld.own (Tk.tail (Tk.tail Tk.head)) rfl) rfl); repeat' (first | exact same0 | (apply same1; (first | exact rd_ld rfl (Ld.own Tk.head rfl) rfl | exact rd_ld rfl (Ld.own (Tk.tail Tk.head) rfl) rfl | exact rd_ld rfl (Ld.own (Tk.tail (Tk.tail Tk.head)) rfl) rfl); rfl) | (apply same2; (first | exact rd_ld rfl (Ld.own Tk.head rfl) rfl | exact rd_ld rfl (Ld.own (Tk.tail Tk.head) rfl) rfl | exact rd_ld rfl (Ld.own (Tk.tail (Tk.tail Tk.head)) rfl) rfl))))))
    | (apply WD.cmp; rfl; rfl; rfl; rfl; intro _ _)
    | (apply WD.cmpT; rfl; rfl; rfl; rfl; intro _ _)
    | (apply WD.eqB; rfl; rfl; rfl; intro _ _)
    | (apply WD.pur; rfl; (intro _; rfl))
    | (apply WD.skp; rfl)
    | (apply WD.skpL; rfl)
    | (apply WD.skpX; rfl)
    | (apply WOps.ask; rfl; all_goals (intro hb; try subst hb))
    | (apply WC.condA; rfl; all_goals (intro hb; try subst hb))
    | (apply WD.ask; rfl; all_goals (intro hb; try subst hb)))
  all_goals try
    (refine ⟨trivial, .cons _ (.cons _ (List.Sublist.refl _)), [_], ⟨_, [], rfl, rfl, rfl⟩, false, rfl, ?_⟩
     have L1 := r4.1
     have L2 := q4.1
     clear s1 r1 m1 f2 f3 s4 r4 m4 f5 f6 z1 q1 n1 e2 e3 z4 q4 n4 e5 e6 cv1 cv2 cv3 cv4 cv5 cv6 cw1 cw2 cw3 cw4 cw5 cw6
     simp only [cmpP, cmpS, An.mk.injEq, Bool.false_eq_true, false_iff] at *
     simp_all
     done)
  · refine ⟨trivial, .cons _ (.cons _ (List.Sublist.refl _)), [_], ⟨_, [], rfl, rfl, rfl⟩, false, rfl, ?_⟩
    simp only [Bool.false_eq_true, false_iff]
    intro e
    have e' : xins = yins := congrArg An.ins e
    have h0 := ‹true = true ↔ cmpP BinOp.neq (Int.ofNat xs4.length) (Int.ofNat ys4.length)›
    simp [cmpP] at h0
    have L1 := r4.1
    have L2 := q4.1
    rw [e'] at L1
    omega
  have hl : xs4.length = ys4.length := by
    have h0 := ‹false = true ↔ cmpP BinOp.neq (Int.ofNat xs4.length) (Int.ofNat ys4.length)›
    simp [cmpP] at h0
    omega
  have hl' : xins.length = yins.length := by rw [← r4.1, ← q4.1, hl]
  refine WC.loop ?_
  obtain ⟨i, hi⟩ : ∃ i : Nat, i = 0 := ⟨0, rfl⟩
  refine WL.le (t' := [(2, _), (3, _), (5, .int .i64 (.ofNat i))]) (Sub1.cons rfl (Sub1.cons rfl (Sub1.cons (by rw [hi]; rfl) Sub1.nil))) ?_
  have hle : i ≤ xs4.length := by omega
  have hpre : ∀ (j : Nat), j < i → xins[j]? = yins[j]? := by intro j hj; omega
  clear hi
  induction hk : xs4.length - i using Nat.strongRecOn generalizing i with | _ k ih => ?_
  apply WL.step
  repeat' (first
    | apply WOps.nil
    | apply WC.seq
    | apply WC.reg
    | apply WC.skip
    | apply WC.ret
    | apply WC.exit
    | (apply WC.condT; rfl)
    | (apply WC.condF; rfl)
    | apply WC.block
    | apply WC.scope
    | apply WC.dreg
    | apply WD.nil
    | (apply WOps.ldG; rfl; rfl; (first | exact Ld.own Tk.head rfl | exact Ld.own (Tk.tail Tk.head) rfl | exact Ld.own (Tk.tail (Tk.tail Tk.head)) rfl); rfl)
    | (apply WOps.st; rfl; rfl; (first | exact Tk.head | exact (Tk.tail Tk.head) | exact (Tk.tail (Tk.tail Tk.head))); rfl; (first | rfl | ((repeat' (first | exact allCell_nil | apply allCell_cons)) <;> (first | rfl | assumption))); rfl)
    | (apply WOps.alc; rfl; intro _)
    | (apply WOps.bx; rfl; rfl; (first | rfl | ((repeat' (first | exact allCell_nil | apply allCell_cons)) <;> (first | rfl | assumption))); intro _)
    | (apply WOps.bsl; rfl; (first | rfl | ((repeat' (first | exact allCell_nil | apply allCell_cons)) <;> (first | rfl | assumption))); intro _)
    | (apply WD.st; rfl; rfl; rfl; (first | exact Tk.head | exact (Tk.tail Tk.head) | exact (Tk.tail (Tk.tail Tk.head))); rfl; (first | rfl | ((repeat' (first | exact allCell_nil | apply allCell_cons)) <;> (first | rfl | assumption))); rfl)
    | (apply WD.alc; rfl; rfl; intro _)
    | (apply WD.bsl; rfl; rfl; (first | rfl | ((repeat' (first | exact allCell_nil | apply allCell_cons)) <;> (first | rfl | assumption))); intro _)
    | (apply WOps.lenS; rfl; rfl; exact s4.any)
    | (apply WOps.lenS; rfl; rfl; exact z4.any)
    | (apply WOps.clR; rfl; rfl; exact ss15_ok s1.any z1.any r1 q1 m1; rintro _ ⟨_, rfl, _⟩)
    | (apply WOps.clR; rfl; rfl; exact eq16_ok f2.sl.any e2.sl.any f2.ty e2.ty f2.len; rintro _ ⟨_, rfl, _⟩)
    | (apply WOps.clR; rfl; rfl; exact eq17_ok f3.sl.any e3.sl.any f3.ty e3.ty f3.len; rintro _ ⟨_, rfl, _⟩)
    | (apply WOps.clR; rfl; rfl; exact eq18_ok f5.sl.any e5.sl.any f5.ty e5.ty f5.len; rintro _ ⟨_, rfl, _⟩)
    | (apply WOps.clR; rfl; rfl; exact eq19_ok f6.sl.any e6.sl.any f6.ty e6.ty f6.len; rintro _ ⟨_, rfl, _⟩)
    | (apply WOps.cmp; rfl; rfl; rfl; rfl; intro _ _)
    | (apply WOps.cmpT; rfl; rfl; rfl; rfl; intro _ _)
    | (apply WOps.eqB; rfl; rfl; rfl; intro _ _)
    | (apply WOps.purG; rfl; (intro _; rfl))
    | (apply WOps.skp; rfl)
    | (apply WD.load; rfl; (first | (apply at1; (first | exact rd_ld rfl (Ld.own Tk.head rfl) rfl | exact rd_ld rfl (Ld.own (Tk.tail Tk.head) rfl) rfl | exact rd_ld rfl (Ld.own (Tk.tail (Tk.tail Tk.head)) rfl) rfl); rfl) | (apply at2; (first | exact rd_ld rfl (Ld.own Tk.head rfl) rfl | exact rd_ld rfl (Ld.own (Tk.tail Tk.head) rfl) rfl | exact rd_ld rfl (Ld.own (Tk.tail (Tk.tail Tk.head)) rfl) rfl); repeat' (first | exact same0 | (apply same1; (first | exact rd_ld rfl (Ld.own Tk.head rfl) rfl | exact rd_ld rfl (Ld.own (Tk.tail Tk.head) rfl) rfl | exact rd_ld rfl (Ld.own (Tk.tail (Tk.tail Tk.head)) rfl) rfl); rfl) | (apply same2; (first | exact rd_ld rfl (Ld.own Tk.head rfl) rfl | exact rd_ld rfl (Ld.own (Tk.tail Tk.head) rfl) rfl | exact rd_ld rfl (Ld.own (Tk.tail (Tk.tail Tk.head)) rfl) rfl))))))
    | (apply WD.cmp; rfl; rfl; rfl; rfl; intro _ _)
    | (apply WD.cmpT; rfl; rfl; rfl; rfl; intro _ _)
    | (apply WD.eqB; rfl; rfl; rfl; intro _ _)
    | (apply WD.pur; rfl; (intro _; rfl))
    | (apply WD.skp; rfl)
    | (apply WD.skpL; rfl)
    | (apply WD.skpX; rfl)
    | (apply WOps.ask; rfl; all_goals (intro hb; try subst hb))
    | (apply WC.condA; rfl; all_goals (intro hb; try subst hb))
    | (apply WD.ask; rfl; all_goals (intro hb; try subst hb)))
  · rename_i hlt
    have hlt : i < xs4.length := by have h0 := hlt; simp [cmpP] at h0; omega
    obtain ⟨c, s, hc, hs, rc⟩ := r4.get hlt
    obtain ⟨d, u, hd, hu, rd⟩ := q4.get (i := i) (by omega)
    obtain ⟨⟨n1', i1, m1', ts1, p1, a1, b1⟩, st1⟩ := s
    obtain ⟨⟨n2', i2, m2', ts2, p2, a2, b2⟩, st2⟩ := u
    obtain ⟨tg1, rfl, h1, t1, l1⟩ := rc
    obtain ⟨tg2, rfl, h2, t2, l2⟩ := rd
    simp only at h1 t1 l1 h2 t2 l2
    have k1 := h1.cell
    have k2 := h2.cell
    have key : ((Sv.mk n1' i1 m1' ts1 p1 a1 b1, st1) = (Sv.mk n2' i2 m2' ts2 p2 a2 b2, st2)) ↔ ([Sv.mk n1' i1 m1' ts1 p1 a1 b1] = [Sv.mk n2' i2 m2' ts2 p2 a2 b2] ∧ st1 = st2) := by simp
    repeat' (first
      | apply WOps.nil
      | apply WC.seq
      | apply WC.reg
      | apply WC.skip
      | apply WC.ret
      | apply WC.exit
      | (apply WC.condT; rfl)
      | (apply WC.condF; rfl)
      | apply WC.block
      | apply WC.scope
      | apply WC.dreg
      | apply WD.nil
      | (apply WOps.ldG; rfl; rfl; (first | exact Ld.own Tk.head rfl | exact Ld.own (Tk.tail Tk.head) rfl | exact Ld.own (Tk.tail (Tk.tail Tk.head)) rfl); rfl)
      | (apply WOps.st; rfl; rfl; (first | exact Tk.head | exact (Tk.tail Tk.head) | exact (Tk.tail (Tk.tail Tk.head))); rfl; (first | rfl | ((repeat' (first | exact allCell_nil | apply allCell_cons)) <;> (first | rfl | assumption))); rfl)
      | (apply WOps.alc; rfl; intro _)
      | (apply WOps.bx; rfl; rfl; (first | rfl | ((repeat' (first | exact allCell_nil | apply allCell_cons)) <;> (first | rfl | assumption))); intro _)
      | (apply WOps.bsl; rfl; (first | rfl | ((repeat' (first | exact allCell_nil | apply allCell_cons)) <;> (first | rfl | assumption))); intro _)
      | (apply WD.st; rfl; rfl; rfl; (first | exact Tk.head | exact (Tk.tail Tk.head) | exact (Tk.tail (Tk.tail Tk.head))); rfl; (first | rfl | ((repeat' (first | exact allCell_nil | apply allCell_cons)) <;> (first | rfl | assumption))); rfl)
      | (apply WD.alc; rfl; rfl; intro _)
      | (apply WD.bsl; rfl; rfl; (first | rfl | ((repeat' (first | exact allCell_nil | apply allCell_cons)) <;> (first | rfl | assumption))); intro _)
      | (apply WD.ixSl; rfl; rfl; rfl; exact s4.any; exact hc; intro a1' g1')
      | (apply WD.ixSl; rfl; rfl; rfl; exact z4.any; exact hd; intro a2' g2')
      | (apply WD.load; rfl; (first | (apply at1; exact rd_ld rfl ((g1' _ s4.any).part 7 1 (by decide)) rfl; rfl) | (apply at2; exact rd_ld rfl ((g1' _ s4.any).part 7 1 (by decide)) rfl; repeat' (first | exact same0 | (apply same1; exact rd_ld rfl ((g1' _ s4.any).part 7 1 (by decide)) rfl; rfl) | (apply same2; exact rd_ld rfl ((g1' _ s4.any).part 7 1 (by decide)) rfl)))))
      | (apply WD.load; rfl; (first | (apply at1; exact rd_ld rfl ((g2' _ z4.any).part 7 1 (by decide)) rfl; rfl) | (apply at2; exact rd_ld rfl ((g2' _ z4.any).part 7 1 (by decide)) rfl; repeat' (first | exact same0 | (apply same1; exact rd_ld rfl ((g2' _ z4.any).part 7 1 (by decide)) rfl; rfl) | (apply same2; exact rd_ld rfl ((g2' _ z4.any).part 7 1 (by decide)) rfl)))))
      | (apply WD.load; rfl; (first | (apply at1; exact rd_ld rfl ((g1' _ s4.any).part 0 7 (by decide)) rfl; rfl) | (apply at2; exact rd_ld rfl ((g1' _ s4.any).part 0 7 (by decide)) rfl; repeat' (first | exact same0 | (apply same1; exact rd_ld rfl ((g1' _ s4.any).part 0 7 (by decide)) rfl; rfl) | (apply same2; exact rd_ld rfl ((g1' _ s4.any).part 0 7 (by decide)) rfl)))))
      | (apply WD.load; rfl; (first | (apply at1; exact rd_ld rfl ((g2' _ z4.any).part 0 7 (by decide)) rfl; rfl) | (apply at2; exact rd_ld rfl ((g2' _ z4.any).part 0 7 (by decide)) rfl; repeat' (first | exact same0 | (apply same1; exact rd_ld rfl ((g2' _ z4.any).part 0 7 (by decide)) rfl; rfl) | (apply same2; exact rd_ld rfl ((g2' _ z4.any).part 0 7 (by decide)) rfl)))))
      | (apply WD.clR; rfl; rfl; exact ss15_ok (us := [⟨n1', i1, m1', ts1, p1, a1, b1⟩]) (vs := [⟨n2', i2, m2', ts2, p2, a2, b2⟩]) (SlIs.cons (SlIs.single rfl)) (SlIs.single rfl) (Rel2.one ⟨tg1, rfl, h1, t1, l1⟩) (Rel2.one ⟨tg2, rfl, h2, t2, l2⟩) (Nat.le_of_ble_eq_true rfl); rintro _ ⟨bb, rfl, hbb⟩)
      | (apply WOps.addN; rfl; rfl; rfl; omega)
      | (apply WOps.cmp; rfl; rfl; rfl; rfl; intro _ _)
      | (apply WOps.cmpT; rfl; rfl; rfl; rfl; intro _ _)
      | (apply WOps.eqB; rfl; rfl; rfl; intro _ _)
      | (apply WOps.purG; rfl; (intro _; rfl))
      | (apply WOps.skp; rfl)
      | (apply WD.load; rfl; (first | (apply at1; (first | exact rd_ld rfl (Ld.own Tk.head rfl) rfl | exact rd_ld rfl (Ld.own (Tk.tail Tk.head) rfl) rfl | exact rd_ld rfl (Ld.own (Tk.tail (Tk.tail Tk.head)) rfl) rfl); rfl) | (apply at2; (first | exact rd_ld rfl (Ld.own Tk.head rfl) rfl | exact rd_ld rfl (Ld.own (Tk.tail Tk.head) rfl) rfl | exact rd_ld rfl (Ld.own (Tk.tail (Tk.tail Tk.head)) rfl) rfl); repeat' (first | exact same0 | (apply same1; (first | exact rd_ld rfl (Ld.own Tk.head rfl) rfl | exact rd_ld rfl (Ld.own (Tk.tail Tk.head) rfl) rfl | exact rd_ld rfl (Ld.own (Tk.tail (Tk.tail Tk.head)) rfl) rfl); rfl) | (apply same2; (first | exact rd_ld rfl (Ld.own Tk.head rfl) rfl | exact rd_ld rfl (Ld.own (Tk.tail Tk.head) rfl) rfl | exact rd_ld rfl (Ld.own (Tk.tail (Tk.tail Tk.head)) rfl) rfl))))))
      | (apply WD.cmp; rfl; rfl; rfl; rfl; intro _ _)
      | (apply WD.cmpT; rfl; rfl; rfl; rfl; intro _ _)
      | (apply WD.eqB; rfl; rfl; rfl; intro _ _)
      | (apply WD.pur; rfl; (intro _; rfl))
      | (apply WD.skp; rfl)
      | (apply WD.skpL; rfl)
      | (apply WD.skpX; rfl)
      | (apply WOps.ask; rfl; all_goals (intro hb; try subst hb))
      | (apply WC.condA; rfl; all_goals (intro hb; try subst hb))
      | (apply WD.ask; rfl; all_goals (intro hb; try subst hb)))
    all_goals first
      | (refine ⟨trivial, .cons _ (.cons _ (.cons _ (.cons _ (List.Sublist.refl _)))), [_], ⟨_, [], rfl, rfl, rfl⟩, false, rfl, ?_⟩
         simp only [Bool.false_eq_true, false_iff]
         intro e
         have e' : xins = yins := congrArg An.ins e
         refine ne_of hs hu ?_ e'
         rw [key]
         rintro ⟨k3, k4⟩
         have k5 := hbb.2 k3
         rw [k5] at hb
         cases hb)
      | (refine ⟨trivial, .cons _ (.cons _ (List.Sublist.refl _)), [_], ⟨_, [], rfl, rfl, rfl⟩, false, rfl, ?_⟩
         simp only [Bool.false_eq_true, false_iff]
         intro e
         have e' : xins = yins := congrArg An.ins e
         refine ne_of hs hu ?_ e'
         rw [key]
         rintro ⟨k3, k4⟩
         have h0 := ‹true = true ↔ cmpP BinOp.neq st1 st2›
         simp only [cmpP, true_iff] at h0
         exact h0 k4)
      | (have hcd : xins[i]? = yins[i]? := by
           rw [hs, hu, Option.some.injEq, key]
           have h0 := ‹false = true ↔ cmpP BinOp.neq st1 st2›
           simp only [cmpP, Bool.false_eq_true, false_iff, Decidable.not_not] at h0
           exact ⟨hbb.1 (by simpa using hb), h0⟩
         refine WL.le (t' := [(2, _), (3, _), (5, .int .i64 (.ofNat (i + 1)))]) (Sub1.cons rfl (Sub1.cons rfl (Sub1.cons rfl Sub1.nil))) (WL.sub (.cons _ (.cons _ (List.Sublist.refl _))) (ih _ (by omega) (i + 1) (by omega) ?_ rfl))
         intro j hj
         rcases Nat.lt_or_ge j i with h1 | h1
         · exact hpre j h1
         · obtain rfl : j = i := by omega
           exact hcd)
  all_goals
    have hge : xs4.length ≤ i := by
      have h0 := ‹false = true ↔ cmpP BinOp.lss (Int.ofNat i) (Int.ofNat xs4.length)›
      simp [cmpP] at h0
      omega
    have hins : xins = yins := ext_of hl' (by rw [← r4.1]; exact hge) hpre
    refine ⟨trivial, .cons _ (.cons _ (List.Sublist.refl _)), [_], ⟨_, [], rfl, rfl, rfl⟩, _, rfl, ?_⟩
    clear ih hpre hge hl hl' s1 r1 m1 f2 f3 s4 r4 m4 f5 f6 z1 q1 n1 e2 e3 z4 q4 n4 e5 e6 cv1 cv2 cv3 cv4 cv5 cv6 cw1 cw2 cw3 cw4 cw5 cw6
    simp only [cmpP, cmpS, An.mk.injEq] at *
    simp_all
end Go.Proofs.YtmkcbjklcfegcaaGreat.QS
