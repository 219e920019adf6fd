/- What the functions do, shown by the logic. -/
import Derived.Test.YtmkcbjklcfegcaaGreatQS1
set_option linter.unusedSimpArgs false
set_option linter.unusedVariables false
set_option maxRecDepth 20000
namespace Go.Proofs.YtmkcbjklcfegcaaGreat.QS
open Go.Proofs.YtmkcbjklcfegcaaGreat.Abs
variable {B : Nat → List AV}

structure Sv where
  n : Int
  i : List Nat
  m : List Nat
  ts : List (List AV)
  p : Int
  a : Int
  b : Int
/-- A service's cells. -/
def SvR (B : Nat → List AV) (c : List AV) (s : Sv) : Prop := ∃ tg, c = [.int .i64 s.n, .str s.i, .str s.m, tg, .int .i64 s.p, .int .u64 s.a, .int .u64 s.b] ∧ SlIs B [] tg 1 s.ts ∧ (∀ (j : Nat) c, s.ts[j]? = some c → AllT [.str] c) ∧ s.ts.length ≤ 9223372036854775807
/-- An instance's cells. -/
def InR (B : Nat → List AV) (c : List AV) (x : Sv × Int) : Prop := ∃ tg, c = [.int .i64 x.1.n, .str x.1.i, .str x.1.m, tg, .int .i64 x.1.p, .int .u64 x.1.a, .int .u64 x.1.b, .int .i64 x.2] ∧ SlIs B [] tg 1 x.1.ts ∧ (∀ (j : Nat) c, x.1.ts[j]? = some c → AllT [.str] c) ∧ x.1.ts.length ≤ 9223372036854775807

set_option maxHeartbeats 2000000 in
theorem svc8_ok {H : HL} {c d : List AV} {s u : Sv} (hc : SvR B c s) (hd : SvR B d u) : WF B tab (.func 8) [.agg c, .agg d] H fun r H' => H' = H ∧ ∃ b : Bool, r = .bool b ∧ (b = true ↔ s = u) := by
  obtain ⟨n1, i1, m1, ts1, p1, a1, b1⟩ := s
  obtain ⟨n2, i2, m2, ts2, p2, a2, b2⟩ := u
  obtain ⟨tg1, rfl, h1, t1, l1⟩ := hc
  obtain ⟨tg2, rfl, h2, t2, l2⟩ := hd
  simp only at h1 t1 l1 h2 t2 l2
  have k1 := h1.cell
  have k2 := h2.cell
  refine WF.fnR g8 rfl ?_
  repeat' (first
    | apply WOps.nil
    | apply WC.seq
    | apply WC.reg
    | apply WC.skip
    | apply WC.ret
    | apply WC.exit
    | (apply WC.condT; rfl)
    | (apply WC.condF; rfl)
    | apply WC.block
    | apply WC.scope
    | apply WC.dreg
    | apply WD.nil
    | (apply WOps.ldG; rfl; rfl; (first | exact Ld.own Tk.head rfl | exact Ld.own (Tk.tail Tk.head) rfl | exact Ld.own (Tk.tail (Tk.tail Tk.head)) rfl); rfl)
    | (apply WOps.st; rfl; rfl; (first | exact Tk.head | exact (Tk.tail Tk.head) | exact (Tk.tail (Tk.tail Tk.head))); rfl; (first | rfl | ((repeat' (first | exact allCell_nil | apply allCell_cons)) <;> (first | rfl | assumption))); rfl)
    | (apply WOps.alc; rfl; intro _)
    | (apply WOps.bx; rfl; rfl; (first | rfl | ((repeat' (first | exact allCell_nil | apply allCell_cons)) <;> (first | rfl | assumption))); intro _)
    | (apply WOps.bsl; rfl; (first | rfl | ((repeat' (first | exact allCell_nil | apply allCell_cons)) <;> (first | rfl | assumption))); intro _)
    | (apply WD.st; rfl; rfl; rfl; (first | exact Tk.head | exact (Tk.tail Tk.head) | exact (Tk.tail (Tk.tail Tk.head))); rfl; (first | rfl | ((repeat' (first | exact allCell_nil | apply allCell_cons)) <;> (first | rfl | assumption))); rfl)
    | (apply WD.alc; rfl; rfl; intro _)
    | (apply WD.bsl; rfl; rfl; (first | rfl | ((repeat' (first | exact allCell_nil | apply allCell_cons)) <;> (first | rfl | assumption))); intro _)
    | (apply WOps.clR; rfl; rfl; exact eq23_ok h1.any h2.any t1 t2 l1; rintro _ ⟨b, rfl, hb⟩)
    | (apply WOps.cmp; rfl; rfl; rfl; rfl; intro _ _)
    | (apply WOps.cmpT; rfl; rfl; rfl; rfl; intro _ _)
    | (apply WOps.eqB; rfl; rfl; rfl; intro _ _)
    | (apply WOps.purG; rfl; (intro _; rfl))
    | (apply WOps.skp; rfl)
    | (apply WD.load; rfl; (first | (apply at1; (first | exact rd_ld rfl (Ld.own Tk.head rfl) rfl | exact rd_ld rfl (Ld.own (Tk.tail Tk.head) rfl) rfl | exact rd_ld rfl (Ld.own (Tk.tail (Tk.tail Tk.head)) rfl) rfl); rfl) | (apply at2; (first | exact rd_ld rfl (Ld.own Tk.head rfl) rfl | exact rd_ld rfl (Ld.own (Tk.tail Tk.head) rfl) rfl | exact rd_ld rfl (Ld.own (Tk.tail (Tk.tail Tk.head)) rfl) rfl); repeat' (first | exact same0 | (apply same1; (first | exact rd_ld rfl (Ld.own Tk.head rfl) rfl | exact rd_ld rfl (Ld.own (Tk.tail Tk.head) rfl) rfl | exact rd_ld rfl (Ld.own (Tk.tail (Tk.tail Tk.head)) rfl) rfl); rfl) | (apply same2; (first | exact rd_ld rfl (Ld.own Tk.head rfl) rfl | exact rd_ld rfl (Ld.own (Tk.tail Tk.head) rfl) rfl | exact rd_ld rfl (Ld.own (Tk.tail (Tk.tail Tk.head)) rfl) rfl))))))
    | (apply WD.cmp; rfl; rfl; rfl; rfl; intro _ _)
    | (apply WD.cmpT; rfl; rfl; rfl; rfl; intro _ _)
    | (apply WD.eqB; rfl; rfl; rfl; intro _ _)
    | (apply WD.pur; rfl; (intro _; rfl))
    | (apply WD.skp; rfl)
    | (apply WD.skpL; rfl)
    | (apply WD.skpX; rfl)
    | (apply WOps.ask; rfl; all_goals (intro hb; try subst hb))
    | (apply WC.condA; rfl; all_goals (intro hb; try subst hb))
    | (apply WD.ask; rfl; all_goals (intro hb; try subst hb)))
  all_goals refine ⟨trivial, .cons _ (.cons _ (List.Sublist.refl _)), [_], ⟨_, [], rfl, rfl, rfl⟩, _, rfl, ?_⟩
  all_goals simp only [cmpP, cmpS, Sv.mk.injEq, Prod.mk.injEq] at *
  all_goals simp_all

set_option maxHeartbeats 2000000 in
theorem ins7_ok {H : HL} {c d : List AV} {s u : Sv × Int} (hc : InR B c s) (hd : InR B d u) : WF B tab (.func 7) [.agg c, .agg d] H fun r H' => H' = H ∧ ∃ b : Bool, r = .bool b ∧ (b = true ↔ s = u) := by
  obtain ⟨⟨n1, i1, m1, ts1, p1, a1, b1⟩, st1⟩ := s
  obtain ⟨⟨n2, i2, m2, ts2, p2, a2, b2⟩, st2⟩ := u
  obtain ⟨tg1, rfl, h1, t1, l1⟩ := hc
  obtain ⟨tg2, rfl, h2, t2, l2⟩ := hd
  simp only at h1 t1 l1 h2 t2 l2
  have k1 := h1.cell
  have k2 := h2.cell
  refine WF.fnR g7 rfl ?_
  repeat' (first
    | apply WOps.nil
    | apply WC.seq
    | apply WC.reg
    | apply WC.skip
    | apply WC.ret
    | apply WC.exit
    | (apply WC.condT; rfl)
    | (apply WC.condF; rfl)
    | apply WC.block
    | apply WC.scope
    | apply WC.dreg
    | apply WD.nil
    | (apply WOps.ldG; rfl; rfl; (first | exact Ld.own Tk.head rfl | exact Ld.own (Tk.tail Tk.head) rfl | exact Ld.own (Tk.tail (Tk.tail Tk.head)) rfl); rfl)
    | (apply WOps.st; rfl; rfl; (first | exact Tk.head | exact (Tk.tail Tk.head) | exact (Tk.tail (Tk.tail Tk.head))); rfl; (first | rfl | ((repeat' (first | exact allCell_nil | apply allCell_cons)) <;> (first | rfl | assumption))); rfl)
    | (apply WOps.alc; rfl; intro _)
    | (apply WOps.bx; rfl; rfl; (first | rfl | ((repeat' (first | exact allCell_nil | apply allCell_cons)) <;> (first | rfl | assumption))); intro _)
    | (apply WOps.bsl; rfl; (first | rfl | ((repeat' (first | exact allCell_nil | apply allCell_cons)) <;> (first | rfl | assumption))); intro _)
    | (apply WD.st; rfl; rfl; rfl; (first | exact Tk.head | exact (Tk.tail Tk.head) | exact (Tk.tail (Tk.tail Tk.head))); rfl; (first | rfl | ((repeat' (first | exact allCell_nil | apply allCell_cons)) <;> (first | rfl | assumption))); rfl)
    | (apply WD.alc; rfl; rfl; intro _)
    | (apply WD.bsl; rfl; rfl; (first | rfl | ((repeat' (first | exact allCell_nil | apply allCell_cons)) <;> (first | rfl | assumption))); intro _)
    | (apply WOps.clR; rfl; rfl; exact svc8_ok (s := ⟨n1, i1, m1, ts1, p1, a1, b1⟩) (u := ⟨n2, i2, m2, ts2, p2, a2, b2⟩) ⟨tg1, rfl, h1, t1, l1⟩ ⟨tg2, rfl, h2, t2, l2⟩; rintro _ ⟨b, rfl, hb⟩)
    | (apply WOps.cmp; rfl; rfl; rfl; rfl; intro _ _)
    | (apply WOps.cmpT; rfl; rfl; rfl; rfl; intro _ _)
    | (apply WOps.eqB; rfl; rfl; rfl; intro _ _)
    | (apply WOps.purG; rfl; (intro _; rfl))
    | (apply WOps.skp; rfl)
    | (apply WD.load; rfl; (first | (apply at1; (first | exact rd_ld rfl (Ld.own Tk.head rfl) rfl | exact rd_ld rfl (Ld.own (Tk.tail Tk.head) rfl) rfl | exact rd_ld rfl (Ld.own (Tk.tail (Tk.tail Tk.head)) rfl) rfl); rfl) | (apply at2; (first | exact rd_ld rfl (Ld.own Tk.head rfl) rfl | exact rd_ld rfl (Ld.own (Tk.tail Tk.head) rfl) rfl | exact rd_ld rfl (Ld.own (Tk.tail (Tk.tail Tk.head)) rfl) rfl); repeat' (first | exact same0 | (apply same1; (first | exact rd_ld rfl (Ld.own Tk.head rfl) rfl | exact rd_ld rfl (Ld.own (Tk.tail Tk.head) rfl) rfl | exact rd_ld rfl (Ld.own (Tk.tail (Tk.tail Tk.head)) rfl) rfl); rfl) | (apply same2; (first | exact rd_ld rfl (Ld.own Tk.head rfl) rfl | exact rd_ld rfl (Ld.own (Tk.tail Tk.head) rfl) rfl | exact rd_ld rfl (Ld.own (Tk.tail (Tk.tail Tk.head)) rfl) rfl))))))
    | (apply WD.cmp; rfl; rfl; rfl; rfl; intro _ _)
    | (apply WD.cmpT; rfl; rfl; rfl; rfl; intro _ _)
    | (apply WD.eqB; rfl; rfl; rfl; intro _ _)
    | (apply WD.pur; rfl; (intro _; rfl))
    | (apply WD.skp; rfl)
    | (apply WD.skpL; rfl)
    | (apply WD.skpX; rfl)
    | (apply WOps.ask; rfl; all_goals (intro hb; try subst hb))
    | (apply WC.condA; rfl; all_goals (intro hb; try subst hb))
    | (apply WD.ask; rfl; all_goals (intro hb; try subst hb)))
  all_goals refine ⟨trivial, .cons _ (.cons _ (List.Sublist.refl _)), [_], ⟨_, [], rfl, rfl, rfl⟩, _, rfl, ?_⟩
  all_goals simp only [cmpP, cmpS, Sv.mk.injEq, Prod.mk.injEq] at *
  all_goals simp_all

theorem ef9_ok {H : HL} {v w : AV} {xs ys : List (List AV)} {us vs : List Sv} (hv : SlIs B H v 7 xs) (hw : SlIs B H w 7 ys) (rx : Rel2 (SvR B) xs us) (ry : Rel2 (SvR B) ys vs) (lx : xs.length ≤ 9223372036854775807) :
    WF B tab (.func 9) [v, w, .fn (.func 8) [] []] H fun r H' => H' = H ∧ ∃ b : Bool, r = .bool b ∧ (b = true ↔ us = vs) := by
  refine WF.fnR g9 rfl ?_
  repeat' (first
    | apply WOps.nil
    | apply WC.seq
    | apply WC.reg
    | apply WC.skip
    | apply WC.ret
    | apply WC.exit
    | (apply WC.condT; rfl)
    | (apply WC.condF; rfl)
    | apply WC.block
    | apply WC.scope
    | apply WC.dreg
    | apply WD.nil
    | (apply WOps.ldG; rfl; rfl; (first | exact Ld.own Tk.head rfl | exact Ld.own (Tk.tail Tk.head) rfl | exact Ld.own (Tk.tail (Tk.tail Tk.head)) rfl); rfl)
    | (apply WOps.st; rfl; rfl; (first | exact Tk.head | exact (Tk.tail Tk.head) | exact (Tk.tail (Tk.tail Tk.head))); rfl; (first | rfl | ((repeat' (first | exact allCell_nil | apply allCell_cons)) <;> (first | rfl | assumption))); rfl)
    | (apply WOps.alc; rfl; intro _)
    | (apply WOps.bx; rfl; rfl; (first | rfl | ((repeat' (first | exact allCell_nil | apply allCell_cons)) <;> (first | rfl | assumption))); intro _)
    | (apply WOps.bsl; rfl; (first | rfl | ((repeat' (first | exact allCell_nil | apply allCell_cons)) <;> (first | rfl | assumption))); intro _)
    | (apply WD.st; rfl; rfl; rfl; (first | exact Tk.head | exact (Tk.tail Tk.head) | exact (Tk.tail (Tk.tail Tk.head))); rfl; (first | rfl | ((repeat' (first | exact allCell_nil | apply allCell_cons)) <;> (first | rfl | assumption))); rfl)
    | (apply WD.alc; rfl; rfl; intro _)
    | (apply WD.bsl; rfl; rfl; (first | rfl | ((repeat' (first | exact allCell_nil | apply allCell_cons)) <;> (first | rfl | assumption))); intro _)
    | (apply WOps.lenS; rfl; rfl; exact hv)
    | (apply WOps.lenS; rfl; rfl; exact hw)
    | (apply WOps.cmp; rfl; rfl; rfl; rfl; intro _ _)
    | (apply WOps.cmpT; rfl; rfl; rfl; rfl; intro _ _)
    | (apply WOps.eqB; rfl; rfl; rfl; intro _ _)
    | (apply WOps.purG; rfl; (intro _; rfl))
    | (apply WOps.skp; rfl)
    | (apply WD.load; rfl; (first | (apply at1; (first | exact rd_ld rfl (Ld.own Tk.head rfl) rfl | exact rd_ld rfl (Ld.own (Tk.tail Tk.head) rfl) rfl | exact rd_ld rfl (Ld.own (Tk.tail (Tk.tail Tk.head)) rfl) rfl); rfl) | (apply at2; (first | exact rd_ld rfl (Ld.own Tk.head rfl) rfl | exact rd_ld rfl (Ld.own (Tk.tail Tk.head) rfl) rfl | exact rd_ld rfl (Ld.own (Tk.tail (Tk.tail Tk.head)) rfl) rfl); repeat' (first | exact same0 | (apply same1; (first | exact rd_ld rfl (Ld.own Tk.head rfl) rfl | exact rd_ld rfl (Ld.own (Tk.tail Tk.head) rfl) rfl | exact rd_ld rfl (Ld.own (Tk.tail (Tk.tail Tk.head)) rfl) rfl); rfl) | (apply same2; (first | exact rd_ld rfl (Ld.own Tk.head rfl) rfl | exact rd_ld rfl (Ld.own (Tk.tail Tk.head) rfl) rfl | exact rd_ld rfl (Ld.own (Tk.tail (Tk.tail Tk.head)) rfl) rfl))))))
    | (apply WD.cmp; rfl; rfl; rfl; rfl; intro _ _)
    | (apply WD.cmpT; rfl; rfl; rfl; rfl; intro _ _)
    | (apply WD.eqB; rfl; rfl; rfl; intro _ _)
    | (apply WD.pur; rfl; (intro _; rfl))
    | (apply WD.skp; rfl)
    | (apply WD.skpL; rfl)
    | (apply WD.skpX; rfl)
    | (apply WOps.ask; rfl; all_goals (intro hb; try subst hb))
    | (apply WC.condA; rfl; all_goals (intro hb; try subst hb))
    | (apply WD.ask; rfl; all_goals (intro hb; try subst hb)))
  · rename_i h
    simp [cmpP] at h
    refine ⟨trivial, List.Sublist.refl _, [_], ⟨_, [], rfl, rfl, rfl⟩, false, rfl, ?_⟩
    simp only [Bool.false_eq_true, false_iff]
    exact fun e => h (by rw [rx.1, ry.1, e])
  · rename_i h
    have hl : xs.length = ys.length := by have h0 := h; simp [cmpP] at h0; omega
    refine WC.loop ?_
    obtain ⟨i, hi⟩ : ∃ i : Nat, i = 0 := ⟨0, rfl⟩
    refine WL.le (t' := [(0, v), (1, w), (2, .fn (.func 8) [] []), (15, v), (16, .int .i64 (.ofNat xs.length)), (17, .int .i64 (.ofNat i))]) (by subst hi; exact Sub1.cons rfl (Sub1.cons rfl (Sub1.cons rfl (Sub1.cons rfl (Sub1.cons rfl (Sub1.cons rfl (Sub1.nil))))))) ?_
    have hle : i ≤ xs.length := by omega
    have hpre : ∀ (j : Nat), j < i → us[j]? = vs[j]? := by intro j hj; omega
    clear hi
    induction hk : xs.length - i using Nat.strongRecOn generalizing i with | _ k ih => ?_
    apply WL.step
    repeat' (first
      | apply WOps.nil
      | apply WC.seq
      | apply WC.reg
      | apply WC.skip
      | apply WC.ret
      | apply WC.exit
      | (apply WC.condT; rfl)
      | (apply WC.condF; rfl)
      | apply WC.block
      | apply WC.scope
      | apply WC.dreg
      | apply WD.nil
      | (apply WOps.ldG; rfl; rfl; (first | exact Ld.own Tk.head rfl | exact Ld.own (Tk.tail Tk.head) rfl | exact Ld.own (Tk.tail (Tk.tail Tk.head)) rfl); rfl)
      | (apply WOps.st; rfl; rfl; (first | exact Tk.head | exact (Tk.tail Tk.head) | exact (Tk.tail (Tk.tail Tk.head))); rfl; (first | rfl | ((repeat' (first | exact allCell_nil | apply allCell_cons)) <;> (first | rfl | assumption))); rfl)
      | (apply WOps.alc; rfl; intro _)
      | (apply WOps.bx; rfl; rfl; (first | rfl | ((repeat' (first | exact allCell_nil | apply allCell_cons)) <;> (first | rfl | assumption))); intro _)
      | (apply WOps.bsl; rfl; (first | rfl | ((repeat' (first | exact allCell_nil | apply allCell_cons)) <;> (first | rfl | assumption))); intro _)
      | (apply WD.st; rfl; rfl; rfl; (first | exact Tk.head | exact (Tk.tail Tk.head) | exact (Tk.tail (Tk.tail Tk.head))); rfl; (first | rfl | ((repeat' (first | exact allCell_nil | apply allCell_cons)) <;> (first | rfl | assumption))); rfl)
      | (apply WD.alc; rfl; rfl; intro _)
      | (apply WD.bsl; rfl; rfl; (first | rfl | ((repeat' (first | exact allCell_nil | apply allCell_cons)) <;> (first | rfl | assumption))); intro _)
      | (apply WOps.lenS; rfl; rfl; exact hv)
      | (apply WOps.lenS; rfl; rfl; exact hw)
      | (apply WOps.cmp; rfl; rfl; rfl; rfl; intro _ _)
      | (apply WOps.cmpT; rfl; rfl; rfl; rfl; intro _ _)
      | (apply WOps.eqB; rfl; rfl; rfl; intro _ _)
      | (apply WOps.purG; rfl; (intro _; rfl))
      | (apply WOps.skp; rfl)
      | (apply WD.load; rfl; (first | (apply at1; (first | exact rd_ld rfl (Ld.own Tk.head rfl) rfl | exact rd_ld rfl (Ld.own (Tk.tail Tk.head) rfl) rfl | exact rd_ld rfl (Ld.own (Tk.tail (Tk.tail Tk.head)) rfl) rfl); rfl) | (apply at2; (first | exact rd_ld rfl (Ld.own Tk.head rfl) rfl | exact rd_ld rfl (Ld.own (Tk.tail Tk.head) rfl) rfl | exact rd_ld rfl (Ld.own (Tk.tail (Tk.tail Tk.head)) rfl) rfl); repeat' (first | exact same0 | (apply same1; (first | exact rd_ld rfl (Ld.own Tk.head rfl) rfl | exact rd_ld rfl (Ld.own (Tk.tail Tk.head) rfl) rfl | exact rd_ld rfl (Ld.own (Tk.tail (Tk.tail Tk.head)) rfl) rfl); rfl) | (apply same2; (first | exact rd_ld rfl (Ld.own Tk.head rfl) rfl | exact rd_ld rfl (Ld.own (Tk.tail Tk.head) rfl) rfl | exact rd_ld rfl (Ld.own (Tk.tail (Tk.tail Tk.head)) rfl) rfl))))))
      | (apply WD.cmp; rfl; rfl; rfl; rfl; intro _ _)
      | (apply WD.cmpT; rfl; rfl; rfl; rfl; intro _ _)
      | (apply WD.eqB; rfl; rfl; rfl; intro _ _)
      | (apply WD.pur; rfl; (intro _; rfl))
      | (apply WD.skp; rfl)
      | (apply WD.skpL; rfl)
      | (apply WD.skpX; rfl)
      | (apply WOps.ask; rfl; all_goals (intro hb; try subst hb))
      | (apply WC.condA; rfl; all_goals (intro hb; try subst hb))
      | (apply WD.ask; rfl; all_goals (intro hb; try subst hb)))
    · rename_i hlt
      have hlt : i < xs.length := by have h0 := hlt; simp [cmpP] at h0; omega
      obtain ⟨c, s, hc, hs, rc⟩ := rx.get hlt
      obtain ⟨d, u, hd, hu, rd⟩ := ry.get (i := i) (by omega)
      obtain ⟨n1, i1, m1, ts1, p1, a1, b1⟩ := s
      obtain ⟨n2, i2, m2, ts2, p2, a2, b2⟩ := u
      obtain ⟨tg1, rfl, h1, t1, l1⟩ := rc
      obtain ⟨tg2, rfl, h2, t2, l2⟩ := rd
      simp only at h1 t1 l1 h2 t2 l2
      have k1 := h1.cell
      have k2 := h2.cell
      repeat' (first
        | apply WOps.nil
        | apply WC.seq
        | apply WC.reg
        | apply WC.skip
        | apply WC.ret
        | apply WC.exit
        | (apply WC.condT; rfl)
        | (apply WC.condF; rfl)
        | apply WC.block
        | apply WC.scope
        | apply WC.dreg
        | apply WD.nil
        | (apply WOps.ldG; rfl; rfl; (first | exact Ld.own Tk.head rfl | exact Ld.own (Tk.tail Tk.head) rfl | exact Ld.own (Tk.tail (Tk.tail Tk.head)) rfl); rfl)
        | (apply WOps.st; rfl; rfl; (first | exact Tk.head | exact (Tk.tail Tk.head) | exact (Tk.tail (Tk.tail Tk.head))); rfl; (first | rfl | ((repeat' (first | exact allCell_nil | apply allCell_cons)) <;> (first | rfl | assumption))); rfl)
        | (apply WOps.alc; rfl; intro _)
        | (apply WOps.bx; rfl; rfl; (first | rfl | ((repeat' (first | exact allCell_nil | apply allCell_cons)) <;> (first | rfl | assumption))); intro _)
        | (apply WOps.bsl; rfl; (first | rfl | ((repeat' (first | exact allCell_nil | apply allCell_cons)) <;> (first | rfl | assumption))); intro _)
        | (apply WD.st; rfl; rfl; rfl; (first | exact Tk.head | exact (Tk.tail Tk.head) | exact (Tk.tail (Tk.tail Tk.head))); rfl; (first | rfl | ((repeat' (first | exact allCell_nil | apply allCell_cons)) <;> (first | rfl | assumption))); rfl)
        | (apply WD.alc; rfl; rfl; intro _)
        | (apply WD.bsl; rfl; rfl; (first | rfl | ((repeat' (first | exact allCell_nil | apply allCell_cons)) <;> (first | rfl | assumption))); intro _)
        | (apply WOps.ixSl; rfl; rfl; rfl; (first | exact hv | exact hv.cons); exact hc; intro a1' q1)
        | (apply WOps.ixSl; rfl; rfl; rfl; (first | exact hw | exact hw.cons); exact hd; intro a2' q2)
        | (apply WOps.ldG; rfl; rfl; exact q1; rfl)
        | (apply WOps.ldG; rfl; rfl; exact q2; rfl)
        | (apply WOps.cvR; rfl; rfl; rfl; exact svc8_ok (s := ⟨n1, i1, m1, ts1, p1, a1, b1⟩) (u := ⟨n2, i2, m2, ts2, p2, a2, b2⟩) ⟨tg1, rfl, h1, t1, l1⟩ ⟨tg2, rfl, h2, t2, l2⟩; rintro _ ⟨bb, rfl, hbb⟩)
        | (apply WOps.addN; rfl; rfl; rfl; omega)
        | (apply WOps.cmp; rfl; rfl; rfl; rfl; intro _ _)
        | (apply WOps.cmpT; rfl; rfl; rfl; rfl; intro _ _)
        | (apply WOps.eqB; rfl; rfl; rfl; intro _ _)
        | (apply WOps.purG; rfl; (intro _; rfl))
        | (apply WOps.skp; rfl)
        | (apply WD.load; rfl; (first | (apply at1; (first | exact rd_ld rfl (Ld.own Tk.head rfl) rfl | exact rd_ld rfl (Ld.own (Tk.tail Tk.head) rfl) rfl | exact rd_ld rfl (Ld.own (Tk.tail (Tk.tail Tk.head)) rfl) rfl); rfl) | (apply at2; (first | exact rd_ld rfl (Ld.own Tk.head rfl) rfl | exact rd_ld rfl (Ld.own (Tk.tail Tk.head) rfl) rfl | exact rd_ld rfl (Ld.own (Tk.tail (Tk.tail Tk.head)) rfl) rfl); repeat' (first | exact same0 | (apply same1; (first | exact rd_ld rfl (Ld.own Tk.head rfl) rfl | exact rd_ld rfl (Ld.own (Tk.tail Tk.head) rfl) rfl | exact rd_ld rfl (Ld.own (Tk.tail (Tk.tail Tk.head)) rfl) rfl); rfl) | (apply same2; (first | exact rd_ld rfl (Ld.own Tk.head rfl) rfl | exact rd_ld rfl (Ld.own (Tk.tail Tk.head) rfl) rfl | exact rd_ld rfl (Ld.own (Tk.tail (Tk.tail Tk.head)) rfl) rfl))))))
        | (apply WD.cmp; rfl; rfl; rfl; rfl; intro _ _)
        | (apply WD.cmpT; rfl; rfl; rfl; rfl; intro _ _)
        | (apply WD.eqB; rfl; rfl; rfl; intro _ _)
        | (apply WD.pur; rfl; (intro _; rfl))
        | (apply WD.skp; rfl)
        | (apply WD.skpL; rfl)
        | (apply WD.skpX; rfl)
        | (apply WOps.ask; rfl; all_goals (intro hb; try subst hb))
        | (apply WC.condA; rfl; all_goals (intro hb; try subst hb))
        | (apply WD.ask; rfl; all_goals (intro hb; try subst hb)))
      · refine ⟨trivial, .cons _ (.cons _ (List.Sublist.refl _)), [_], ⟨_, [], rfl, rfl, rfl⟩, false, rfl, ?_⟩
        simp only [Bool.false_eq_true, false_iff]
        refine ne_of hs hu fun e => ?_
        have := hbb.2 e
        simp_all
      · have hcd : us[i]? = vs[i]? := by
          rw [hs, hu]
          exact congrArg some (hbb.1 (by simpa using hb))
        refine WL.le (t' := [(0, v), (1, w), (2, .fn (.func 8) [] []), (15, v), (16, .int .i64 (.ofNat xs.length)), (17, .int .i64 (.ofNat (i + 1)))]) (Sub1.cons rfl (Sub1.cons rfl (Sub1.cons rfl (Sub1.cons rfl (Sub1.cons rfl (Sub1.cons rfl (Sub1.nil))))))) (WL.sub (.cons _ (.cons _ (List.Sublist.refl _))) (ih _ (by omega) (i + 1) (by omega) ?_ rfl))
        intro j hj
        rcases Nat.lt_or_ge j i with h1 | h1
        · exact hpre j h1
        · obtain rfl : j = i := by omega
          exact hcd
    · rename_i hge
      have hge : xs.length ≤ i := by have h0 := hge; simp [cmpP] at h0; omega
      have hl' : us.length = vs.length := by rw [← rx.1, ← ry.1, hl]
      exact ⟨trivial, List.Sublist.refl _, [_], ⟨_, [], rfl, rfl, rfl⟩, true, rfl, by simp [ext_of hl' (by rw [← rx.1]; exact hge) hpre]⟩

theorem ef12_ok {H : HL} {v w : AV} {xs ys : List (List AV)} {us vs : List (Sv × Int)} (hv : SlIs B H v 8 xs) (hw : SlIs B H w 8 ys) (rx : Rel2 (InR B) xs us) (ry : Rel2 (InR B) ys vs) (lx : xs.length ≤ 9223372036854775807) :
    WF B tab (.func 12) [v, w, .fn (.func 7) [] []] H fun r H' => H' = H ∧ ∃ b : Bool, r = .bool b ∧ (b = true ↔ us = vs) := by
  refine WF.fnR g12 rfl ?_
  repeat' (first
    | apply WOps.nil
    | apply WC.seq
    | apply WC.reg
    | apply WC.skip
    | apply WC.ret
    | apply WC.exit
    | (apply WC.condT; rfl)
    | (apply WC.condF; rfl)
    | apply WC.block
    | apply WC.scope
    | apply WC.dreg
    | apply WD.nil
    | (apply WOps.ldG; rfl; rfl; (first | exact Ld.own Tk.head rfl | exact Ld.own (Tk.tail Tk.head) rfl | exact Ld.own (Tk.tail (Tk.tail Tk.head)) rfl); rfl)
    | (apply WOps.st; rfl; rfl; (first | exact Tk.head | exact (Tk.tail Tk.head) | exact (Tk.tail (Tk.tail Tk.head))); rfl; (first | rfl | ((repeat' (first | exact allCell_nil | apply allCell_cons)) <;> (first | rfl | assumption))); rfl)
    | (apply WOps.alc; rfl; intro _)
    | (apply WOps.bx; rfl; rfl; (first | rfl | ((repeat' (first | exact allCell_nil | apply allCell_cons)) <;> (first | rfl | assumption))); intro _)
    | (apply WOps.bsl; rfl; (first | rfl | ((repeat' (first | exact allCell_nil | apply allCell_cons)) <;> (first | rfl | assumption))); intro _)
    | (apply WD.st; rfl; rfl; rfl; (first | exact Tk.head | exact (Tk.tail Tk.head) | exact (Tk.tail (Tk.tail Tk.head))); rfl; (first | rfl | ((repeat' (first | exact allCell_nil | apply allCell_cons)) <;> (first | rfl | assumption))); rfl)
    | (apply WD.alc; rfl; rfl; intro _)
    | (apply WD.bsl; rfl; rfl; (first | rfl | ((repeat' (first | exact allCell_nil | apply allCell_cons)) <;> (first | rfl | assumption))); intro _)
    | (apply WOps.lenS; rfl; rfl; exact hv)
    | (apply WOps.lenS; rfl; rfl; exact hw)
    | (apply WOps.cmp; rfl; rfl; rfl; rfl; intro _ _)
    | (apply WOps.cmpT; rfl; rfl; rfl; rfl; intro _ _)
    | (apply WOps.eqB; rfl; rfl; rfl; intro _ _)
    | (apply WOps.purG; rfl; (intro _; rfl))
    | (apply WOps.skp; rfl)
    | (apply WD.load; rfl; (first | (apply at1; (first | exact rd_ld rfl (Ld.own Tk.head rfl) rfl | exact rd_ld rfl (Ld.own (Tk.tail Tk.head) rfl) rfl | exact rd_ld rfl (Ld.own (Tk.tail (Tk.tail Tk.head)) rfl) rfl); rfl) | (apply at2; (first | exact rd_ld rfl (Ld.own Tk.head rfl) rfl | exact rd_ld rfl (Ld.own (Tk.tail Tk.head) rfl) rfl | exact rd_ld rfl (Ld.own (Tk.tail (Tk.tail Tk.head)) rfl) rfl); repeat' (first | exact same0 | (apply same1; (first | exact rd_ld rfl (Ld.own Tk.head rfl) rfl | exact rd_ld rfl (Ld.own (Tk.tail Tk.head) rfl) rfl | exact rd_ld rfl (Ld.own (Tk.tail (Tk.tail Tk.head)) rfl) rfl); rfl) | (apply same2; (first | exact rd_ld rfl (Ld.own Tk.head rfl) rfl | exact rd_ld rfl (Ld.own (Tk.tail Tk.head) rfl) rfl | exact rd_ld rfl (Ld.own (Tk.tail (Tk.tail Tk.head)) rfl) rfl))))))
    | (apply WD.cmp; rfl; rfl; rfl; rfl; intro _ _)
    | (apply WD.cmpT; rfl; rfl; rfl; rfl; intro _ _)
    | (apply WD.eqB; rfl; rfl; rfl; intro _ _)
    | (apply WD.pur; rfl; (intro _; rfl))
    | (apply WD.skp; rfl)
    | (apply WD.skpL; rfl)
    | (apply WD.skpX; rfl)
    | (apply WOps.ask; rfl; all_goals (intro hb; try subst hb))
    | (apply WC.condA; rfl; all_goals (intro hb; try subst hb))
    | (apply WD.ask; rfl; all_goals (intro hb; try subst hb)))
  · rename_i h
    simp [cmpP] at h
    refine ⟨trivial, List.Sublist.refl _, [_], ⟨_, [], rfl, rfl, rfl⟩, false, rfl, ?_⟩
    simp only [Bool.false_eq_true, false_iff]
    exact fun e => h (by rw [rx.1, ry.1, e])
  · rename_i h
    have hl : xs.length = ys.length := by have h0 := h; simp [cmpP] at h0; omega
    refine WC.loop ?_
    obtain ⟨i, hi⟩ : ∃ i : Nat, i = 0 := ⟨0, rfl⟩
    refine WL.le (t' := [(0, v), (1, w), (2, .fn (.func 7) [] []), (15, v), (16, .int .i64 (.ofNat xs.length)), (17, .int .i64 (.ofNat i))]) (by subst hi; exact Sub1.cons rfl (Sub1.cons rfl (Sub1.cons rfl (Sub1.cons rfl (Sub1.cons rfl (Sub1.cons rfl (Sub1.nil))))))) ?_
    have hle : i ≤ xs.length := by omega
    have hpre : ∀ (j : Nat), j < i → us[j]? = vs[j]? := by intro j hj; omega
    clear hi
    induction hk : xs.length - i using Nat.strongRecOn generalizing i with | _ k ih => ?_
    apply WL.step
    repeat' (first
      | apply WOps.nil
      | apply WC.seq
      | apply WC.reg
      | apply WC.skip
      | apply WC.ret
      | apply WC.exit
      | (apply WC.condT; rfl)
      | (apply WC.condF; rfl)
      | apply WC.block
      | apply WC.scope
      | apply WC.dreg
      | apply WD.nil
      | (apply WOps.ldG; rfl; rfl; (first | exact Ld.own Tk.head rfl | exact Ld.own (Tk.tail Tk.head) rfl | exact Ld.own (Tk.tail (Tk.tail Tk.head)) rfl); rfl)
      | (apply WOps.st; rfl; rfl; (first | exact Tk.head | exact (Tk.tail Tk.head) | exact (Tk.tail (Tk.tail Tk.head))); rfl; (first | rfl | ((repeat' (first | exact allCell_nil | apply allCell_cons)) <;> (first | rfl | assumption))); rfl)
      | (apply WOps.alc; rfl; intro _)
      | (apply WOps.bx; rfl; rfl; (first | rfl | ((repeat' (first | exact allCell_nil | apply allCell_cons)) <;> (first | rfl | assumption))); intro _)
      | (apply WOps.bsl; rfl; (first | rfl | ((repeat' (first | exact allCell_nil | apply allCell_cons)) <;> (first | rfl | assumption))); intro _)
      | (apply WD.st; rfl; rfl; rfl; (first | exact Tk.head | exact (Tk.tail Tk.head) | exact (Tk.tail (Tk.tail Tk.head))); rfl; (first | rfl | ((repeat' (first | exact allCell_nil | apply allCell_cons)) <;> (first | rfl | assumption))); rfl)
      | (apply WD.alc; rfl; rfl; intro _)
      | (apply WD.bsl; rfl; rfl; (first | rfl | ((repeat' (first | exact allCell_nil | apply allCell_cons)) <;> (first | rfl | assumption))); intro _)
      | (apply WOps.lenS; rfl; rfl; exact hv)
      | (apply WOps.lenS; rfl; rfl; exact hw)
      | (apply WOps.cmp; rfl; rfl; rfl; rfl; intro _ _)
      | (apply WOps.cmpT; rfl; rfl; rfl; rfl; intro _ _)
      | (apply WOps.eqB; rfl; rfl; rfl; intro _ _)
      | (apply WOps.purG; rfl; (intro _; rfl))
      | (apply WOps.skp; rfl)
      | (apply WD.load; rfl; (first | (apply at1; (first | exact rd_ld rfl (Ld.own Tk.head rfl) rfl | exact rd_ld rfl (Ld.own (Tk.tail Tk.head) rfl) rfl | exact rd_ld rfl (Ld.own (Tk.tail (Tk.tail Tk.head)) rfl) rfl); rfl) | (apply at2; (first | exact rd_ld rfl (Ld.own Tk.head rfl) rfl | exact rd_ld rfl (Ld.own (Tk.tail Tk.head) rfl) rfl | exact rd_ld rfl (Ld.own (Tk.tail (Tk.tail Tk.head)) rfl) rfl); repeat' (first | exact same0 | (apply same1; (first | exact rd_ld rfl (Ld.own Tk.head rfl) rfl | exact rd_ld rfl (Ld.own (Tk.tail Tk.head) rfl) rfl | exact rd_ld rfl (Ld.own (Tk.tail (Tk.tail Tk.head)) rfl) rfl); rfl) | (apply same2; (first | exact rd_ld rfl (Ld.own Tk.head rfl) rfl | exact rd_ld rfl (Ld.own (Tk.tail Tk.head) rfl) rfl | exact rd_ld rfl (Ld.own (Tk.tail (Tk.tail Tk.head)) rfl) rfl))))))
      | (apply WD.cmp; rfl; rfl; rfl; rfl; intro _ _)
      | (apply WD.cmpT; rfl; rfl; rfl; rfl; intro _ _)
      | (apply WD.eqB; rfl; rfl; rfl; intro _ _)
      | (apply WD.pur; rfl; (intro _; rfl))
      | (apply WD.skp; rfl)
      | (apply WD.skpL; rfl)
      | (apply WD.skpX; rfl)
      | (apply WOps.ask; rfl; all_goals (intro hb; try subst hb))
      | (apply WC.condA; rfl; all_goals (intro hb; try subst hb))
      | (apply WD.ask; rfl; all_goals (intro hb; try subst hb)))
    · rename_i hlt
      have hlt : i < xs.length := by have h0 := hlt; simp [cmpP] at h0; omega
      obtain ⟨c, s, hc, hs, rc⟩ := rx.get hlt
      obtain ⟨d, u, hd, hu, rd⟩ := ry.get (i := i) (by omega)
      obtain ⟨⟨n1, i1, m1, ts1, p1, a1, b1⟩, st1⟩ := s
      obtain ⟨⟨n2, i2, m2, ts2, p2, a2, b2⟩, st2⟩ := u
      obtain ⟨tg1, rfl, h1, t1, l1⟩ := rc
      obtain ⟨tg2, rfl, h2, t2, l2⟩ := rd
      simp only at h1 t1 l1 h2 t2 l2
      have k1 := h1.cell
      have k2 := h2.cell
      repeat' (first
        | apply WOps.nil
        | apply WC.seq
        | apply WC.reg
        | apply WC.skip
        | apply WC.ret
        | apply WC.exit
        | (apply WC.condT; rfl)
        | (apply WC.condF; rfl)
        | apply WC.block
        | apply WC.scope
        | apply WC.dreg
        | apply WD.nil
        | (apply WOps.ldG; rfl; rfl; (first | exact Ld.own Tk.head rfl | exact Ld.own (Tk.tail Tk.head) rfl | exact Ld.own (Tk.tail (Tk.tail Tk.head)) rfl); rfl)
        | (apply WOps.st; rfl; rfl; (first | exact Tk.head | exact (Tk.tail Tk.head) | exact (Tk.tail (Tk.tail Tk.head))); rfl; (first | rfl | ((repeat' (first | exact allCell_nil | apply allCell_cons)) <;> (first | rfl | assumption))); rfl)
        | (apply WOps.alc; rfl; intro _)
        | (apply WOps.bx; rfl; rfl; (first | rfl | ((repeat' (first | exact allCell_nil | apply allCell_cons)) <;> (first | rfl | assumption))); intro _)
        | (apply WOps.bsl; rfl; (first | rfl | ((repeat' (first | exact allCell_nil | apply allCell_cons)) <;> (first | rfl | assumption))); intro _)
        | (apply WD.st; rfl; rfl; rfl; (first | exact Tk.head | exact (Tk.tail Tk.head) | exact (Tk.tail (Tk.tail Tk.head))); rfl; (first | rfl | ((repeat' (first | exact allCell_nil | apply allCell_cons)) <;> (first | rfl | assumption))); rfl)
        | (apply WD.alc; rfl; rfl; intro _)
        | (apply WD.bsl; rfl; rfl; (first | rfl | ((repeat' (first | exact allCell_nil | apply allCell_cons)) <;> (first | rfl | assumption))); intro _)
        | (apply WOps.ixSl; rfl; rfl; rfl; (first | exact hv | exact hv.cons); exact hc; intro a1' q1)
        | (apply WOps.ixSl; rfl; rfl; rfl; (first | exact hw | exact hw.cons); exact hd; intro a2' q2)
        | (apply WOps.ldG; rfl; rfl; exact q1; rfl)
        | (apply WOps.ldG; rfl; rfl; exact q2; rfl)
        | (apply WOps.cvR; rfl; rfl; rfl; exact ins7_ok (s := ⟨⟨n1, i1, m1, ts1, p1, a1, b1⟩, st1⟩) (u := ⟨⟨n2, i2, m2, ts2, p2, a2, b2⟩, st2⟩) ⟨tg1, rfl, h1, t1, l1⟩ ⟨tg2, rfl, h2, t2, l2⟩; rintro _ ⟨bb, rfl, hbb⟩)
        | (apply WOps.addN; rfl; rfl; rfl; omega)
        | (apply WOps.cmp; rfl; rfl; rfl; rfl; intro _ _)
        | (apply WOps.cmpT; rfl; rfl; rfl; rfl; intro _ _)
        | (apply WOps.eqB; rfl; rfl; rfl; intro _ _)
        | (apply WOps.purG; rfl; (intro _; rfl))
        | (apply WOps.skp; rfl)
        | (apply WD.load; rfl; (first | (apply at1; (first | exact rd_ld rfl (Ld.own Tk.head rfl) rfl | exact rd_ld rfl (Ld.own (Tk.tail Tk.head) rfl) rfl | exact rd_ld rfl (Ld.own (Tk.tail (Tk.tail Tk.head)) rfl) rfl); rfl) | (apply at2; (first | exact rd_ld rfl (Ld.own Tk.head rfl) rfl | exact rd_ld rfl (Ld.own (Tk.tail Tk.head) rfl) rfl | exact rd_ld rfl (Ld.own (Tk.tail (Tk.tail Tk.head)) rfl) rfl); repeat' (first | exact same0 | (apply same1; (first | exact rd_ld rfl (Ld.own Tk.head rfl) rfl | exact rd_ld rfl (Ld.own (Tk.tail Tk.head) rfl) rfl | exact rd_ld rfl (Ld.own (Tk.tail (Tk.tail Tk.head)) rfl) rfl); rfl) | (apply same2; (first | exact rd_ld rfl (Ld.own Tk.head rfl) rfl | exact rd_ld rfl (Ld.own (Tk.tail Tk.head) rfl) rfl | exact rd_ld rfl (Ld.own (Tk.tail (Tk.tail Tk.head)) rfl) rfl))))))
        | (apply WD.cmp; rfl; rfl; rfl; rfl; intro _ _)
        | (apply WD.cmpT; rfl; rfl; rfl; rfl; intro _ _)
        | (apply WD.eqB; rfl; rfl; rfl; intro _ _)
        | (apply WD.pur; rfl; (intro _; rfl))
        | (apply WD.skp; rfl)
        | (apply WD.skpL; rfl)
        | (apply WD.skpX; rfl)
        | (apply WOps.ask; rfl; all_goals (intro hb; try subst hb))
        | (apply WC.condA; rfl; all_goals (intro hb; try subst hb))
        | (apply WD.ask; rfl; all_goals (intro hb; try subst hb)))
      · refine ⟨trivial, .cons _ (.cons _ (List.Sublist.refl _)), [_], ⟨_, [], rfl, rfl, rfl⟩, false, rfl, ?_⟩
        simp only [Bool.false_eq_true, false_iff]
        refine ne_of hs hu fun e => ?_
        have := hbb.2 e
        simp_all
      · have hcd : us[i]? = vs[i]? := by
          rw [hs, hu]
          exact congrArg some (hbb.1 (by simpa using hb))
        refine WL.le (t' := [(0, v), (1, w), (2, .fn (.func 7) [] []), (15, v), (16, .int .i64 (.ofNat xs.length)), (17, .int .i64 (.ofNat (i + 1)))]) (Sub1.cons rfl (Sub1.cons rfl (Sub1.cons rfl (Sub1.cons rfl (Sub1.cons rfl (Sub1.cons rfl (Sub1.nil))))))) (WL.sub (.cons _ (.cons _ (List.Sublist.refl _))) (ih _ (by omega) (i + 1) (by omega) ?_ rfl))
        intro j hj
        rcases Nat.lt_or_ge j i with h1 | h1
        · exact hpre j h1
        · obtain rfl : j = i := by omega
          exact hcd
    · rename_i hge
      have hge : xs.length ≤ i := by have h0 := hge; simp [cmpP] at h0; omega
      have hl' : us.length = vs.length := by rw [← rx.1, ← ry.1, hl]
      exact ⟨trivial, List.Sublist.refl _, [_], ⟨_, [], rfl, rfl, rfl⟩, true, rfl, by simp [ext_of hl' (by rw [← rx.1]; exact hge) hpre]⟩

set_option maxHeartbeats 2000000 in
theorem ss15_ok {H : HL} {v w : AV} {xs ys : List (List AV)} {us vs : List Sv} (hv : SlIs B H v 7 xs) (hw : SlIs B H w 7 ys) (rx : Rel2 (SvR B) xs us) (ry : Rel2 (SvR B) ys vs) (lx : xs.length ≤ 9223372036854775807) :
    WF B tab (.func 15) [v, w] H fun r H' => H' = H ∧ ∃ b : Bool, r = .bool b ∧ (b = true ↔ us = vs) := by
  refine WF.fnR g15 rfl ?_
  repeat' (first
    | apply WOps.nil
    | apply WC.seq
    | apply WC.reg
    | apply WC.skip
    | apply WC.ret
    | apply WC.exit
    | (apply WC.condT; rfl)
    | (apply WC.condF; rfl)
    | apply WC.block
    | apply WC.scope
    | apply WC.dreg
    | apply WD.nil
    | (apply WOps.ldG; rfl; rfl; (first | exact Ld.own Tk.head rfl | exact Ld.own (Tk.tail Tk.head) rfl | exact Ld.own (Tk.tail (Tk.tail Tk.head)) rfl); rfl)
    | (apply WOps.st; rfl; rfl; (first | exact Tk.head | exact (Tk.tail Tk.head) | exact (Tk.tail (Tk.tail Tk.head))); rfl; (first | rfl | ((repeat' (first | exact allCell_nil | apply allCell_cons)) <;> (first | rfl | assumption))); rfl)
    | (apply WOps.alc; rfl; intro _)
    | (apply WOps.bx; rfl; rfl; (first | rfl | ((repeat' (first | exact allCell_nil | apply allCell_cons)) <;> (first | rfl | assumption))); intro _)
    | (apply WOps.bsl; rfl; (first | rfl | ((repeat' (first | exact allCell_nil | apply allCell_cons)) <;> (first | rfl | assumption))); intro _)
    | (apply WD.st; rfl; rfl; rfl; (first | exact Tk.head | exact (Tk.tail Tk.head) | exact (Tk.tail (Tk.tail Tk.head))); rfl; (first | rfl | ((repeat' (first | exact allCell_nil | apply allCell_cons)) <;> (first | rfl | assumption))); rfl)
    | (apply WD.alc; rfl; rfl; intro _)
    | (apply WD.bsl; rfl; rfl; (first | rfl | ((repeat' (first | exact allCell_nil | apply allCell_cons)) <;> (first | rfl | assumption))); intro _)
    | (apply WOps.lenS; rfl; rfl; exact hv)
    | (apply WOps.lenS; rfl; rfl; exact hw)
    | (apply WOps.cmp; rfl; rfl; rfl; rfl; intro _ _)
    | (apply WOps.cmpT; rfl; rfl; rfl; rfl; intro _ _)
    | (apply WOps.eqB; rfl; rfl; rfl; intro _ _)
    | (apply WOps.purG; rfl; (intro _; rfl))
    | (apply WOps.skp; rfl)
    | (apply WD.load; rfl; (first | (apply at1; (first | exact rd_ld rfl (Ld.own Tk.head rfl) rfl | exact rd_ld rfl (Ld.own (Tk.tail Tk.head) rfl) rfl | exact rd_ld rfl (Ld.own (Tk.tail (Tk.tail Tk.head)) rfl) rfl); rfl) | (apply at2; (first | exact rd_ld rfl (Ld.own Tk.head rfl) rfl | exact rd_ld rfl (Ld.own (Tk.tail Tk.head) rfl) rfl | exact rd_ld rfl (Ld.own (Tk.tail (Tk.tail Tk.head)) rfl) rfl); repeat' (first | exact same0 | (apply same1; (first | exact rd_ld rfl (Ld.own Tk.head rfl) rfl | exact rd_ld rfl (Ld.own (Tk.tail Tk.head) rfl) rfl | exact rd_ld rfl (Ld.own (Tk.tail (Tk.tail Tk.head)) rfl) rfl); rfl) | (apply same2; (first | exact rd_ld rfl (Ld.own Tk.head rfl) rfl | exact rd_ld rfl (Ld.own (Tk.tail Tk.head) rfl) rfl | exact rd_ld rfl (Ld.own (Tk.tail (Tk.tail Tk.head)) rfl) rfl))))))
    | (apply WD.cmp; rfl; rfl; rfl; rfl; intro _ _)
    | (apply WD.cmpT; rfl; rfl; rfl; rfl; intro _ _)
    | (apply WD.eqB; rfl; rfl; rfl; intro _ _)
    | (apply WD.pur; rfl; (intro _; rfl))
    | (apply WD.skp; rfl)
    | (apply WD.skpL; rfl)
    | (apply WD.skpX; rfl)
    | (apply WOps.ask; rfl; all_goals (intro hb; try subst hb))
    | (apply WC.condA; rfl; all_goals (intro hb; try subst hb))
    | (apply WD.ask; rfl; all_goals (intro hb; try subst hb)))
  · rename_i h
    simp [cmpP] at h
    refine ⟨trivial, List.Sublist.refl _, [_], ⟨_, [], rfl, rfl, rfl⟩, false, rfl, ?_⟩
    simp only [Bool.false_eq_true, false_iff]
    exact fun e => h (by rw [rx.1, ry.1, e])
  · rename_i h
    have hl : xs.length = ys.length := by have h0 := h; simp [cmpP] at h0; omega
    refine WC.loop ?_
    obtain ⟨i, hi⟩ : ∃ i : Nat, i = 0 := ⟨0, rfl⟩
    refine WL.le (t' := [(0, v), (1, w), (5, .int .i64 (.ofNat i))]) (by subst hi; exact Sub1.cons rfl (Sub1.cons rfl (Sub1.cons rfl (Sub1.nil)))) ?_
    have hle : i ≤ xs.length := by omega
    have hpre : ∀ (j : Nat), j < i → us[j]? = vs[j]? := by intro j hj; omega
    clear hi
    induction hk : xs.length - i using Nat.strongRecOn generalizing i with | _ k ih => ?_
    apply WL.step
    repeat' (first
      | apply WOps.nil
      | apply WC.seq
      | apply WC.reg
      | apply WC.skip
      | apply WC.ret
      | apply WC.exit
      | (apply WC.condT; rfl)
      | (apply WC.condF; rfl)
      | apply WC.block
      | apply WC.scope
      | apply WC.dreg
      | apply WD.nil
      | (apply WOps.ldG; rfl; rfl; (first | exact Ld.own Tk.head rfl | exact Ld.own (Tk.tail Tk.head) rfl | exact Ld.own (Tk.tail (Tk.tail Tk.head)) rfl); rfl)
      | (apply WOps.st; rfl; rfl; (first | exact Tk.head | exact (Tk.tail Tk.head) | exact (Tk.tail (Tk.tail Tk.head))); rfl; (first | rfl | ((repeat' (first | exact allCell_nil | apply allCell_cons)) <;> (first | rfl | assumption))); rfl)
      | (apply WOps.alc; rfl; intro _)
      | (apply WOps.bx; rfl; rfl; (first | rfl | ((repeat' (first | exact allCell_nil | apply allCell_cons)) <;> (first | rfl | assumption))); intro _)
      | (apply WOps.bsl; rfl; (first | rfl | ((repeat' (first | exact allCell_nil | apply allCell_cons)) <;> (first | rfl | assumption))); intro _)
      | (apply WD.st; rfl; rfl; rfl; (first | exact Tk.head | exact (Tk.tail Tk.head) | exact (Tk.tail (Tk.tail Tk.head))); rfl; (first | rfl | ((repeat' (first | exact allCell_nil | apply allCell_cons)) <;> (first | rfl | assumption))); rfl)
      | (apply WD.alc; rfl; rfl; intro _)
      | (apply WD.bsl; rfl; rfl; (first | rfl | ((repeat' (first | exact allCell_nil | apply allCell_cons)) <;> (first | rfl | assumption))); intro _)
      | (apply WOps.lenS; rfl; rfl; exact hv)
      | (apply WOps.lenS; rfl; rfl; exact hw)
      | (apply WOps.cmp; rfl; rfl; rfl; rfl; intro _ _)
      | (apply WOps.cmpT; rfl; rfl; rfl; rfl; intro _ _)
      | (apply WOps.eqB; rfl; rfl; rfl; intro _ _)
      | (apply WOps.purG; rfl; (intro _; rfl))
      | (apply WOps.skp; rfl)
      | (apply WD.load; rfl; (first | (apply at1; (first | exact rd_ld rfl (Ld.own Tk.head rfl) rfl | exact rd_ld rfl (Ld.own (Tk.tail Tk.head) rfl) rfl | exact rd_ld rfl (Ld.own (Tk.tail (Tk.tail Tk.head)) rfl) rfl); rfl) | (apply at2; (first | exact rd_ld rfl (Ld.own Tk.head rfl) rfl | exact rd_ld rfl (Ld.own (Tk.tail Tk.head) rfl) rfl | exact rd_ld rfl (Ld.own (Tk.tail (Tk.tail Tk.head)) rfl) rfl); repeat' (first | exact same0 | (apply same1; (first | exact rd_ld rfl (Ld.own Tk.head rfl) rfl | exact rd_ld rfl (Ld.own (Tk.tail Tk.head) rfl) rfl | exact rd_ld rfl (Ld.own (Tk.tail (Tk.tail Tk.head)) rfl) rfl); rfl) | (apply same2; (first | exact rd_ld rfl (Ld.own Tk.head rfl) rfl | exact rd_ld rfl (Ld.own (Tk.tail Tk.head) rfl) rfl | exact rd_ld rfl (Ld.own (Tk.tail (Tk.tail Tk.head)) rfl) rfl))))))
      | (apply WD.cmp; rfl; rfl; rfl; rfl; intro _ _)
      | (apply WD.cmpT; rfl; rfl; rfl; rfl; intro _ _)
      | (apply WD.eqB; rfl; rfl; rfl; intro _ _)
      | (apply WD.pur; rfl; (intro _; rfl))
      | (apply WD.skp; rfl)
      | (apply WD.skpL; rfl)
      | (apply WD.skpX; rfl)
      | (apply WOps.ask; rfl; all_goals (intro hb; try subst hb))
      | (apply WC.condA; rfl; all_goals (intro hb; try subst hb))
      | (apply WD.ask; rfl; all_goals (intro hb; try subst hb)))
    · rename_i hlt
      have hlt : i < xs.length := by have h0 := hlt; simp [cmpP] at h0; omega
      obtain ⟨c, s, hc, hs, rc⟩ := rx.get hlt
      obtain ⟨d, u, hd, hu, rd⟩ := ry.get (i := i) (by omega)
      obtain ⟨n1, i1, m1, ts1, p1, a1, b1⟩ := s
      obtain ⟨n2, i2, m2, ts2, p2, a2, b2⟩ := u
      obtain ⟨tg1, rfl, h1, t1, l1⟩ := rc
      obtain ⟨tg2, rfl, h2, t2, l2⟩ := rd
      simp only at h1 t1 l1 h2 t2 l2
      have k1 := h1.cell
      have k2 := h2.cell
      have key : (Sv.mk n1 i1 m1 ts1 p1 a1 b1 = Sv.mk n2 i2 m2 ts2 p2 a2 b2) ↔ (n1 = n2 ∧ i1 = i2 ∧ m1 = m2 ∧ ts1 = ts2 ∧ p1 = p2 ∧ a1 = a2 ∧ b1 = b2) := by simp
      repeat' (first
        | apply WOps.nil
        | apply WC.seq
        | apply WC.reg
        | apply WC.skip
        | apply WC.ret
        | apply WC.exit
        | (apply WC.condT; rfl)
        | (apply WC.condF; rfl)
        | apply WC.block
        | apply WC.scope
        | apply WC.dreg
        | apply WD.nil
        | (apply WOps.ldG; rfl; rfl; (first | exact Ld.own Tk.head rfl | exact Ld.own (Tk.tail Tk.head) rfl | exact Ld.own (Tk.tail (Tk.tail Tk.head)) rfl); rfl)
        | (apply WOps.st; rfl; rfl; (first | exact Tk.head | exact (Tk.tail Tk.head) | exact (Tk.tail (Tk.tail Tk.head))); rfl; (first | rfl | ((repeat' (first | exact allCell_nil | apply allCell_cons)) <;> (first | rfl | assumption))); rfl)
        | (apply WOps.alc; rfl; intro _)
        | (apply WOps.bx; rfl; rfl; (first | rfl | ((repeat' (first | exact allCell_nil | apply allCell_cons)) <;> (first | rfl | assumption))); intro _)
        | (apply WOps.bsl; rfl; (first | rfl | ((repeat' (first | exact allCell_nil | apply allCell_cons)) <;> (first | rfl | assumption))); intro _)
        | (apply WD.st; rfl; rfl; rfl; (first | exact Tk.head | exact (Tk.tail Tk.head) | exact (Tk.tail (Tk.tail Tk.head))); rfl; (first | rfl | ((repeat' (first | exact allCell_nil | apply allCell_cons)) <;> (first | rfl | assumption))); rfl)
        | (apply WD.alc; rfl; rfl; intro _)
        | (apply WD.bsl; rfl; rfl; (first | rfl | ((repeat' (first | exact allCell_nil | apply allCell_cons)) <;> (first | rfl | assumption))); intro _)
        | (apply WD.ixSl; rfl; rfl; rfl; exact (by first | exact hv | exact hv.cons.cons); exact hc; intro a1' q1)
        | (apply WD.ixSl; rfl; rfl; rfl; exact (by first | exact hw | exact hw.cons.cons); exact hd; intro a2' q2)
        | (apply WD.load; rfl; (first | (apply at1; exact rd_ld rfl (q1 _ (by first | exact hv | exact hv.cons.cons)) rfl; rfl) | (apply at2; exact rd_ld rfl (q1 _ (by first | exact hv | exact hv.cons.cons)) rfl; repeat' (first | exact same0 | (apply same1; exact rd_ld rfl (q1 _ (by first | exact hv | exact hv.cons.cons)) rfl; rfl) | (apply same2; exact rd_ld rfl (q1 _ (by first | exact hv | exact hv.cons.cons)) rfl)))))
        | (apply WD.load; rfl; (first | (apply at1; exact rd_ld rfl (q2 _ (by first | exact hw | exact hw.cons.cons)) rfl; rfl) | (apply at2; exact rd_ld rfl (q2 _ (by first | exact hw | exact hw.cons.cons)) rfl; repeat' (first | exact same0 | (apply same1; exact rd_ld rfl (q2 _ (by first | exact hw | exact hw.cons.cons)) rfl; rfl) | (apply same2; exact rd_ld rfl (q2 _ (by first | exact hw | exact hw.cons.cons)) rfl)))))
        | (apply WOps.clR; rfl; rfl; exact eq24_ok h1.any h2.any t1 t2 l1; rintro _ ⟨bb, rfl, hbb⟩)
        | (apply WOps.addN; rfl; rfl; rfl; omega)
        | (apply WOps.cmp; rfl; rfl; rfl; rfl; intro _ _)
        | (apply WOps.cmpT; rfl; rfl; rfl; rfl; intro _ _)
        | (apply WOps.eqB; rfl; rfl; rfl; intro _ _)
        | (apply WOps.purG; rfl; (intro _; rfl))
        | (apply WOps.skp; rfl)
        | (apply WD.load; rfl; (first | (apply at1; (first | exact rd_ld rfl (Ld.own Tk.head rfl) rfl | exact rd_ld rfl (Ld.own (Tk.tail Tk.head) rfl) rfl | exact rd_ld rfl (Ld.own (Tk.tail (Tk.tail Tk.head)) rfl) rfl); rfl) | (apply at2; (first | exact rd_ld rfl (Ld.own Tk.head rfl) rfl | exact rd_ld rfl (Ld.own (Tk.tail Tk.head) rfl) rfl | exact rd_ld rfl (Ld.own (Tk.tail (Tk.tail Tk.head)) rfl) rfl); repeat' (first | exact same0 | (apply same1; (first | exact rd_ld rfl (Ld.own Tk.head rfl) rfl | exact rd_ld rfl (Ld.own (Tk.tail Tk.head) rfl) rfl | exact rd_ld rfl (Ld.own (Tk.tail (Tk.tail Tk.head)) rfl) rfl); rfl) | (apply same2; (first | exact rd_ld rfl (Ld.own Tk.head rfl) rfl | exact rd_ld rfl (Ld.own (Tk.tail Tk.head) rfl) rfl | exact rd_ld rfl (Ld.own (Tk.tail (Tk.tail Tk.head)) rfl) rfl))))))
        | (apply WD.cmp; rfl; rfl; rfl; rfl; intro _ _)
        | (apply WD.cmpT; rfl; rfl; rfl; rfl; intro _ _)
        | (apply WD.eqB; rfl; rfl; rfl; intro _ _)
        | (apply WD.pur; rfl; (intro _; rfl))
        | (apply WD.skp; rfl)
        | (apply WD.skpL; rfl)
        | (apply WD.skpX; rfl)
        | (apply WOps.ask; rfl; all_goals (intro hb; try subst hb))
        | (apply WC.condA; rfl; all_goals (intro hb; try subst hb))
        | (apply WD.ask; rfl; all_goals (intro hb; try subst hb)))
      all_goals first
        | (refine ⟨trivial, .cons _ (.cons _ (List.Sublist.refl _)), [_], ⟨_, [], rfl, rfl, rfl⟩, false, rfl, ?_⟩
           simp only [Bool.false_eq_true, false_iff]
           refine ne_of hs hu ?_
           rw [key]
           clear ih hpre hs hu hc hd hv hw rx ry q1 q2 h hl lx l1 l2 t1 t2 h1 h2 k1 k2 hk hle hlt
           simp only [cmpP, cmpS] at *
           simp_all
           done)
        | (have hcd : us[i]? = vs[i]? := by
             rw [hs, hu, Option.some.injEq, key]
             clear ih hpre hs hu hc hd hv hw rx ry q1 q2 h hl lx l1 l2 t1 t2 h1 h2 k1 k2 hk hle hlt
             simp only [cmpP, cmpS] at *
             simp_all
           refine WL.le (t' := [(0, v), (1, w), (5, .int .i64 (.ofNat (i + 1)))]) (Sub1.cons rfl (Sub1.cons rfl (Sub1.cons rfl (Sub1.nil)))) (WL.sub (.cons _ (.cons _ (List.Sublist.refl _))) (ih _ (by omega) (i + 1) (by omega) ?_ rfl))
           intro j hj
           rcases Nat.lt_or_ge j i with h1 | h1
           · exact hpre j h1
           · obtain rfl : j = i := by omega
             exact hcd)
    · rename_i hge
      have hge : xs.length ≤ i := by have h0 := hge; simp [cmpP] at h0; omega
      have hl' : us.length = vs.length := by rw [← rx.1, ← ry.1, hl]
      exact ⟨trivial, List.Sublist.refl _, [_], ⟨_, [], rfl, rfl, rfl⟩, true, rfl, by simp [ext_of hl' (by rw [← rx.1]; exact hge) hpre]⟩
end Go.Proofs.YtmkcbjklcfegcaaGreat.QS
