/- What the functions do, shown by the logic. -/
import Derived.Test.YtmkcbjklcfegcaaGreatQSTab
import Derived.Test.YtmkcbjklcfegcaaGreatAbsN2
set_option linter.unusedSimpArgs false
set_option linter.unusedVariables false
set_option maxRecDepth 20000
namespace Go.Proofs.YtmkcbjklcfegcaaGreat.QS
open Go.Proofs.YtmkcbjklcfegcaaGreat.Abs
variable {B : Nat → List AV}

theorem eq23_ok {H : HL} {v w : AV} {xs ys : List (List AV)} (hv : SlIs B H v 1 xs) (hw : SlIs B H w 1 ys) (tx : ∀ (i : Nat) c, xs[i]? = some c → AllT [CT.str] c) (ty : ∀ (i : Nat) c, ys[i]? = some c → AllT [CT.str] c) (lx : xs.length ≤ 9223372036854775807) :
    WF B tab (.func 23) [v, w] H fun r H' => H' = H ∧ ∃ b : Bool, r = .bool b ∧ (b = true ↔ xs = ys) := by
  refine WF.fnR g23 rfl ?_
  repeat' (first
    | apply WOps.nil
    | apply WC.seq
    | apply WC.reg
    | apply WC.skip
    | apply WC.ret
    | apply WC.exit
    | (apply WC.condT; rfl)
    | (apply WC.condF; rfl)
    | apply WC.block
    | apply WC.scope
    | apply WC.dreg
    | apply WD.nil
    | (apply WOps.ldG; rfl; rfl; (first | exact Ld.own Tk.head rfl | exact Ld.own (Tk.tail Tk.head) rfl | exact Ld.own (Tk.tail (Tk.tail Tk.head)) rfl); rfl)
    | (apply WOps.st; rfl; rfl; (first | exact Tk.head | exact (Tk.tail Tk.head) | exact (Tk.tail (Tk.tail Tk.head))); rfl; (first | rfl | ((repeat' (first | exact allCell_nil | apply allCell_cons)) <;> (first | rfl | assumption))); rfl)
    | (apply WOps.alc; rfl; intro _)
    | (apply WOps.bx; rfl; rfl; (first | rfl | ((repeat' (first | exact allCell_nil | apply allCell_cons)) <;> (first | rfl | assumption))); intro _)
    | (apply WOps.bsl; rfl; (first | rfl | ((repeat' (first | exact allCell_nil | apply allCell_cons)) <;> (first | rfl | assumption))); intro _)
    | (apply WD.st; rfl; rfl; rfl; (first | exact Tk.head | exact (Tk.tail Tk.head) | exact (Tk.tail (Tk.tail Tk.head))); rfl; (first | rfl | ((repeat' (first | exact allCell_nil | apply allCell_cons)) <;> (first | rfl | assumption))); rfl)
    | (apply WD.alc; rfl; rfl; intro _)
    | (apply WD.bsl; rfl; rfl; (first | rfl | ((repeat' (first | exact allCell_nil | apply allCell_cons)) <;> (first | rfl | assumption))); intro _)
    | (apply WOps.lenS; rfl; rfl; exact hv)
    | (apply WOps.lenS; rfl; rfl; exact hw)
    | (apply WOps.cmp; rfl; rfl; rfl; rfl; intro _ _)
    | (apply WOps.cmpT; rfl; rfl; rfl; rfl; intro _ _)
    | (apply WOps.eqB; rfl; rfl; rfl; intro _ _)
    | (apply WOps.purG; rfl; (intro _; rfl))
    | (apply WOps.skp; rfl)
    | (apply WD.load; rfl; (first | (apply at1; (first | exact rd_ld rfl (Ld.own Tk.head rfl) rfl | exact rd_ld rfl (Ld.own (Tk.tail Tk.head) rfl) rfl | exact rd_ld rfl (Ld.own (Tk.tail (Tk.tail Tk.head)) rfl) rfl); rfl) | (apply at2; (first | exact rd_ld rfl (Ld.own Tk.head rfl) rfl | exact rd_ld rfl (Ld.own (Tk.tail Tk.head) rfl) rfl | exact rd_ld rfl (Ld.own (Tk.tail (Tk.tail Tk.head)) rfl) rfl); repeat' (first | exact same0 | (apply same1; (first | exact rd_ld rfl (Ld.own Tk.head rfl) rfl | exact rd_ld rfl (Ld.own (Tk.tail Tk.head) rfl) rfl | exact rd_ld rfl (Ld.own (Tk.tail (Tk.tail Tk.head)) rfl) rfl); rfl) | (apply same2; (first | exact rd_ld rfl (Ld.own Tk.head rfl) rfl | exact rd_ld rfl (Ld.own (Tk.tail Tk.head) rfl) rfl | exact rd_ld rfl (Ld.own (Tk.tail (Tk.tail Tk.head)) rfl) rfl))))))
    | (apply WD.cmp; rfl; rfl; rfl; rfl; intro _ _)
    | (apply WD.cmpT; rfl; rfl; rfl; rfl; intro _ _)
    | (apply WD.eqB; rfl; rfl; rfl; intro _ _)
    | (apply WD.pur; rfl; (intro _; rfl))
    | (apply WD.skp; rfl)
    | (apply WD.skpL; rfl)
    | (apply WD.skpX; rfl)
    | (apply WOps.ask; rfl; all_goals (intro hb; try subst hb))
    | (apply WC.condA; rfl; all_goals (intro hb; try subst hb))
    | (apply WD.ask; rfl; all_goals (intro hb; try subst hb)))
  · rename_i h
    simp [cmpP] at h
    refine ⟨trivial, List.Sublist.refl _, [_], ⟨_, [], rfl, rfl, rfl⟩, false, rfl, ?_⟩
    simp only [Bool.false_eq_true, false_iff]
    exact fun e => h (by rw [e])
  · rename_i h
    have hl : xs.length = ys.length := by have h0 := h; simp [cmpP] at h0; omega
    refine WC.loop ?_
    obtain ⟨i, hi⟩ : ∃ i : Nat, i = 0 := ⟨0, rfl⟩
    refine WL.le (t' := [(0, v), (1, w), (12, .int .i64 (.ofNat xs.length)), (13, .int .i64 (.ofNat i))]) (by subst hi; exact Sub1.cons rfl (Sub1.cons rfl (Sub1.cons rfl (Sub1.cons rfl (Sub1.nil))))) ?_
    have hle : i ≤ xs.length := by omega
    have hpre : ∀ (j : Nat), j < i → xs[j]? = ys[j]? := by intro j hj; omega
    clear hi
    induction hk : xs.length - i using Nat.strongRecOn generalizing i with | _ k ih => ?_
    apply WL.step
    repeat' (first
      | apply WOps.nil
      | apply WC.seq
      | apply WC.reg
      | apply WC.skip
      | apply WC.ret
      | apply WC.exit
      | (apply WC.condT; rfl)
      | (apply WC.condF; rfl)
      | apply WC.block
      | apply WC.scope
      | apply WC.dreg
      | apply WD.nil
      | (apply WOps.ldG; rfl; rfl; (first | exact Ld.own Tk.head rfl | exact Ld.own (Tk.tail Tk.head) rfl | exact Ld.own (Tk.tail (Tk.tail Tk.head)) rfl); rfl)
      | (apply WOps.st; rfl; rfl; (first | exact Tk.head | exact (Tk.tail Tk.head) | exact (Tk.tail (Tk.tail Tk.head))); rfl; (first | rfl | ((repeat' (first | exact allCell_nil | apply allCell_cons)) <;> (first | rfl | assumption))); rfl)
      | (apply WOps.alc; rfl; intro _)
      | (apply WOps.bx; rfl; rfl; (first | rfl | ((repeat' (first | exact allCell_nil | apply allCell_cons)) <;> (first | rfl | assumption))); intro _)
      | (apply WOps.bsl; rfl; (first | rfl | ((repeat' (first | exact allCell_nil | apply allCell_cons)) <;> (first | rfl | assumption))); intro _)
      | (apply WD.st; rfl; rfl; rfl; (first | exact Tk.head | exact (Tk.tail Tk.head) | exact (Tk.tail (Tk.tail Tk.head))); rfl; (first | rfl | ((repeat' (first | exact allCell_nil | apply allCell_cons)) <;> (first | rfl | assumption))); rfl)
      | (apply WD.alc; rfl; rfl; intro _)
      | (apply WD.bsl; rfl; rfl; (first | rfl | ((repeat' (first | exact allCell_nil | apply allCell_cons)) <;> (first | rfl | assumption))); intro _)
      | (apply WOps.lenS; rfl; rfl; exact hv)
      | (apply WOps.lenS; rfl; rfl; exact hw)
      | (apply WOps.cmp; rfl; rfl; rfl; rfl; intro _ _)
      | (apply WOps.cmpT; rfl; rfl; rfl; rfl; intro _ _)
      | (apply WOps.eqB; rfl; rfl; rfl; intro _ _)
      | (apply WOps.purG; rfl; (intro _; rfl))
      | (apply WOps.skp; rfl)
      | (apply WD.load; rfl; (first | (apply at1; (first | exact rd_ld rfl (Ld.own Tk.head rfl) rfl | exact rd_ld rfl (Ld.own (Tk.tail Tk.head) rfl) rfl | exact rd_ld rfl (Ld.own (Tk.tail (Tk.tail Tk.head)) rfl) rfl); rfl) | (apply at2; (first | exact rd_ld rfl (Ld.own Tk.head rfl) rfl | exact rd_ld rfl (Ld.own (Tk.tail Tk.head) rfl) rfl | exact rd_ld rfl (Ld.own (Tk.tail (Tk.tail Tk.head)) rfl) rfl); repeat' (first | exact same0 | (apply same1; (first | exact rd_ld rfl (Ld.own Tk.head rfl) rfl | exact rd_ld rfl (Ld.own (Tk.tail Tk.head) rfl) rfl | exact rd_ld rfl (Ld.own (Tk.tail (Tk.tail Tk.head)) rfl) rfl); rfl) | (apply same2; (first | exact rd_ld rfl (Ld.own Tk.head rfl) rfl | exact rd_ld rfl (Ld.own (Tk.tail Tk.head) rfl) rfl | exact rd_ld rfl (Ld.own (Tk.tail (Tk.tail Tk.head)) rfl) rfl))))))
      | (apply WD.cmp; rfl; rfl; rfl; rfl; intro _ _)
      | (apply WD.cmpT; rfl; rfl; rfl; rfl; intro _ _)
      | (apply WD.eqB; rfl; rfl; rfl; intro _ _)
      | (apply WD.pur; rfl; (intro _; rfl))
      | (apply WD.skp; rfl)
      | (apply WD.skpL; rfl)
      | (apply WD.skpX; rfl)
      | (apply WOps.ask; rfl; all_goals (intro hb; try subst hb))
      | (apply WC.condA; rfl; all_goals (intro hb; try subst hb))
      | (apply WD.ask; rfl; all_goals (intro hb; try subst hb)))
    · rename_i hlt
      have hlt : i < xs.length := by have h0 := hlt; simp [cmpP] at h0; omega
      obtain ⟨c, hc⟩ : ∃ c, xs[i]? = some c := ⟨xs[i], List.getElem?_eq_getElem hlt⟩
      obtain ⟨d, hd⟩ : ∃ d, ys[i]? = some d := ⟨ys[i]'(by omega), List.getElem?_eq_getElem _⟩
      obtain ⟨_, _, rfl, ⟨s1, rfl⟩, rfl⟩ := tx i c hc
      obtain ⟨_, _, rfl, ⟨s2, rfl⟩, rfl⟩ := ty i d hd
      repeat' (first
        | apply WOps.nil
        | apply WC.seq
        | apply WC.reg
        | apply WC.skip
        | apply WC.ret
        | apply WC.exit
        | (apply WC.condT; rfl)
        | (apply WC.condF; rfl)
        | apply WC.block
        | apply WC.scope
        | apply WC.dreg
        | apply WD.nil
        | (apply WOps.ldG; rfl; rfl; (first | exact Ld.own Tk.head rfl | exact Ld.own (Tk.tail Tk.head) rfl | exact Ld.own (Tk.tail (Tk.tail Tk.head)) rfl); rfl)
        | (apply WOps.st; rfl; rfl; (first | exact Tk.head | exact (Tk.tail Tk.head) | exact (Tk.tail (Tk.tail Tk.head))); rfl; (first | rfl | ((repeat' (first | exact allCell_nil | apply allCell_cons)) <;> (first | rfl | assumption))); rfl)
        | (apply WOps.alc; rfl; intro _)
        | (apply WOps.bx; rfl; rfl; (first | rfl | ((repeat' (first | exact allCell_nil | apply allCell_cons)) <;> (first | rfl | assumption))); intro _)
        | (apply WOps.bsl; rfl; (first | rfl | ((repeat' (first | exact allCell_nil | apply allCell_cons)) <;> (first | rfl | assumption))); intro _)
        | (apply WD.st; rfl; rfl; rfl; (first | exact Tk.head | exact (Tk.tail Tk.head) | exact (Tk.tail (Tk.tail Tk.head))); rfl; (first | rfl | ((repeat' (first | exact allCell_nil | apply allCell_cons)) <;> (first | rfl | assumption))); rfl)
        | (apply WD.alc; rfl; rfl; intro _)
        | (apply WD.bsl; rfl; rfl; (first | rfl | ((repeat' (first | exact allCell_nil | apply allCell_cons)) <;> (first | rfl | assumption))); intro _)
        | (apply WD.ixSl; rfl; rfl; rfl; exact hv; exact hc; intro a1 l1)
        | (apply WD.ixSl; rfl; rfl; rfl; exact hw; exact hd; intro a2 l2)
        | (apply WD.load; rfl; (first | (apply at1; exact rd_ld rfl (l1 _ hv) rfl; rfl) | (apply at2; exact rd_ld rfl (l1 _ hv) rfl; repeat' (first | exact same0 | (apply same1; exact rd_ld rfl (l1 _ hv) rfl; rfl) | (apply same2; exact rd_ld rfl (l1 _ hv) rfl)))))
        | (apply WD.load; rfl; (first | (apply at1; exact rd_ld rfl (l2 _ hw) rfl; rfl) | (apply at2; exact rd_ld rfl (l2 _ hw) rfl; repeat' (first | exact same0 | (apply same1; exact rd_ld rfl (l2 _ hw) rfl; rfl) | (apply same2; exact rd_ld rfl (l2 _ hw) rfl)))))
        | (apply WOps.addN; rfl; rfl; rfl; omega)
        | (apply WOps.cmp; rfl; rfl; rfl; rfl; intro _ _)
        | (apply WOps.cmpT; rfl; rfl; rfl; rfl; intro _ _)
        | (apply WOps.eqB; rfl; rfl; rfl; intro _ _)
        | (apply WOps.purG; rfl; (intro _; rfl))
        | (apply WOps.skp; rfl)
        | (apply WD.load; rfl; (first | (apply at1; (first | exact rd_ld rfl (Ld.own Tk.head rfl) rfl | exact rd_ld rfl (Ld.own (Tk.tail Tk.head) rfl) rfl | exact rd_ld rfl (Ld.own (Tk.tail (Tk.tail Tk.head)) rfl) rfl); rfl) | (apply at2; (first | exact rd_ld rfl (Ld.own Tk.head rfl) rfl | exact rd_ld rfl (Ld.own (Tk.tail Tk.head) rfl) rfl | exact rd_ld rfl (Ld.own (Tk.tail (Tk.tail Tk.head)) rfl) rfl); repeat' (first | exact same0 | (apply same1; (first | exact rd_ld rfl (Ld.own Tk.head rfl) rfl | exact rd_ld rfl (Ld.own (Tk.tail Tk.head) rfl) rfl | exact rd_ld rfl (Ld.own (Tk.tail (Tk.tail Tk.head)) rfl) rfl); rfl) | (apply same2; (first | exact rd_ld rfl (Ld.own Tk.head rfl) rfl | exact rd_ld rfl (Ld.own (Tk.tail Tk.head) rfl) rfl | exact rd_ld rfl (Ld.own (Tk.tail (Tk.tail Tk.head)) rfl) rfl))))))
        | (apply WD.cmp; rfl; rfl; rfl; rfl; intro _ _)
        | (apply WD.cmpT; rfl; rfl; rfl; rfl; intro _ _)
        | (apply WD.eqB; rfl; rfl; rfl; intro _ _)
        | (apply WD.pur; rfl; (intro _; rfl))
        | (apply WD.skp; rfl)
        | (apply WD.skpL; rfl)
        | (apply WD.skpX; rfl)
        | (apply WOps.ask; rfl; all_goals (intro hb; try subst hb))
        | (apply WC.condA; rfl; all_goals (intro hb; try subst hb))
        | (apply WD.ask; rfl; all_goals (intro hb; try subst hb)))
      · rename_i hb
        refine ⟨trivial, List.Sublist.refl _, [_], ⟨_, [], rfl, rfl, rfl⟩, false, rfl, ?_⟩
        simp only [Bool.false_eq_true, false_iff]
        refine ne_of hc hd ?_
        simpa [cmpS] using hb
      · rename_i hb
        have hcd : xs[i]? = ys[i]? := by
          rw [hc, hd]
          simpa [cmpS] using hb
        refine WL.le (t' := [(0, v), (1, w), (12, .int .i64 (.ofNat xs.length)), (13, .int .i64 (.ofNat (i + 1)))]) (Sub1.cons rfl (Sub1.cons rfl (Sub1.cons rfl (Sub1.cons rfl (Sub1.nil))))) (ih _ (by omega) (i + 1) (by omega) ?_ rfl)
        intro j hj
        rcases Nat.lt_or_ge j i with h1 | h1
        · exact hpre j h1
        · obtain rfl : j = i := by omega
          exact hcd
    · rename_i hge
      have hge : xs.length ≤ i := by have h0 := hge; simp [cmpP] at h0; omega
      exact ⟨trivial, List.Sublist.refl _, [_], ⟨_, [], rfl, rfl, rfl⟩, true, rfl, by simp [ext_of hl hge hpre]⟩

theorem eq24_ok {H : HL} {v w : AV} {xs ys : List (List AV)} (hv : SlIs B H v 1 xs) (hw : SlIs B H w 1 ys) (tx : ∀ (i : Nat) c, xs[i]? = some c → AllT [CT.str] c) (ty : ∀ (i : Nat) c, ys[i]? = some c → AllT [CT.str] c) (lx : xs.length ≤ 9223372036854775807) :
    WF B tab (.func 24) [v, w] H fun r H' => H' = H ∧ ∃ b : Bool, r = .bool b ∧ (b = true ↔ xs = ys) := by
  refine WF.fnR g24 rfl ?_
  repeat' (first
    | apply WOps.nil
    | apply WC.seq
    | apply WC.reg
    | apply WC.skip
    | apply WC.ret
    | apply WC.exit
    | (apply WC.condT; rfl)
    | (apply WC.condF; rfl)
    | apply WC.block
    | apply WC.scope
    | apply WC.dreg
    | apply WD.nil
    | (apply WOps.ldG; rfl; rfl; (first | exact Ld.own Tk.head rfl | exact Ld.own (Tk.tail Tk.head) rfl | exact Ld.own (Tk.tail (Tk.tail Tk.head)) rfl); rfl)
    | (apply WOps.st; rfl; rfl; (first | exact Tk.head | exact (Tk.tail Tk.head) | exact (Tk.tail (Tk.tail Tk.head))); rfl; (first | rfl | ((repeat' (first | exact allCell_nil | apply allCell_cons)) <;> (first | rfl | assumption))); rfl)
    | (apply WOps.alc; rfl; intro _)
    | (apply WOps.bx; rfl; rfl; (first | rfl | ((repeat' (first | exact allCell_nil | apply allCell_cons)) <;> (first | rfl | assumption))); intro _)
    | (apply WOps.bsl; rfl; (first | rfl | ((repeat' (first | exact allCell_nil | apply allCell_cons)) <;> (first | rfl | assumption))); intro _)
    | (apply WD.st; rfl; rfl; rfl; (first | exact Tk.head | exact (Tk.tail Tk.head) | exact (Tk.tail (Tk.tail Tk.head))); rfl; (first | rfl | ((repeat' (first | exact allCell_nil | apply allCell_cons)) <;> (first | rfl | assumption))); rfl)
    | (apply WD.alc; rfl; rfl; intro _)
    | (apply WD.bsl; rfl; rfl; (first | rfl | ((repeat' (first | exact allCell_nil | apply allCell_cons)) <;> (first | rfl | assumption))); intro _)
    | (apply WOps.lenS; rfl; rfl; exact hv)
    | (apply WOps.lenS; rfl; rfl; exact hw)
    | (apply WOps.cmp; rfl; rfl; rfl; rfl; intro _ _)
    | (apply WOps.cmpT; rfl; rfl; rfl; rfl; intro _ _)
    | (apply WOps.eqB; rfl; rfl; rfl; intro _ _)
    | (apply WOps.purG; rfl; (intro _; rfl))
    | (apply WOps.skp; rfl)
    | (apply WD.load; rfl; (first | (apply at1; (first | exact rd_ld rfl (Ld.own Tk.head rfl) rfl | exact rd_ld rfl (Ld.own (Tk.tail Tk.head) rfl) rfl | exact rd_ld rfl (Ld.own (Tk.tail (Tk.tail Tk.head)) rfl) rfl); rfl) | (apply at2; (first | exact rd_ld rfl (Ld.own Tk.head rfl) rfl | exact rd_ld rfl (Ld.own (Tk.tail Tk.head) rfl) rfl | exact rd_ld rfl (Ld.own (Tk.tail (Tk.tail Tk.head)) rfl) rfl); repeat' (first | exact same0 | (apply same1; (first | exact rd_ld rfl (Ld.own Tk.head rfl) rfl | exact rd_ld rfl (Ld.own (Tk.tail Tk.head) rfl) rfl | exact rd_ld rfl (Ld.own (Tk.tail (Tk.tail Tk.head)) rfl) rfl); rfl) | (apply same2; (first | exact rd_ld rfl (Ld.own Tk.head rfl) rfl | exact rd_ld rfl (Ld.own (Tk.tail Tk.head) rfl) rfl | exact rd_ld rfl (Ld.own (Tk.tail (Tk.tail Tk.head)) rfl) rfl))))))
    | (apply WD.cmp; rfl; rfl; rfl; rfl; intro _ _)
    | (apply WD.cmpT; rfl; rfl; rfl; rfl; intro _ _)
    | (apply WD.eqB; rfl; rfl; rfl; intro _ _)
    | (apply WD.pur; rfl; (intro _; rfl))
    | (apply WD.skp; rfl)
    | (apply WD.skpL; rfl)
    | (apply WD.skpX; rfl)
    | (apply WOps.ask; rfl; all_goals (intro hb; try subst hb))
    | (apply WC.condA; rfl; all_goals (intro hb; try subst hb))
    | (apply WD.ask; rfl; all_goals (intro hb; try subst hb)))
  · rename_i h
    simp [cmpP] at h
    refine ⟨trivial, List.Sublist.refl _, [_], ⟨_, [], rfl, rfl, rfl⟩, false, rfl, ?_⟩
    simp only [Bool.false_eq_true, false_iff]
    exact fun e => h (by rw [e])
  · rename_i h
    have hl : xs.length = ys.length := by have h0 := h; simp [cmpP] at h0; omega
    refine WC.loop ?_
    obtain ⟨i, hi⟩ : ∃ i : Nat, i = 0 := ⟨0, rfl⟩
    refine WL.le (t' := [(0, v), (1, w), (5, .int .i64 (.ofNat i))]) (by subst hi; exact Sub1.cons rfl (Sub1.cons rfl (Sub1.cons rfl (Sub1.nil)))) ?_
    have hle : i ≤ xs.length := by omega
    have hpre : ∀ (j : Nat), j < i → xs[j]? = ys[j]? := by intro j hj; omega
    clear hi
    induction hk : xs.length - i using Nat.strongRecOn generalizing i with | _ k ih => ?_
    apply WL.step
    repeat' (first
      | apply WOps.nil
      | apply WC.seq
      | apply WC.reg
      | apply WC.skip
      | apply WC.ret
      | apply WC.exit
      | (apply WC.condT; rfl)
      | (apply WC.condF; rfl)
      | apply WC.block
      | apply WC.scope
      | apply WC.dreg
      | apply WD.nil
      | (apply WOps.ldG; rfl; rfl; (first | exact Ld.own Tk.head rfl | exact Ld.own (Tk.tail Tk.head) rfl | exact Ld.own (Tk.tail (Tk.tail Tk.head)) rfl); rfl)
      | (apply WOps.st; rfl; rfl; (first | exact Tk.head | exact (Tk.tail Tk.head) | exact (Tk.tail (Tk.tail Tk.head))); rfl; (first | rfl | ((repeat' (first | exact allCell_nil | apply allCell_cons)) <;> (first | rfl | assumption))); rfl)
      | (apply WOps.alc; rfl; intro _)
      | (apply WOps.bx; rfl; rfl; (first | rfl | ((repeat' (first | exact allCell_nil | apply allCell_cons)) <;> (first | rfl | assumption))); intro _)
      | (apply WOps.bsl; rfl; (first | rfl | ((repeat' (first | exact allCell_nil | apply allCell_cons)) <;> (first | rfl | assumption))); intro _)
      | (apply WD.st; rfl; rfl; rfl; (first | exact Tk.head | exact (Tk.tail Tk.head) | exact (Tk.tail (Tk.tail Tk.head))); rfl; (first | rfl | ((repeat' (first | exact allCell_nil | apply allCell_cons)) <;> (first | rfl | assumption))); rfl)
      | (apply WD.alc; rfl; rfl; intro _)
      | (apply WD.bsl; rfl; rfl; (first | rfl | ((repeat' (first | exact allCell_nil | apply allCell_cons)) <;> (first | rfl | assumption))); intro _)
      | (apply WOps.lenS; rfl; rfl; exact hv)
      | (apply WOps.lenS; rfl; rfl; exact hw)
      | (apply WOps.cmp; rfl; rfl; rfl; rfl; intro _ _)
      | (apply WOps.cmpT; rfl; rfl; rfl; rfl; intro _ _)
      | (apply WOps.eqB; rfl; rfl; rfl; intro _ _)
      | (apply WOps.purG; rfl; (intro _; rfl))
      | (apply WOps.skp; rfl)
      | (apply WD.load; rfl; (first | (apply at1; (first | exact rd_ld rfl (Ld.own Tk.head rfl) rfl | exact rd_ld rfl (Ld.own (Tk.tail Tk.head) rfl) rfl | exact rd_ld rfl (Ld.own (Tk.tail (Tk.tail Tk.head)) rfl) rfl); rfl) | (apply at2; (first | exact rd_ld rfl (Ld.own Tk.head rfl) rfl | exact rd_ld rfl (Ld.own (Tk.tail Tk.head) rfl) rfl | exact rd_ld rfl (Ld.own (Tk.tail (Tk.tail Tk.head)) rfl) rfl); repeat' (first | exact same0 | (apply same1; (first | exact rd_ld rfl (Ld.own Tk.head rfl) rfl | exact rd_ld rfl (Ld.own (Tk.tail Tk.head) rfl) rfl | exact rd_ld rfl (Ld.own (Tk.tail (Tk.tail Tk.head)) rfl) rfl); rfl) | (apply same2; (first | exact rd_ld rfl (Ld.own Tk.head rfl) rfl | exact rd_ld rfl (Ld.own (Tk.tail Tk.head) rfl) rfl | exact rd_ld rfl (Ld.own (Tk.tail (Tk.tail Tk.head)) rfl) rfl))))))
      | (apply WD.cmp; rfl; rfl; rfl; rfl; intro _ _)
      | (apply WD.cmpT; rfl; rfl; rfl; rfl; intro _ _)
      | (apply WD.eqB; rfl; rfl; rfl; intro _ _)
      | (apply WD.pur; rfl; (intro _; rfl))
      | (apply WD.skp; rfl)
      | (apply WD.skpL; rfl)
      | (apply WD.skpX; rfl)
      | (apply WOps.ask; rfl; all_goals (intro hb; try subst hb))
      | (apply WC.condA; rfl; all_goals (intro hb; try subst hb))
      | (apply WD.ask; rfl; all_goals (intro hb; try subst hb)))
    · rename_i hlt
      have hlt : i < xs.length := by have h0 := hlt; simp [cmpP] at h0; omega
      obtain ⟨c, hc⟩ : ∃ c, xs[i]? = some c := ⟨xs[i], List.getElem?_eq_getElem hlt⟩
      obtain ⟨d, hd⟩ : ∃ d, ys[i]? = some d := ⟨ys[i]'(by omega), List.getElem?_eq_getElem _⟩
      obtain ⟨_, _, rfl, ⟨s1, rfl⟩, rfl⟩ := tx i c hc
      obtain ⟨_, _, rfl, ⟨s2, rfl⟩, rfl⟩ := ty i d hd
      repeat' (first
        | apply WOps.nil
        | apply WC.seq
        | apply WC.reg
        | apply WC.skip
        | apply WC.ret
        | apply WC.exit
        | (apply WC.condT; rfl)
        | (apply WC.condF; rfl)
        | apply WC.block
        | apply WC.scope
        | apply WC.dreg
        | apply WD.nil
        | (apply WOps.ldG; rfl; rfl; (first | exact Ld.own Tk.head rfl | exact Ld.own (Tk.tail Tk.head) rfl | exact Ld.own (Tk.tail (Tk.tail Tk.head)) rfl); rfl)
        | (apply WOps.st; rfl; rfl; (first | exact Tk.head | exact (Tk.tail Tk.head) | exact (Tk.tail (Tk.tail Tk.head))); rfl; (first | rfl | ((repeat' (first | exact allCell_nil | apply allCell_cons)) <;> (first | rfl | assumption))); rfl)
        | (apply WOps.alc; rfl; intro _)
        | (apply WOps.bx; rfl; rfl; (first | rfl | ((repeat' (first | exact allCell_nil | apply allCell_cons)) <;> (first | rfl | assumption))); intro _)
        | (apply WOps.bsl; rfl; (first | rfl | ((repeat' (first | exact allCell_nil | apply allCell_cons)) <;> (first | rfl | assumption))); intro _)
        | (apply WD.st; rfl; rfl; rfl; (first | exact Tk.head | exact (Tk.tail Tk.head) | exact (Tk.tail (Tk.tail Tk.head))); rfl; (first | rfl | ((repeat' (first | exact allCell_nil | apply allCell_cons)) <;> (first | rfl | assumption))); rfl)
        | (apply WD.alc; rfl; rfl; intro _)
        | (apply WD.bsl; rfl; rfl; (first | rfl | ((repeat' (first | exact allCell_nil | apply allCell_cons)) <;> (first | rfl | assumption))); intro _)
        | (apply WD.ixSl; rfl; rfl; rfl; exact hv; exact hc; intro a1 l1)
        | (apply WD.ixSl; rfl; rfl; rfl; exact hw; exact hd; intro a2 l2)
        | (apply WD.load; rfl; (first | (apply at1; exact rd_ld rfl (l1 _ hv) rfl; rfl) | (apply at2; exact rd_ld rfl (l1 _ hv) rfl; repeat' (first | exact same0 | (apply same1; exact rd_ld rfl (l1 _ hv) rfl; rfl) | (apply same2; exact rd_ld rfl (l1 _ hv) rfl)))))
        | (apply WD.load; rfl; (first | (apply at1; exact rd_ld rfl (l2 _ hw) rfl; rfl) | (apply at2; exact rd_ld rfl (l2 _ hw) rfl; repeat' (first | exact same0 | (apply same1; exact rd_ld rfl (l2 _ hw) rfl; rfl) | (apply same2; exact rd_ld rfl (l2 _ hw) rfl)))))
        | (apply WOps.addN; rfl; rfl; rfl; omega)
        | (apply WOps.cmp; rfl; rfl; rfl; rfl; intro _ _)
        | (apply WOps.cmpT; rfl; rfl; rfl; rfl; intro _ _)
        | (apply WOps.eqB; rfl; rfl; rfl; intro _ _)
        | (apply WOps.purG; rfl; (intro _; rfl))
        | (apply WOps.skp; rfl)
        | (apply WD.load; rfl; (first | (apply at1; (first | exact rd_ld rfl (Ld.own Tk.head rfl) rfl | exact rd_ld rfl (Ld.own (Tk.tail Tk.head) rfl) rfl | exact rd_ld rfl (Ld.own (Tk.tail (Tk.tail Tk.head)) rfl) rfl); rfl) | (apply at2; (first | exact rd_ld rfl (Ld.own Tk.head rfl) rfl | exact rd_ld rfl (Ld.own (Tk.tail Tk.head) rfl) rfl | exact rd_ld rfl (Ld.own (Tk.tail (Tk.tail Tk.head)) rfl) rfl); repeat' (first | exact same0 | (apply same1; (first | exact rd_ld rfl (Ld.own Tk.head rfl) rfl | exact rd_ld rfl (Ld.own (Tk.tail Tk.head) rfl) rfl | exact rd_ld rfl (Ld.own (Tk.tail (Tk.tail Tk.head)) rfl) rfl); rfl) | (apply same2; (first | exact rd_ld rfl (Ld.own Tk.head rfl) rfl | exact rd_ld rfl (Ld.own (Tk.tail Tk.head) rfl) rfl | exact rd_ld rfl (Ld.own (Tk.tail (Tk.tail Tk.head)) rfl) rfl))))))
        | (apply WD.cmp; rfl; rfl; rfl; rfl; intro _ _)
        | (apply WD.cmpT; rfl; rfl; rfl; rfl; intro _ _)
        | (apply WD.eqB; rfl; rfl; rfl; intro _ _)
        | (apply WD.pur; rfl; (intro _; rfl))
        | (apply WD.skp; rfl)
        | (apply WD.skpL; rfl)
        | (apply WD.skpX; rfl)
        | (apply WOps.ask; rfl; all_goals (intro hb; try subst hb))
        | (apply WC.condA; rfl; all_goals (intro hb; try subst hb))
        | (apply WD.ask; rfl; all_goals (intro hb; try subst hb)))
      · rename_i hb
        refine ⟨trivial, List.Sublist.refl _, [_], ⟨_, [], rfl, rfl, rfl⟩, false, rfl, ?_⟩
        simp only [Bool.false_eq_true, false_iff]
        refine ne_of hc hd ?_
        simpa [cmpS] using hb
      · rename_i hb
        have hcd : xs[i]? = ys[i]? := by
          rw [hc, hd]
          simpa [cmpS] using hb
        refine WL.le (t' := [(0, v), (1, w), (5, .int .i64 (.ofNat (i + 1)))]) (Sub1.cons rfl (Sub1.cons rfl (Sub1.cons rfl (Sub1.nil)))) (ih _ (by omega) (i + 1) (by omega) ?_ rfl)
        intro j hj
        rcases Nat.lt_or_ge j i with h1 | h1
        · exact hpre j h1
        · obtain rfl : j = i := by omega
          exact hcd
    · rename_i hge
      have hge : xs.length ≤ i := by have h0 := hge; simp [cmpP] at h0; omega
      exact ⟨trivial, List.Sublist.refl _, [_], ⟨_, [], rfl, rfl, rfl⟩, true, rfl, by simp [ext_of hl hge hpre]⟩

theorem eq10_ok {H : HL} {v w : AV} {xs ys : List (List AV)} (hv : SlIs B H v 7 xs) (hw : SlIs B H w 7 ys) (tx : ∀ (i : Nat) c, xs[i]? = some c → AllT [.int .i64, .str, .str, .str, .int .i64, .int .u64, .int .u64] c) (ty : ∀ (i : Nat) c, ys[i]? = some c → AllT [.int .i64, .str, .str, .str, .int .i64, .int .u64, .int .u64] c) (lx : xs.length ≤ 9223372036854775807) :
    WF B tab (.func 10) [v, w] H fun r H' => H' = H ∧ ∃ b : Bool, r = .bool b ∧ (b = true ↔ xs = ys) := by
  refine WF.fnR g10 rfl ?_
  repeat' (first
    | apply WOps.nil
    | apply WC.seq
    | apply WC.reg
    | apply WC.skip
    | apply WC.ret
    | apply WC.exit
    | (apply WC.condT; rfl)
    | (apply WC.condF; rfl)
    | apply WC.block
    | apply WC.scope
    | apply WC.dreg
    | apply WD.nil
    | (apply WOps.ldG; rfl; rfl; (first | exact Ld.own Tk.head rfl | exact Ld.own (Tk.tail Tk.head) rfl | exact Ld.own (Tk.tail (Tk.tail Tk.head)) rfl); rfl)
    | (apply WOps.st; rfl; rfl; (first | exact Tk.head | exact (Tk.tail Tk.head) | exact (Tk.tail (Tk.tail Tk.head))); rfl; (first | rfl | ((repeat' (first | exact allCell_nil | apply allCell_cons)) <;> (first | rfl | assumption))); rfl)
    | (apply WOps.alc; rfl; intro _)
    | (apply WOps.bx; rfl; rfl; (first | rfl | ((repeat' (first | exact allCell_nil | apply allCell_cons)) <;> (first | rfl | assumption))); intro _)
    | (apply WOps.bsl; rfl; (first | rfl | ((repeat' (first | exact allCell_nil | apply allCell_cons)) <;> (first | rfl | assumption))); intro _)
    | (apply WD.st; rfl; rfl; rfl; (first | exact Tk.head | exact (Tk.tail Tk.head) | exact (Tk.tail (Tk.tail Tk.head))); rfl; (first | rfl | ((repeat' (first | exact allCell_nil | apply allCell_cons)) <;> (first | rfl | assumption))); rfl)
    | (apply WD.alc; rfl; rfl; intro _)
    | (apply WD.bsl; rfl; rfl; (first | rfl | ((repeat' (first | exact allCell_nil | apply allCell_cons)) <;> (first | rfl | assumption))); intro _)
    | (apply WOps.lenS; rfl; rfl; exact hv)
    | (apply WOps.lenS; rfl; rfl; exact hw)
    | (apply WOps.cmp; rfl; rfl; rfl; rfl; intro _ _)
    | (apply WOps.cmpT; rfl; rfl; rfl; rfl; intro _ _)
    | (apply WOps.eqB; rfl; rfl; rfl; intro _ _)
    | (apply WOps.purG; rfl; (intro _; rfl))
    | (apply WOps.skp; rfl)
    | (apply WD.load; rfl; (first | (apply at1; (first | exact rd_ld rfl (Ld.own Tk.head rfl) rfl | exact rd_ld rfl (Ld.own (Tk.tail Tk.head) rfl) rfl | exact rd_ld rfl (Ld.own (Tk.tail (Tk.tail Tk.head)) rfl) rfl); rfl) | (apply at2; (first | exact rd_ld rfl (Ld.own Tk.head rfl) rfl | exact rd_ld rfl (Ld.own (Tk.tail Tk.head) rfl) rfl | exact rd_ld rfl (Ld.own (Tk.tail (Tk.tail Tk.head)) rfl) rfl); repeat' (first | exact same0 | (apply same1; (first | exact rd_ld rfl (Ld.own Tk.head rfl) rfl | exact rd_ld rfl (Ld.own (Tk.tail Tk.head) rfl) rfl | exact rd_ld rfl (Ld.own (Tk.tail (Tk.tail Tk.head)) rfl) rfl); rfl) | (apply same2; (first | exact rd_ld rfl (Ld.own Tk.head rfl) rfl | exact rd_ld rfl (Ld.own (Tk.tail Tk.head) rfl) rfl | exact rd_ld rfl (Ld.own (Tk.tail (Tk.tail Tk.head)) rfl) rfl))))))
    | (apply WD.cmp; rfl; rfl; rfl; rfl; intro _ _)
    | (apply WD.cmpT; rfl; rfl; rfl; rfl; intro _ _)
    | (apply WD.eqB; rfl; rfl; rfl; intro _ _)
    | (apply WD.pur; rfl; (intro _; rfl))
    | (apply WD.skp; rfl)
    | (apply WD.skpL; rfl)
    | (apply WD.skpX; rfl)
    | (apply WOps.ask; rfl; all_goals (intro hb; try subst hb))
    | (apply WC.condA; rfl; all_goals (intro hb; try subst hb))
    | (apply WD.ask; rfl; all_goals (intro hb; try subst hb)))
  · rename_i h
    simp [cmpP] at h
    refine ⟨trivial, List.Sublist.refl _, [_], ⟨_, [], rfl, rfl, rfl⟩, false, rfl, ?_⟩
    simp only [Bool.false_eq_true, false_iff]
    exact fun e => h (by rw [e])
  · rename_i h
    have hl : xs.length = ys.length := by have h0 := h; simp [cmpP] at h0; omega
    refine WC.loop ?_
    obtain ⟨i, hi⟩ : ∃ i : Nat, i = 0 := ⟨0, rfl⟩
    refine WL.le (t' := [(0, v), (1, w), (12, .int .i64 (.ofNat xs.length)), (13, .int .i64 (.ofNat i))]) (by subst hi; exact Sub1.cons rfl (Sub1.cons rfl (Sub1.cons rfl (Sub1.cons rfl (Sub1.nil))))) ?_
    have hle : i ≤ xs.length := by omega
    have hpre : ∀ (j : Nat), j < i → xs[j]? = ys[j]? := by intro j hj; omega
    clear hi
    induction hk : xs.length - i using Nat.strongRecOn generalizing i with | _ k ih => ?_
    apply WL.step
    repeat' (first
      | apply WOps.nil
      | apply WC.seq
      | apply WC.reg
      | apply WC.skip
      | apply WC.ret
      | apply WC.exit
      | (apply WC.condT; rfl)
      | (apply WC.condF; rfl)
      | apply WC.block
      | apply WC.scope
      | apply WC.dreg
      | apply WD.nil
      | (apply WOps.ldG; rfl; rfl; (first | exact Ld.own Tk.head rfl | exact Ld.own (Tk.tail Tk.head) rfl | exact Ld.own (Tk.tail (Tk.tail Tk.head)) rfl); rfl)
      | (apply WOps.st; rfl; rfl; (first | exact Tk.head | exact (Tk.tail Tk.head) | exact (Tk.tail (Tk.tail Tk.head))); rfl; (first | rfl | ((repeat' (first | exact allCell_nil | apply allCell_cons)) <;> (first | rfl | assumption))); rfl)
      | (apply WOps.alc; rfl; intro _)
      | (apply WOps.bx; rfl; rfl; (first | rfl | ((repeat' (first | exact allCell_nil | apply allCell_cons)) <;> (first | rfl | assumption))); intro _)
      | (apply WOps.bsl; rfl; (first | rfl | ((repeat' (first | exact allCell_nil | apply allCell_cons)) <;> (first | rfl | assumption))); intro _)
      | (apply WD.st; rfl; rfl; rfl; (first | exact Tk.head | exact (Tk.tail Tk.head) | exact (Tk.tail (Tk.tail Tk.head))); rfl; (first | rfl | ((repeat' (first | exact allCell_nil | apply allCell_cons)) <;> (first | rfl | assumption))); rfl)
      | (apply WD.alc; rfl; rfl; intro _)
      | (apply WD.bsl; rfl; rfl; (first | rfl | ((repeat' (first | exact allCell_nil | apply allCell_cons)) <;> (first | rfl | assumption))); intro _)
      | (apply WOps.lenS; rfl; rfl; exact hv)
      | (apply WOps.lenS; rfl; rfl; exact hw)
      | (apply WOps.cmp; rfl; rfl; rfl; rfl; intro _ _)
      | (apply WOps.cmpT; rfl; rfl; rfl; rfl; intro _ _)
      | (apply WOps.eqB; rfl; rfl; rfl; intro _ _)
      | (apply WOps.purG; rfl; (intro _; rfl))
      | (apply WOps.skp; rfl)
      | (apply WD.load; rfl; (first | (apply at1; (first | exact rd_ld rfl (Ld.own Tk.head rfl) rfl | exact rd_ld rfl (Ld.own (Tk.tail Tk.head) rfl) rfl | exact rd_ld rfl (Ld.own (Tk.tail (Tk.tail Tk.head)) rfl) rfl); rfl) | (apply at2; (first | exact rd_ld rfl (Ld.own Tk.head rfl) rfl | exact rd_ld rfl (Ld.own (Tk.tail Tk.head) rfl) rfl | exact rd_ld rfl (Ld.own (Tk.tail (Tk.tail Tk.head)) rfl) rfl); repeat' (first | exact same0 | (apply same1; (first | exact rd_ld rfl (Ld.own Tk.head rfl) rfl | exact rd_ld rfl (Ld.own (Tk.tail Tk.head) rfl) rfl | exact rd_ld rfl (Ld.own (Tk.tail (Tk.tail Tk.head)) rfl) rfl); rfl) | (apply same2; (first | exact rd_ld rfl (Ld.own Tk.head rfl) rfl | exact rd_ld rfl (Ld.own (Tk.tail Tk.head) rfl) rfl | exact rd_ld rfl (Ld.own (Tk.tail (Tk.tail Tk.head)) rfl) rfl))))))
      | (apply WD.cmp; rfl; rfl; rfl; rfl; intro _ _)
      | (apply WD.cmpT; rfl; rfl; rfl; rfl; intro _ _)
      | (apply WD.eqB; rfl; rfl; rfl; intro _ _)
      | (apply WD.pur; rfl; (intro _; rfl))
      | (apply WD.skp; rfl)
      | (apply WD.skpL; rfl)
      | (apply WD.skpX; rfl)
      | (apply WOps.ask; rfl; all_goals (intro hb; try subst hb))
      | (apply WC.condA; rfl; all_goals (intro hb; try subst hb))
      | (apply WD.ask; rfl; all_goals (intro hb; try subst hb)))
    · rename_i hlt
      have hlt : i < xs.length := by have h0 := hlt; simp [cmpP] at h0; omega
      obtain ⟨c, hc⟩ : ∃ c, xs[i]? = some c := ⟨xs[i], List.getElem?_eq_getElem hlt⟩
      obtain ⟨d, hd⟩ : ∃ d, ys[i]? = some d := ⟨ys[i]'(by omega), List.getElem?_eq_getElem _⟩
      have tc := tx i c hc
      have td := ty i d hd
      repeat' (first
        | apply WOps.nil
        | apply WC.seq
        | apply WC.reg
        | apply WC.skip
        | apply WC.ret
        | apply WC.exit
        | (apply WC.condT; rfl)
        | (apply WC.condF; rfl)
        | apply WC.block
        | apply WC.scope
        | apply WC.dreg
        | apply WD.nil
        | (apply WOps.ldG; rfl; rfl; (first | exact Ld.own Tk.head rfl | exact Ld.own (Tk.tail Tk.head) rfl | exact Ld.own (Tk.tail (Tk.tail Tk.head)) rfl); rfl)
        | (apply WOps.st; rfl; rfl; (first | exact Tk.head | exact (Tk.tail Tk.head) | exact (Tk.tail (Tk.tail Tk.head))); rfl; (first | rfl | ((repeat' (first | exact allCell_nil | apply allCell_cons)) <;> (first | rfl | assumption))); rfl)
        | (apply WOps.alc; rfl; intro _)
        | (apply WOps.bx; rfl; rfl; (first | rfl | ((repeat' (first | exact allCell_nil | apply allCell_cons)) <;> (first | rfl | assumption))); intro _)
        | (apply WOps.bsl; rfl; (first | rfl | ((repeat' (first | exact allCell_nil | apply allCell_cons)) <;> (first | rfl | assumption))); intro _)
        | (apply WD.st; rfl; rfl; rfl; (first | exact Tk.head | exact (Tk.tail Tk.head) | exact (Tk.tail (Tk.tail Tk.head))); rfl; (first | rfl | ((repeat' (first | exact allCell_nil | apply allCell_cons)) <;> (first | rfl | assumption))); rfl)
        | (apply WD.alc; rfl; rfl; intro _)
        | (apply WD.bsl; rfl; rfl; (first | rfl | ((repeat' (first | exact allCell_nil | apply allCell_cons)) <;> (first | rfl | assumption))); intro _)
        | (apply WD.ixSl; rfl; rfl; rfl; exact hv; exact hc; intro a1 l1)
        | (apply WD.ixSl; rfl; rfl; rfl; exact hw; exact hd; intro a2 l2)
        | (apply WD.load; rfl; (first | (apply at1; exact rd_ld rfl (l1 _ hv) rfl; rfl) | (apply at2; exact rd_ld rfl (l1 _ hv) rfl; repeat' (first | exact same0 | (apply same1; exact rd_ld rfl (l1 _ hv) rfl; rfl) | (apply same2; exact rd_ld rfl (l1 _ hv) rfl)))))
        | (apply WD.load; rfl; (first | (apply at1; exact rd_ld rfl (l2 _ hw) rfl; rfl) | (apply at2; exact rd_ld rfl (l2 _ hw) rfl; repeat' (first | exact same0 | (apply same1; exact rd_ld rfl (l2 _ hw) rfl; rfl) | (apply same2; exact rd_ld rfl (l2 _ hw) rfl)))))
        | (apply WD.eqF [.int .i64, .str, .str, .str, .int .i64, .int .u64, .int .u64]; rfl; rfl; rfl; rfl; rfl; exact tc; exact td; intro b hb)
        | (apply WOps.addN; rfl; rfl; rfl; omega)
        | (apply WOps.cmp; rfl; rfl; rfl; rfl; intro _ _)
        | (apply WOps.cmpT; rfl; rfl; rfl; rfl; intro _ _)
        | (apply WOps.eqB; rfl; rfl; rfl; intro _ _)
        | (apply WOps.purG; rfl; (intro _; rfl))
        | (apply WOps.skp; rfl)
        | (apply WD.load; rfl; (first | (apply at1; (first | exact rd_ld rfl (Ld.own Tk.head rfl) rfl | exact rd_ld rfl (Ld.own (Tk.tail Tk.head) rfl) rfl | exact rd_ld rfl (Ld.own (Tk.tail (Tk.tail Tk.head)) rfl) rfl); rfl) | (apply at2; (first | exact rd_ld rfl (Ld.own Tk.head rfl) rfl | exact rd_ld rfl (Ld.own (Tk.tail Tk.head) rfl) rfl | exact rd_ld rfl (Ld.own (Tk.tail (Tk.tail Tk.head)) rfl) rfl); repeat' (first | exact same0 | (apply same1; (first | exact rd_ld rfl (Ld.own Tk.head rfl) rfl | exact rd_ld rfl (Ld.own (Tk.tail Tk.head) rfl) rfl | exact rd_ld rfl (Ld.own (Tk.tail (Tk.tail Tk.head)) rfl) rfl); rfl) | (apply same2; (first | exact rd_ld rfl (Ld.own Tk.head rfl) rfl | exact rd_ld rfl (Ld.own (Tk.tail Tk.head) rfl) rfl | exact rd_ld rfl (Ld.own (Tk.tail (Tk.tail Tk.head)) rfl) rfl))))))
        | (apply WD.cmp; rfl; rfl; rfl; rfl; intro _ _)
        | (apply WD.cmpT; rfl; rfl; rfl; rfl; intro _ _)
        | (apply WD.eqB; rfl; rfl; rfl; intro _ _)
        | (apply WD.pur; rfl; (intro _; rfl))
        | (apply WD.skp; rfl)
        | (apply WD.skpL; rfl)
        | (apply WD.skpX; rfl)
        | (apply WOps.ask; rfl; all_goals (intro hb; try subst hb))
        | (apply WC.condA; rfl; all_goals (intro hb; try subst hb))
        | (apply WD.ask; rfl; all_goals (intro hb; try subst hb)))
      · rename_i hb
        refine ⟨trivial, List.Sublist.refl _, [_], ⟨_, [], rfl, rfl, rfl⟩, false, rfl, ?_⟩
        simp only [Bool.false_eq_true, false_iff]
        refine ne_of hc hd ?_
        simpa [cmpS] using hb
      · rename_i hb
        have hcd : xs[i]? = ys[i]? := by
          rw [hc, hd]
          simpa [cmpS] using hb
        refine WL.le (t' := [(0, v), (1, w), (12, .int .i64 (.ofNat xs.length)), (13, .int .i64 (.ofNat (i + 1)))]) (Sub1.cons rfl (Sub1.cons rfl (Sub1.cons rfl (Sub1.cons rfl (Sub1.nil))))) (ih _ (by omega) (i + 1) (by omega) ?_ rfl)
        intro j hj
        rcases Nat.lt_or_ge j i with h1 | h1
        · exact hpre j h1
        · obtain rfl : j = i := by omega
          exact hcd
    · rename_i hge
      have hge : xs.length ≤ i := by have h0 := hge; simp [cmpP] at h0; omega
      exact ⟨trivial, List.Sublist.refl _, [_], ⟨_, [], rfl, rfl, rfl⟩, true, rfl, by simp [ext_of hl hge hpre]⟩

theorem eq11_ok {H : HL} {v w : AV} {xs ys : List (List AV)} (hv : SlIs B H v 4 xs) (hw : SlIs B H w 4 ys) (tx : ∀ (i : Nat) c, xs[i]? = some c → AllT [.int .i64, .str, .int .u64, .int .u64] c) (ty : ∀ (i : Nat) c, ys[i]? = some c → AllT [.int .i64, .str, .int .u64, .int .u64] c) (lx : xs.length ≤ 9223372036854775807) :
    WF B tab (.func 11) [v, w] H fun r H' => H' = H ∧ ∃ b : Bool, r = .bool b ∧ (b = true ↔ xs = ys) := by
  refine WF.fnR g11 rfl ?_
  repeat' (first
    | apply WOps.nil
    | apply WC.seq
    | apply WC.reg
    | apply WC.skip
    | apply WC.ret
    | apply WC.exit
    | (apply WC.condT; rfl)
    | (apply WC.condF; rfl)
    | apply WC.block
    | apply WC.scope
    | apply WC.dreg
    | apply WD.nil
    | (apply WOps.ldG; rfl; rfl; (first | exact Ld.own Tk.head rfl | exact Ld.own (Tk.tail Tk.head) rfl | exact Ld.own (Tk.tail (Tk.tail Tk.head)) rfl); rfl)
    | (apply WOps.st; rfl; rfl; (first | exact Tk.head | exact (Tk.tail Tk.head) | exact (Tk.tail (Tk.tail Tk.head))); rfl; (first | rfl | ((repeat' (first | exact allCell_nil | apply allCell_cons)) <;> (first | rfl | assumption))); rfl)
    | (apply WOps.alc; rfl; intro _)
    | (apply WOps.bx; rfl; rfl; (first | rfl | ((repeat' (first | exact allCell_nil | apply allCell_cons)) <;> (first | rfl | assumption))); intro _)
    | (apply WOps.bsl; rfl; (first | rfl | ((repeat' (first | exact allCell_nil | apply allCell_cons)) <;> (first | rfl | assumption))); intro _)
    | (apply WD.st; rfl; rfl; rfl; (first | exact Tk.head | exact (Tk.tail Tk.head) | exact (Tk.tail (Tk.tail Tk.head))); rfl; (first | rfl | ((repeat' (first | exact allCell_nil | apply allCell_cons)) <;> (first | rfl | assumption))); rfl)
    | (apply WD.alc; rfl; rfl; intro _)
    | (apply WD.bsl; rfl; rfl; (first | rfl | ((repeat' (first | exact allCell_nil | apply allCell_cons)) <;> (first | rfl | assumption))); intro _)
    | (apply WOps.lenS; rfl; rfl; exact hv)
    | (apply WOps.lenS; rfl; rfl; exact hw)
    | (apply WOps.cmp; rfl; rfl; rfl; rfl; intro _ _)
    | (apply WOps.cmpT; rfl; rfl; rfl; rfl; intro _ _)
    | (apply WOps.eqB; rfl; rfl; rfl; intro _ _)
    | (apply WOps.purG; rfl; (intro _; rfl))
    | (apply WOps.skp; rfl)
    | (apply WD.load; rfl; (first | (apply at1; (first | exact rd_ld rfl (Ld.own Tk.head rfl) rfl | exact rd_ld rfl (Ld.own (Tk.tail Tk.head) rfl) rfl | exact rd_ld rfl (Ld.own (Tk.tail (Tk.tail Tk.head)) rfl) rfl); rfl) | (apply at2; (first | exact rd_ld rfl (Ld.own Tk.head rfl) rfl | exact rd_ld rfl (Ld.own (Tk.tail Tk.head) rfl) rfl | exact rd_ld rfl (Ld.own (Tk.tail (Tk.tail Tk.head)) rfl) rfl); repeat' (first | exact same0 | (apply same1; (first | exact rd_ld rfl (Ld.own Tk.head rfl) rfl | exact rd_ld rfl (Ld.own (Tk.tail Tk.head) rfl) rfl | exact rd_ld rfl (Ld.own (Tk.tail (Tk.tail Tk.head)) rfl) rfl); rfl) | (apply same2; (first | exact rd_ld rfl (Ld.own Tk.head rfl) rfl | exact rd_ld rfl (Ld.own (Tk.tail Tk.head) rfl) rfl | exact rd_ld rfl (Ld.own (Tk.tail (Tk.tail Tk.head)) rfl) rfl))))))
    | (apply WD.cmp; rfl; rfl; rfl; rfl; intro _ _)
    | (apply WD.cmpT; rfl; rfl; rfl; rfl; intro _ _)
    | (apply WD.eqB; rfl; rfl; rfl; intro _ _)
    | (apply WD.pur; rfl; (intro _; rfl))
    | (apply WD.skp; rfl)
    | (apply WD.skpL; rfl)
    | (apply WD.skpX; rfl)
    | (apply WOps.ask; rfl; all_goals (intro hb; try subst hb))
    | (apply WC.condA; rfl; all_goals (intro hb; try subst hb))
    | (apply WD.ask; rfl; all_goals (intro hb; try subst hb)))
  · rename_i h
    simp [cmpP] at h
    refine ⟨trivial, List.Sublist.refl _, [_], ⟨_, [], rfl, rfl, rfl⟩, false, rfl, ?_⟩
    simp only [Bool.false_eq_true, false_iff]
    exact fun e => h (by rw [e])
  · rename_i h
    have hl : xs.length = ys.length := by have h0 := h; simp [cmpP] at h0; omega
    refine WC.loop ?_
    obtain ⟨i, hi⟩ : ∃ i : Nat, i = 0 := ⟨0, rfl⟩
    refine WL.le (t' := [(0, v), (1, w), (12, .int .i64 (.ofNat xs.length)), (13, .int .i64 (.ofNat i))]) (by subst hi; exact Sub1.cons rfl (Sub1.cons rfl (Sub1.cons rfl (Sub1.cons rfl (Sub1.nil))))) ?_
    have hle : i ≤ xs.length := by omega
    have hpre : ∀ (j : Nat), j < i → xs[j]? = ys[j]? := by intro j hj; omega
    clear hi
    induction hk : xs.length - i using Nat.strongRecOn generalizing i with | _ k ih => ?_
    apply WL.step
    repeat' (first
      | apply WOps.nil
      | apply WC.seq
      | apply WC.reg
      | apply WC.skip
      | apply WC.ret
      | apply WC.exit
      | (apply WC.condT; rfl)
      | (apply WC.condF; rfl)
      | apply WC.block
      | apply WC.scope
      | apply WC.dreg
      | apply WD.nil
      | (apply WOps.ldG; rfl; rfl; (first | exact Ld.own Tk.head rfl | exact Ld.own (Tk.tail Tk.head) rfl | exact Ld.own (Tk.tail (Tk.tail Tk.head)) rfl); rfl)
      | (apply WOps.st; rfl; rfl; (first | exact Tk.head | exact (Tk.tail Tk.head) | exact (Tk.tail (Tk.tail Tk.head))); rfl; (first | rfl | ((repeat' (first | exact allCell_nil | apply allCell_cons)) <;> (first | rfl | assumption))); rfl)
      | (apply WOps.alc; rfl; intro _)
      | (apply WOps.bx; rfl; rfl; (first | rfl | ((repeat' (first | exact allCell_nil | apply allCell_cons)) <;> (first | rfl | assumption))); intro _)
      | (apply WOps.bsl; rfl; (first | rfl | ((repeat' (first | exact allCell_nil | apply allCell_cons)) <;> (first | rfl | assumption))); intro _)
      | (apply WD.st; rfl; rfl; rfl; (first | exact Tk.head | exact (Tk.tail Tk.head) | exact (Tk.tail (Tk.tail Tk.head))); rfl; (first | rfl | ((repeat' (first | exact allCell_nil | apply allCell_cons)) <;> (first | rfl | assumption))); rfl)
      | (apply WD.alc; rfl; rfl; intro _)
      | (apply WD.bsl; rfl; rfl; (first | rfl | ((repeat' (first | exact allCell_nil | apply allCell_cons)) <;> (first | rfl | assumption))); intro _)
      | (apply WOps.lenS; rfl; rfl; exact hv)
      | (apply WOps.lenS; rfl; rfl; exact hw)
      | (apply WOps.cmp; rfl; rfl; rfl; rfl; intro _ _)
      | (apply WOps.cmpT; rfl; rfl; rfl; rfl; intro _ _)
      | (apply WOps.eqB; rfl; rfl; rfl; intro _ _)
      | (apply WOps.purG; rfl; (intro _; rfl))
      | (apply WOps.skp; rfl)
      | (apply WD.load; rfl; (first | (apply at1; (first | exact rd_ld rfl (Ld.own Tk.head rfl) rfl | exact rd_ld rfl (Ld.own (Tk.tail Tk.head) rfl) rfl | exact rd_ld rfl (Ld.own (Tk.tail (Tk.tail Tk.head)) rfl) rfl); rfl) | (apply at2; (first | exact rd_ld rfl (Ld.own Tk.head rfl) rfl | exact rd_ld rfl (Ld.own (Tk.tail Tk.head) rfl) rfl | exact rd_ld rfl (Ld.own (Tk.tail (Tk.tail Tk.head)) rfl) rfl); repeat' (first | exact same0 | (apply same1; (first | exact rd_ld rfl (Ld.own Tk.head rfl) rfl | exact rd_ld rfl (Ld.own (Tk.tail Tk.head) rfl) rfl | exact rd_ld rfl (Ld.own (Tk.tail (Tk.tail Tk.head)) rfl) rfl); rfl) | (apply same2; (first | exact rd_ld rfl (Ld.own Tk.head rfl) rfl | exact rd_ld rfl (Ld.own (Tk.tail Tk.head) rfl) rfl | exact rd_ld rfl (Ld.own (Tk.tail (Tk.tail Tk.head)) rfl) rfl))))))
      | (apply WD.cmp; rfl; rfl; rfl; rfl; intro _ _)
      | (apply WD.cmpT; rfl; rfl; rfl; rfl; intro _ _)
      | (apply WD.eqB; rfl; rfl; rfl; intro _ _)
      | (apply WD.pur; rfl; (intro _; rfl))
      | (apply WD.skp; rfl)
      | (apply WD.skpL; rfl)
      | (apply WD.skpX; rfl)
      | (apply WOps.ask; rfl; all_goals (intro hb; try subst hb))
      | (apply WC.condA; rfl; all_goals (intro hb; try subst hb))
      | (apply WD.ask; rfl; all_goals (intro hb; try subst hb)))
    · rename_i hlt
      have hlt : i < xs.length := by have h0 := hlt; simp [cmpP] at h0; omega
      obtain ⟨c, hc⟩ : ∃ c, xs[i]? = some c := ⟨xs[i], List.getElem?_eq_getElem hlt⟩
      obtain ⟨d, hd⟩ : ∃ d, ys[i]? = some d := ⟨ys[i]'(by omega), List.getElem?_eq_getElem _⟩
      have tc := tx i c hc
      have td := ty i d hd
      repeat' (first
        | apply WOps.nil
        | apply WC.seq
        | apply WC.reg
        | apply WC.skip
        | apply WC.ret
        | apply WC.exit
        | (apply WC.condT; rfl)
        | (apply WC.condF; rfl)
        | apply WC.block
        | apply WC.scope
        | apply WC.dreg
        | apply WD.nil
        | (apply WOps.ldG; rfl; rfl; (first | exact Ld.own Tk.head rfl | exact Ld.own (Tk.tail Tk.head) rfl | exact Ld.own (Tk.tail (Tk.tail Tk.head)) rfl); rfl)
        | (apply WOps.st; rfl; rfl; (first | exact Tk.head | exact (Tk.tail Tk.head) | exact (Tk.tail (Tk.tail Tk.head))); rfl; (first | rfl | ((repeat' (first | exact allCell_nil | apply allCell_cons)) <;> (first | rfl | assumption))); rfl)
        | (apply WOps.alc; rfl; intro _)
        | (apply WOps.bx; rfl; rfl; (first | rfl | ((repeat' (first | exact allCell_nil | apply allCell_cons)) <;> (first | rfl | assumption))); intro _)
        | (apply WOps.bsl; rfl; (first | rfl | ((repeat' (first | exact allCell_nil | apply allCell_cons)) <;> (first | rfl | assumption))); intro _)
        | (apply WD.st; rfl; rfl; rfl; (first | exact Tk.head | exact (Tk.tail Tk.head) | exact (Tk.tail (Tk.tail Tk.head))); rfl; (first | rfl | ((repeat' (first | exact allCell_nil | apply allCell_cons)) <;> (first | rfl | assumption))); rfl)
        | (apply WD.alc; rfl; rfl; intro _)
        | (apply WD.bsl; rfl; rfl; (first | rfl | ((repeat' (first | exact allCell_nil | apply allCell_cons)) <;> (first | rfl | assumption))); intro _)
        | (apply WD.ixSl; rfl; rfl; rfl; exact hv; exact hc; intro a1 l1)
        | (apply WD.ixSl; rfl; rfl; rfl; exact hw; exact hd; intro a2 l2)
        | (apply WD.load; rfl; (first | (apply at1; exact rd_ld rfl (l1 _ hv) rfl; rfl) | (apply at2; exact rd_ld rfl (l1 _ hv) rfl; repeat' (first | exact same0 | (apply same1; exact rd_ld rfl (l1 _ hv) rfl; rfl) | (apply same2; exact rd_ld rfl (l1 _ hv) rfl)))))
        | (apply WD.load; rfl; (first | (apply at1; exact rd_ld rfl (l2 _ hw) rfl; rfl) | (apply at2; exact rd_ld rfl (l2 _ hw) rfl; repeat' (first | exact same0 | (apply same1; exact rd_ld rfl (l2 _ hw) rfl; rfl) | (apply same2; exact rd_ld rfl (l2 _ hw) rfl)))))
        | (apply WD.eqF [.int .i64, .str, .int .u64, .int .u64]; rfl; rfl; rfl; rfl; rfl; exact tc; exact td; intro b hb)
        | (apply WOps.addN; rfl; rfl; rfl; omega)
        | (apply WOps.cmp; rfl; rfl; rfl; rfl; intro _ _)
        | (apply WOps.cmpT; rfl; rfl; rfl; rfl; intro _ _)
        | (apply WOps.eqB; rfl; rfl; rfl; intro _ _)
        | (apply WOps.purG; rfl; (intro _; rfl))
        | (apply WOps.skp; rfl)
        | (apply WD.load; rfl; (first | (apply at1; (first | exact rd_ld rfl (Ld.own Tk.head rfl) rfl | exact rd_ld rfl (Ld.own (Tk.tail Tk.head) rfl) rfl | exact rd_ld rfl (Ld.own (Tk.tail (Tk.tail Tk.head)) rfl) rfl); rfl) | (apply at2; (first | exact rd_ld rfl (Ld.own Tk.head rfl) rfl | exact rd_ld rfl (Ld.own (Tk.tail Tk.head) rfl) rfl | exact rd_ld rfl (Ld.own (Tk.tail (Tk.tail Tk.head)) rfl) rfl); repeat' (first | exact same0 | (apply same1; (first | exact rd_ld rfl (Ld.own Tk.head rfl) rfl | exact rd_ld rfl (Ld.own (Tk.tail Tk.head) rfl) rfl | exact rd_ld rfl (Ld.own (Tk.tail (Tk.tail Tk.head)) rfl) rfl); rfl) | (apply same2; (first | exact rd_ld rfl (Ld.own Tk.head rfl) rfl | exact rd_ld rfl (Ld.own (Tk.tail Tk.head) rfl) rfl | exact rd_ld rfl (Ld.own (Tk.tail (Tk.tail Tk.head)) rfl) rfl))))))
        | (apply WD.cmp; rfl; rfl; rfl; rfl; intro _ _)
        | (apply WD.cmpT; rfl; rfl; rfl; rfl; intro _ _)
        | (apply WD.eqB; rfl; rfl; rfl; intro _ _)
        | (apply WD.pur; rfl; (intro _; rfl))
        | (apply WD.skp; rfl)
        | (apply WD.skpL; rfl)
        | (apply WD.skpX; rfl)
        | (apply WOps.ask; rfl; all_goals (intro hb; try subst hb))
        | (apply WC.condA; rfl; all_goals (intro hb; try subst hb))
        | (apply WD.ask; rfl; all_goals (intro hb; try subst hb)))
      · rename_i hb
        refine ⟨trivial, List.Sublist.refl _, [_], ⟨_, [], rfl, rfl, rfl⟩, false, rfl, ?_⟩
        simp only [Bool.false_eq_true, false_iff]
        refine ne_of hc hd ?_
        simpa [cmpS] using hb
      · rename_i hb
        have hcd : xs[i]? = ys[i]? := by
          rw [hc, hd]
          simpa [cmpS] using hb
        refine WL.le (t' := [(0, v), (1, w), (12, .int .i64 (.ofNat xs.length)), (13, .int .i64 (.ofNat (i + 1)))]) (Sub1.cons rfl (Sub1.cons rfl (Sub1.cons rfl (Sub1.cons rfl (Sub1.nil))))) (ih _ (by omega) (i + 1) (by omega) ?_ rfl)
        intro j hj
        rcases Nat.lt_or_ge j i with h1 | h1
        · exact hpre j h1
        · obtain rfl : j = i := by omega
          exact hcd
    · rename_i hge
      have hge : xs.length ≤ i := by have h0 := hge; simp [cmpP] at h0; omega
      exact ⟨trivial, List.Sublist.refl _, [_], ⟨_, [], rfl, rfl, rfl⟩, true, rfl, by simp [ext_of hl hge hpre]⟩

theorem eq13_ok {H : HL} {v w : AV} {xs ys : List (List AV)} (hv : SlIs B H v 6 xs) (hw : SlIs B H w 6 ys) (tx : ∀ (i : Nat) c, xs[i]? = some c → AllT [.str, .str, .int .u64, .int .u64, .int .u64, .int .u64] c) (ty : ∀ (i : Nat) c, ys[i]? = some c → AllT [.str, .str, .int .u64, .int .u64, .int .u64, .int .u64] c) (lx : xs.length ≤ 9223372036854775807) :
    WF B tab (.func 13) [v, w] H fun r H' => H' = H ∧ ∃ b : Bool, r = .bool b ∧ (b = true ↔ xs = ys) := by
  refine WF.fnR g13 rfl ?_
  repeat' (first
    | apply WOps.nil
    | apply WC.seq
    | apply WC.reg
    | apply WC.skip
    | apply WC.ret
    | apply WC.exit
    | (apply WC.condT; rfl)
    | (apply WC.condF; rfl)
    | apply WC.block
    | apply WC.scope
    | apply WC.dreg
    | apply WD.nil
    | (apply WOps.ldG; rfl; rfl; (first | exact Ld.own Tk.head rfl | exact Ld.own (Tk.tail Tk.head) rfl | exact Ld.own (Tk.tail (Tk.tail Tk.head)) rfl); rfl)
    | (apply WOps.st; rfl; rfl; (first | exact Tk.head | exact (Tk.tail Tk.head) | exact (Tk.tail (Tk.tail Tk.head))); rfl; (first | rfl | ((repeat' (first | exact allCell_nil | apply allCell_cons)) <;> (first | rfl | assumption))); rfl)
    | (apply WOps.alc; rfl; intro _)
    | (apply WOps.bx; rfl; rfl; (first | rfl | ((repeat' (first | exact allCell_nil | apply allCell_cons)) <;> (first | rfl | assumption))); intro _)
    | (apply WOps.bsl; rfl; (first | rfl | ((repeat' (first | exact allCell_nil | apply allCell_cons)) <;> (first | rfl | assumption))); intro _)
    | (apply WD.st; rfl; rfl; rfl; (first | exact Tk.head | exact (Tk.tail Tk.head) | exact (Tk.tail (Tk.tail Tk.head))); rfl; (first | rfl | ((repeat' (first | exact allCell_nil | apply allCell_cons)) <;> (first | rfl | assumption))); rfl)
    | (apply WD.alc; rfl; rfl; intro _)
    | (apply WD.bsl; rfl; rfl; (first | rfl | ((repeat' (first | exact allCell_nil | apply allCell_cons)) <;> (first | rfl | assumption))); intro _)
    | (apply WOps.lenS; rfl; rfl; exact hv)
    | (apply WOps.lenS; rfl; rfl; exact hw)
    | (apply WOps.cmp; rfl; rfl; rfl; rfl; intro _ _)
    | (apply WOps.cmpT; rfl; rfl; rfl; rfl; intro _ _)
    | (apply WOps.eqB; rfl; rfl; rfl; intro _ _)
    | (apply WOps.purG; rfl; (intro _; rfl))
    | (apply WOps.skp; rfl)
    | (apply WD.load; rfl; (first | (apply at1; (first | exact rd_ld rfl (Ld.own Tk.head rfl) rfl | exact rd_ld rfl (Ld.own (Tk.tail Tk.head) rfl) rfl | exact rd_ld rfl (Ld.own (Tk.tail (Tk.tail Tk.head)) rfl) rfl); rfl) | (apply at2; (first | exact rd_ld rfl (Ld.own Tk.head rfl) rfl | exact rd_ld rfl (Ld.own (Tk.tail Tk.head) rfl) rfl | exact rd_ld rfl (Ld.own (Tk.tail (Tk.tail Tk.head)) rfl) rfl); repeat' (first | exact same0 | (apply same1; (first | exact rd_ld rfl (Ld.own Tk.head rfl) rfl | exact rd_ld rfl (Ld.own (Tk.tail Tk.head) rfl) rfl | exact rd_ld rfl (Ld.own (Tk.tail (Tk.tail Tk.head)) rfl) rfl); rfl) | (apply same2; (first | exact rd_ld rfl (Ld.own Tk.head rfl) rfl | exact rd_ld rfl (Ld.own (Tk.tail Tk.head) rfl) rfl | exact rd_ld rfl (Ld.own (Tk.tail (Tk.tail Tk.head)) rfl) rfl))))))
    | (apply WD.cmp; rfl; rfl; rfl; rfl; intro _ _)
    | (apply WD.cmpT; rfl; rfl; rfl; rfl; intro _ _)
    | (apply WD.eqB; rfl; rfl; rfl; intro _ _)
    | (apply WD.pur; rfl; (intro _; rfl))
    | (apply WD.skp; rfl)
    | (apply WD.skpL; rfl)
    | (apply WD.skpX; rfl)
    | (apply WOps.ask; rfl; all_goals (intro hb; try subst hb))
    | (apply WC.condA; rfl; all_goals (intro hb; try subst hb))
    | (apply WD.ask; rfl; all_goals (intro hb; try subst hb)))
  · rename_i h
    simp [cmpP] at h
    refine ⟨trivial, List.Sublist.refl _, [_], ⟨_, [], rfl, rfl, rfl⟩, false, rfl, ?_⟩
    simp only [Bool.false_eq_true, false_iff]
    exact fun e => h (by rw [e])
  · rename_i h
    have hl : xs.length = ys.length := by have h0 := h; simp [cmpP] at h0; omega
    refine WC.loop ?_
    obtain ⟨i, hi⟩ : ∃ i : Nat, i = 0 := ⟨0, rfl⟩
    refine WL.le (t' := [(0, v), (1, w), (12, .int .i64 (.ofNat xs.length)), (13, .int .i64 (.ofNat i))]) (by subst hi; exact Sub1.cons rfl (Sub1.cons rfl (Sub1.cons rfl (Sub1.cons rfl (Sub1.nil))))) ?_
    have hle : i ≤ xs.length := by omega
    have hpre : ∀ (j : Nat), j < i → xs[j]? = ys[j]? := by intro j hj; omega
    clear hi
    induction hk : xs.length - i using Nat.strongRecOn generalizing i with | _ k ih => ?_
    apply WL.step
    repeat' (first
      | apply WOps.nil
      | apply WC.seq
      | apply WC.reg
      | apply WC.skip
      | apply WC.ret
      | apply WC.exit
      | (apply WC.condT; rfl)
      | (apply WC.condF; rfl)
      | apply WC.block
      | apply WC.scope
      | apply WC.dreg
      | apply WD.nil
      | (apply WOps.ldG; rfl; rfl; (first | exact Ld.own Tk.head rfl | exact Ld.own (Tk.tail Tk.head) rfl | exact Ld.own (Tk.tail (Tk.tail Tk.head)) rfl); rfl)
      | (apply WOps.st; rfl; rfl; (first | exact Tk.head | exact (Tk.tail Tk.head) | exact (Tk.tail (Tk.tail Tk.head))); rfl; (first | rfl | ((repeat' (first | exact allCell_nil | apply allCell_cons)) <;> (first | rfl | assumption))); rfl)
      | (apply WOps.alc; rfl; intro _)
      | (apply WOps.bx; rfl; rfl; (first | rfl | ((repeat' (first | exact allCell_nil | apply allCell_cons)) <;> (first | rfl | assumption))); intro _)
      | (apply WOps.bsl; rfl; (first | rfl | ((repeat' (first | exact allCell_nil | apply allCell_cons)) <;> (first | rfl | assumption))); intro _)
      | (apply WD.st; rfl; rfl; rfl; (first | exact Tk.head | exact (Tk.tail Tk.head) | exact (Tk.tail (Tk.tail Tk.head))); rfl; (first | rfl | ((repeat' (first | exact allCell_nil | apply allCell_cons)) <;> (first | rfl | assumption))); rfl)
      | (apply WD.alc; rfl; rfl; intro _)
      | (apply WD.bsl; rfl; rfl; (first | rfl | ((repeat' (first | exact allCell_nil | apply allCell_cons)) <;> (first | rfl | assumption))); intro _)
      | (apply WOps.lenS; rfl; rfl; exact hv)
      | (apply WOps.lenS; rfl; rfl; exact hw)
      | (apply WOps.cmp; rfl; rfl; rfl; rfl; intro _ _)
      | (apply WOps.cmpT; rfl; rfl; rfl; rfl; intro _ _)
      | (apply WOps.eqB; rfl; rfl; rfl; intro _ _)
      | (apply WOps.purG; rfl; (intro _; rfl))
      | (apply WOps.skp; rfl)
      | (apply WD.load; rfl; (first | (apply at1; (first | exact rd_ld rfl (Ld.own Tk.head rfl) rfl | exact rd_ld rfl (Ld.own (Tk.tail Tk.head) rfl) rfl | exact rd_ld rfl (Ld.own (Tk.tail (Tk.tail Tk.head)) rfl) rfl); rfl) | (apply at2; (first | exact rd_ld rfl (Ld.own Tk.head rfl) rfl | exact rd_ld rfl (Ld.own (Tk.tail Tk.head) rfl) rfl | exact rd_ld rfl (Ld.own (Tk.tail (Tk.tail Tk.head)) rfl) rfl); repeat' (first | exact same0 | (apply same1; (first | exact rd_ld rfl (Ld.own Tk.head rfl) rfl | exact rd_ld rfl (Ld.own (Tk.tail Tk.head) rfl) rfl | exact rd_ld rfl (Ld.own (Tk.tail (Tk.tail Tk.head)) rfl) rfl); rfl) | (apply same2; (first | exact rd_ld rfl (Ld.own Tk.head rfl) rfl | exact rd_ld rfl (Ld.own (Tk.tail Tk.head) rfl) rfl | exact rd_ld rfl (Ld.own (Tk.tail (Tk.tail Tk.head)) rfl) rfl))))))
      | (apply WD.cmp; rfl; rfl; rfl; rfl; intro _ _)
      | (apply WD.cmpT; rfl; rfl; rfl; rfl; intro _ _)
      | (apply WD.eqB; rfl; rfl; rfl; intro _ _)
      | (apply WD.pur; rfl; (intro _; rfl))
      | (apply WD.skp; rfl)
      | (apply WD.skpL; rfl)
      | (apply WD.skpX; rfl)
      | (apply WOps.ask; rfl; all_goals (intro hb; try subst hb))
      | (apply WC.condA; rfl; all_goals (intro hb; try subst hb))
      | (apply WD.ask; rfl; all_goals (intro hb; try subst hb)))
    · rename_i hlt
      have hlt : i < xs.length := by have h0 := hlt; simp [cmpP] at h0; omega
      obtain ⟨c, hc⟩ : ∃ c, xs[i]? = some c := ⟨xs[i], List.getElem?_eq_getElem hlt⟩
      obtain ⟨d, hd⟩ : ∃ d, ys[i]? = some d := ⟨ys[i]'(by omega), List.getElem?_eq_getElem _⟩
      have tc := tx i c hc
      have td := ty i d hd
      repeat' (first
        | apply WOps.nil
        | apply WC.seq
        | apply WC.reg
        | apply WC.skip
        | apply WC.ret
        | apply WC.exit
        | (apply WC.condT; rfl)
        | (apply WC.condF; rfl)
        | apply WC.block
        | apply WC.scope
        | apply WC.dreg
        | apply WD.nil
        | (apply WOps.ldG; rfl; rfl; (first | exact Ld.own Tk.head rfl | exact Ld.own (Tk.tail Tk.head) rfl | exact Ld.own (Tk.tail (Tk.tail Tk.head)) rfl); rfl)
        | (apply WOps.st; rfl; rfl; (first | exact Tk.head | exact (Tk.tail Tk.head) | exact (Tk.tail (Tk.tail Tk.head))); rfl; (first | rfl | ((repeat' (first | exact allCell_nil | apply allCell_cons)) <;> (first | rfl | assumption))); rfl)
        | (apply WOps.alc; rfl; intro _)
        | (apply WOps.bx; rfl; rfl; (first | rfl | ((repeat' (first | exact allCell_nil | apply allCell_cons)) <;> (first | rfl | assumption))); intro _)
        | (apply WOps.bsl; rfl; (first | rfl | ((repeat' (first | exact allCell_nil | apply allCell_cons)) <;> (first | rfl | assumption))); intro _)
        | (apply WD.st; rfl; rfl; rfl; (first | exact Tk.head | exact (Tk.tail Tk.head) | exact (Tk.tail (Tk.tail Tk.head))); rfl; (first | rfl | ((repeat' (first | exact allCell_nil | apply allCell_cons)) <;> (first | rfl | assumption))); rfl)
        | (apply WD.alc; rfl; rfl; intro _)
        | (apply WD.bsl; rfl; rfl; (first | rfl | ((repeat' (first | exact allCell_nil | apply allCell_cons)) <;> (first | rfl | assumption))); intro _)
        | (apply WD.ixSl; rfl; rfl; rfl; exact hv; exact hc; intro a1 l1)
        | (apply WD.ixSl; rfl; rfl; rfl; exact hw; exact hd; intro a2 l2)
        | (apply WD.load; rfl; (first | (apply at1; exact rd_ld rfl (l1 _ hv) rfl; rfl) | (apply at2; exact rd_ld rfl (l1 _ hv) rfl; repeat' (first | exact same0 | (apply same1; exact rd_ld rfl (l1 _ hv) rfl; rfl) | (apply same2; exact rd_ld rfl (l1 _ hv) rfl)))))
        | (apply WD.load; rfl; (first | (apply at1; exact rd_ld rfl (l2 _ hw) rfl; rfl) | (apply at2; exact rd_ld rfl (l2 _ hw) rfl; repeat' (first | exact same0 | (apply same1; exact rd_ld rfl (l2 _ hw) rfl; rfl) | (apply same2; exact rd_ld rfl (l2 _ hw) rfl)))))
        | (apply WD.eqF [.str, .str, .int .u64, .int .u64, .int .u64, .int .u64]; rfl; rfl; rfl; rfl; rfl; exact tc; exact td; intro b hb)
        | (apply WOps.addN; rfl; rfl; rfl; omega)
        | (apply WOps.cmp; rfl; rfl; rfl; rfl; intro _ _)
        | (apply WOps.cmpT; rfl; rfl; rfl; rfl; intro _ _)
        | (apply WOps.eqB; rfl; rfl; rfl; intro _ _)
        | (apply WOps.purG; rfl; (intro _; rfl))
        | (apply WOps.skp; rfl)
        | (apply WD.load; rfl; (first | (apply at1; (first | exact rd_ld rfl (Ld.own Tk.head rfl) rfl | exact rd_ld rfl (Ld.own (Tk.tail Tk.head) rfl) rfl | exact rd_ld rfl (Ld.own (Tk.tail (Tk.tail Tk.head)) rfl) rfl); rfl) | (apply at2; (first | exact rd_ld rfl (Ld.own Tk.head rfl) rfl | exact rd_ld rfl (Ld.own (Tk.tail Tk.head) rfl) rfl | exact rd_ld rfl (Ld.own (Tk.tail (Tk.tail Tk.head)) rfl) rfl); repeat' (first | exact same0 | (apply same1; (first | exact rd_ld rfl (Ld.own Tk.head rfl) rfl | exact rd_ld rfl (Ld.own (Tk.tail Tk.head) rfl) rfl | exact rd_ld rfl (Ld.own (Tk.tail (Tk.tail Tk.head)) rfl) rfl); rfl) | (apply same2; (first | exact rd_ld rfl (Ld.own Tk.head rfl) rfl | exact rd_ld rfl (Ld.own (Tk.tail Tk.head) rfl) rfl | exact rd_ld rfl (Ld.own (Tk.tail (Tk.tail Tk.head)) rfl) rfl))))))
        | (apply WD.cmp; rfl; rfl; rfl; rfl; intro _ _)
        | (apply WD.cmpT; rfl; rfl; rfl; rfl; intro _ _)
        | (apply WD.eqB; rfl; rfl; rfl; intro _ _)
        | (apply WD.pur; rfl; (intro _; rfl))
        | (apply WD.skp; rfl)
        | (apply WD.skpL; rfl)
        | (apply WD.skpX; rfl)
        | (apply WOps.ask; rfl; all_goals (intro hb; try subst hb))
        | (apply WC.condA; rfl; all_goals (intro hb; try subst hb))
        | (apply WD.ask; rfl; all_goals (intro hb; try subst hb)))
      · rename_i hb
        refine ⟨trivial, List.Sublist.refl _, [_], ⟨_, [], rfl, rfl, rfl⟩, false, rfl, ?_⟩
        simp only [Bool.false_eq_true, false_iff]
        refine ne_of hc hd ?_
        simpa [cmpS] using hb
      · rename_i hb
        have hcd : xs[i]? = ys[i]? := by
          rw [hc, hd]
          simpa [cmpS] using hb
        refine WL.le (t' := [(0, v), (1, w), (12, .int .i64 (.ofNat xs.length)), (13, .int .i64 (.ofNat (i + 1)))]) (Sub1.cons rfl (Sub1.cons rfl (Sub1.cons rfl (Sub1.cons rfl (Sub1.nil))))) (ih _ (by omega) (i + 1) (by omega) ?_ rfl)
        intro j hj
        rcases Nat.lt_or_ge j i with h1 | h1
        · exact hpre j h1
        · obtain rfl : j = i := by omega
          exact hcd
    · rename_i hge
      have hge : xs.length ≤ i := by have h0 := hge; simp [cmpP] at h0; omega
      exact ⟨trivial, List.Sublist.refl _, [_], ⟨_, [], rfl, rfl, rfl⟩, true, rfl, by simp [ext_of hl hge hpre]⟩

theorem eq14_ok {H : HL} {v w : AV} {xs ys : List (List AV)} (hv : SlIs B H v 5 xs) (hw : SlIs B H w 5 ys) (tx : ∀ (i : Nat) c, xs[i]? = some c → AllT [.str, .str, .bool, .int .u64, .int .u64] c) (ty : ∀ (i : Nat) c, ys[i]? = some c → AllT [.str, .str, .bool, .int .u64, .int .u64] c) (lx : xs.length ≤ 9223372036854775807) :
    WF B tab (.func 14) [v, w] H fun r H' => H' = H ∧ ∃ b : Bool, r = .bool b ∧ (b = true ↔ xs = ys) := by
  refine WF.fnR g14 rfl ?_
  repeat' (first
    | apply WOps.nil
    | apply WC.seq
    | apply WC.reg
    | apply WC.skip
    | apply WC.ret
    | apply WC.exit
    | (apply WC.condT; rfl)
    | (apply WC.condF; rfl)
    | apply WC.block
    | apply WC.scope
    | apply WC.dreg
    | apply WD.nil
    | (apply WOps.ldG; rfl; rfl; (first | exact Ld.own Tk.head rfl | exact Ld.own (Tk.tail Tk.head) rfl | exact Ld.own (Tk.tail (Tk.tail Tk.head)) rfl); rfl)
    | (apply WOps.st; rfl; rfl; (first | exact Tk.head | exact (Tk.tail Tk.head) | exact (Tk.tail (Tk.tail Tk.head))); rfl; (first | rfl | ((repeat' (first | exact allCell_nil | apply allCell_cons)) <;> (first | rfl | assumption))); rfl)
    | (apply WOps.alc; rfl; intro _)
    | (apply WOps.bx; rfl; rfl; (first | rfl | ((repeat' (first | exact allCell_nil | apply allCell_cons)) <;> (first | rfl | assumption))); intro _)
    | (apply WOps.bsl; rfl; (first | rfl | ((repeat' (first | exact allCell_nil | apply allCell_cons)) <;> (first | rfl | assumption))); intro _)
    | (apply WD.st; rfl; rfl; rfl; (first | exact Tk.head | exact (Tk.tail Tk.head) | exact (Tk.tail (Tk.tail Tk.head))); rfl; (first | rfl | ((repeat' (first | exact allCell_nil | apply allCell_cons)) <;> (first | rfl | assumption))); rfl)
    | (apply WD.alc; rfl; rfl; intro _)
    | (apply WD.bsl; rfl; rfl; (first | rfl | ((repeat' (first | exact allCell_nil | apply allCell_cons)) <;> (first | rfl | assumption))); intro _)
    | (apply WOps.lenS; rfl; rfl; exact hv)
    | (apply WOps.lenS; rfl; rfl; exact hw)
    | (apply WOps.cmp; rfl; rfl; rfl; rfl; intro _ _)
    | (apply WOps.cmpT; rfl; rfl; rfl; rfl; intro _ _)
    | (apply WOps.eqB; rfl; rfl; rfl; intro _ _)
    | (apply WOps.purG; rfl; (intro _; rfl))
    | (apply WOps.skp; rfl)
    | (apply WD.load; rfl; (first | (apply at1; (first | exact rd_ld rfl (Ld.own Tk.head rfl) rfl | exact rd_ld rfl (Ld.own (Tk.tail Tk.head) rfl) rfl | exact rd_ld rfl (Ld.own (Tk.tail (Tk.tail Tk.head)) rfl) rfl); rfl) | (apply at2; (first | exact rd_ld rfl (Ld.own Tk.head rfl) rfl | exact rd_ld rfl (Ld.own (Tk.tail Tk.head) rfl) rfl | exact rd_ld rfl (Ld.own (Tk.tail (Tk.tail Tk.head)) rfl) rfl); repeat' (first | exact same0 | (apply same1; (first | exact rd_ld rfl (Ld.own Tk.head rfl) rfl | exact rd_ld rfl (Ld.own (Tk.tail Tk.head) rfl) rfl | exact rd_ld rfl (Ld.own (Tk.tail (Tk.tail Tk.head)) rfl) rfl); rfl) | (apply same2; (first | exact rd_ld rfl (Ld.own Tk.head rfl) rfl | exact rd_ld rfl (Ld.own (Tk.tail Tk.head) rfl) rfl | exact rd_ld rfl (Ld.own (Tk.tail (Tk.tail Tk.head)) rfl) rfl))))))
    | (apply WD.cmp; rfl; rfl; rfl; rfl; intro _ _)
    | (apply WD.cmpT; rfl; rfl; rfl; rfl; intro _ _)
    | (apply WD.eqB; rfl; rfl; rfl; intro _ _)
    | (apply WD.pur; rfl; (intro _; rfl))
    | (apply WD.skp; rfl)
    | (apply WD.skpL; rfl)
    | (apply WD.skpX; rfl)
    | (apply WOps.ask; rfl; all_goals (intro hb; try subst hb))
    | (apply WC.condA; rfl; all_goals (intro hb; try subst hb))
    | (apply WD.ask; rfl; all_goals (intro hb; try subst hb)))
  · rename_i h
    simp [cmpP] at h
    refine ⟨trivial, List.Sublist.refl _, [_], ⟨_, [], rfl, rfl, rfl⟩, false, rfl, ?_⟩
    simp only [Bool.false_eq_true, false_iff]
    exact fun e => h (by rw [e])
  · rename_i h
    have hl : xs.length = ys.length := by have h0 := h; simp [cmpP] at h0; omega
    refine WC.loop ?_
    obtain ⟨i, hi⟩ : ∃ i : Nat, i = 0 := ⟨0, rfl⟩
    refine WL.le (t' := [(0, v), (1, w), (12, .int .i64 (.ofNat xs.length)), (13, .int .i64 (.ofNat i))]) (by subst hi; exact Sub1.cons rfl (Sub1.cons rfl (Sub1.cons rfl (Sub1.cons rfl (Sub1.nil))))) ?_
    have hle : i ≤ xs.length := by omega
    have hpre : ∀ (j : Nat), j < i → xs[j]? = ys[j]? := by intro j hj; omega
    clear hi
    induction hk : xs.length - i using Nat.strongRecOn generalizing i with | _ k ih => ?_
    apply WL.step
    repeat' (first
      | apply WOps.nil
      | apply WC.seq
      | apply WC.reg
      | apply WC.skip
      | apply WC.ret
      | apply WC.exit
      | (apply WC.condT; rfl)
      | (apply WC.condF; rfl)
      | apply WC.block
      | apply WC.scope
      | apply WC.dreg
      | apply WD.nil
      | (apply WOps.ldG; rfl; rfl; (first | exact Ld.own Tk.head rfl | exact Ld.own (Tk.tail Tk.head) rfl | exact Ld.own (Tk.tail (Tk.tail Tk.head)) rfl); rfl)
      | (apply WOps.st; rfl; rfl; (first | exact Tk.head | exact (Tk.tail Tk.head) | exact (Tk.tail (Tk.tail Tk.head))); rfl; (first | rfl | ((repeat' (first | exact allCell_nil | apply allCell_cons)) <;> (first | rfl | assumption))); rfl)
      | (apply WOps.alc; rfl; intro _)
      | (apply WOps.bx; rfl; rfl; (first | rfl | ((repeat' (first | exact allCell_nil | apply allCell_cons)) <;> (first | rfl | assumption))); intro _)
      | (apply WOps.bsl; rfl; (first | rfl | ((repeat' (first | exact allCell_nil | apply allCell_cons)) <;> (first | rfl | assumption))); intro _)
      | (apply WD.st; rfl; rfl; rfl; (first | exact Tk.head | exact (Tk.tail Tk.head) | exact (Tk.tail (Tk.tail Tk.head))); rfl; (first | rfl | ((repeat' (first | exact allCell_nil | apply allCell_cons)) <;> (first | rfl | assumption))); rfl)
      | (apply WD.alc; rfl; rfl; intro _)
      | (apply WD.bsl; rfl; rfl; (first | rfl | ((repeat' (first | exact allCell_nil | apply allCell_cons)) <;> (first | rfl | assumption))); intro _)
      | (apply WOps.lenS; rfl; rfl; exact hv)
      | (apply WOps.lenS; rfl; rfl; exact hw)
      | (apply WOps.cmp; rfl; rfl; rfl; rfl; intro _ _)
      | (apply WOps.cmpT; rfl; rfl; rfl; rfl; intro _ _)
      | (apply WOps.eqB; rfl; rfl; rfl; intro _ _)
      | (apply WOps.purG; rfl; (intro _; rfl))
      | (apply WOps.skp; rfl)
      | (apply WD.load; rfl; (first | (apply at1; (first | exact rd_ld rfl (Ld.own Tk.head rfl) rfl | exact rd_ld rfl (Ld.own (Tk.tail Tk.head) rfl) rfl | exact rd_ld rfl (Ld.own (Tk.tail (Tk.tail Tk.head)) rfl) rfl); rfl) | (apply at2; (first | exact rd_ld rfl (Ld.own Tk.head rfl) rfl | exact rd_ld rfl (Ld.own (Tk.tail Tk.head) rfl) rfl | exact rd_ld rfl (Ld.own (Tk.tail (Tk.tail Tk.head)) rfl) rfl); repeat' (first | exact same0 | (apply same1; (first | exact rd_ld rfl (Ld.own Tk.head rfl) rfl | exact rd_ld rfl (Ld.own (Tk.tail Tk.head) rfl) rfl | exact rd_ld rfl (Ld.own (Tk.tail (Tk.tail Tk.head)) rfl) rfl); rfl) | (apply same2; (first | exact rd_ld rfl (Ld.own Tk.head rfl) rfl | exact rd_ld rfl (Ld.own (Tk.tail Tk.head) rfl) rfl | exact rd_ld rfl (Ld.own (Tk.tail (Tk.tail Tk.head)) rfl) rfl))))))
      | (apply WD.cmp; rfl; rfl; rfl; rfl; intro _ _)
      | (apply WD.cmpT; rfl; rfl; rfl; rfl; intro _ _)
      | (apply WD.eqB; rfl; rfl; rfl; intro _ _)
      | (apply WD.pur; rfl; (intro _; rfl))
      | (apply WD.skp; rfl)
      | (apply WD.skpL; rfl)
      | (apply WD.skpX; rfl)
      | (apply WOps.ask; rfl; all_goals (intro hb; try subst hb))
      | (apply WC.condA; rfl; all_goals (intro hb; try subst hb))
      | (apply WD.ask; rfl; all_goals (intro hb; try subst hb)))
    · rename_i hlt
      have hlt : i < xs.length := by have h0 := hlt; simp [cmpP] at h0; omega
      obtain ⟨c, hc⟩ : ∃ c, xs[i]? = some c := ⟨xs[i], List.getElem?_eq_getElem hlt⟩
      obtain ⟨d, hd⟩ : ∃ d, ys[i]? = some d := ⟨ys[i]'(by omega), List.getElem?_eq_getElem _⟩
      have tc := tx i c hc
      have td := ty i d hd
      repeat' (first
        | apply WOps.nil
        | apply WC.seq
        | apply WC.reg
        | apply WC.skip
        | apply WC.ret
        | apply WC.exit
        | (apply WC.condT; rfl)
        | (apply WC.condF; rfl)
        | apply WC.block
        | apply WC.scope
        | apply WC.dreg
        | apply WD.nil
        | (apply WOps.ldG; rfl; rfl; (first | exact Ld.own Tk.head rfl | exact Ld.own (Tk.tail Tk.head) rfl | exact Ld.own (Tk.tail (Tk.tail Tk.head)) rfl); rfl)
        | (apply WOps.st; rfl; rfl; (first | exact Tk.head | exact (Tk.tail Tk.head) | exact (Tk.tail (Tk.tail Tk.head))); rfl; (first | rfl | ((repeat' (first | exact allCell_nil | apply allCell_cons)) <;> (first | rfl | assumption))); rfl)
        | (apply WOps.alc; rfl; intro _)
        | (apply WOps.bx; rfl; rfl; (first | rfl | ((repeat' (first | exact allCell_nil | apply allCell_cons)) <;> (first | rfl | assumption))); intro _)
        | (apply WOps.bsl; rfl; (first | rfl | ((repeat' (first | exact allCell_nil | apply allCell_cons)) <;> (first | rfl | assumption))); intro _)
        | (apply WD.st; rfl; rfl; rfl; (first | exact Tk.head | exact (Tk.tail Tk.head) | exact (Tk.tail (Tk.tail Tk.head))); rfl; (first | rfl | ((repeat' (first | exact allCell_nil | apply allCell_cons)) <;> (first | rfl | assumption))); rfl)
        | (apply WD.alc; rfl; rfl; intro _)
        | (apply WD.bsl; rfl; rfl; (first | rfl | ((repeat' (first | exact allCell_nil | apply allCell_cons)) <;> (first | rfl | assumption))); intro _)
        | (apply WD.ixSl; rfl; rfl; rfl; exact hv; exact hc; intro a1 l1)
        | (apply WD.ixSl; rfl; rfl; rfl; exact hw; exact hd; intro a2 l2)
        | (apply WD.load; rfl; (first | (apply at1; exact rd_ld rfl (l1 _ hv) rfl; rfl) | (apply at2; exact rd_ld rfl (l1 _ hv) rfl; repeat' (first | exact same0 | (apply same1; exact rd_ld rfl (l1 _ hv) rfl; rfl) | (apply same2; exact rd_ld rfl (l1 _ hv) rfl)))))
        | (apply WD.load; rfl; (first | (apply at1; exact rd_ld rfl (l2 _ hw) rfl; rfl) | (apply at2; exact rd_ld rfl (l2 _ hw) rfl; repeat' (first | exact same0 | (apply same1; exact rd_ld rfl (l2 _ hw) rfl; rfl) | (apply same2; exact rd_ld rfl (l2 _ hw) rfl)))))
        | (apply WD.eqF [.str, .str, .bool, .int .u64, .int .u64]; rfl; rfl; rfl; rfl; rfl; exact tc; exact td; intro b hb)
        | (apply WOps.addN; rfl; rfl; rfl; omega)
        | (apply WOps.cmp; rfl; rfl; rfl; rfl; intro _ _)
        | (apply WOps.cmpT; rfl; rfl; rfl; rfl; intro _ _)
        | (apply WOps.eqB; rfl; rfl; rfl; intro _ _)
        | (apply WOps.purG; rfl; (intro _; rfl))
        | (apply WOps.skp; rfl)
        | (apply WD.load; rfl; (first | (apply at1; (first | exact rd_ld rfl (Ld.own Tk.head rfl) rfl | exact rd_ld rfl (Ld.own (Tk.tail Tk.head) rfl) rfl | exact rd_ld rfl (Ld.own (Tk.tail (Tk.tail Tk.head)) rfl) rfl); rfl) | (apply at2; (first | exact rd_ld rfl (Ld.own Tk.head rfl) rfl | exact rd_ld rfl (Ld.own (Tk.tail Tk.head) rfl) rfl | exact rd_ld rfl (Ld.own (Tk.tail (Tk.tail Tk.head)) rfl) rfl); repeat' (first | exact same0 | (apply same1; (first | exact rd_ld rfl (Ld.own Tk.head rfl) rfl | exact rd_ld rfl (Ld.own (Tk.tail Tk.head) rfl) rfl | exact rd_ld rfl (Ld.own (Tk.tail (Tk.tail Tk.head)) rfl) rfl); rfl) | (apply same2; (first | exact rd_ld rfl (Ld.own Tk.head rfl) rfl | exact rd_ld rfl (Ld.own (Tk.tail Tk.head) rfl) rfl | exact rd_ld rfl (Ld.own (Tk.tail (Tk.tail Tk.head)) rfl) rfl))))))
        | (apply WD.cmp; rfl; rfl; rfl; rfl; intro _ _)
        | (apply WD.cmpT; rfl; rfl; rfl; rfl; intro _ _)
        | (apply WD.eqB; rfl; rfl; rfl; intro _ _)
        | (apply WD.pur; rfl; (intro _; rfl))
        | (apply WD.skp; rfl)
        | (apply WD.skpL; rfl)
        | (apply WD.skpX; rfl)
        | (apply WOps.ask; rfl; all_goals (intro hb; try subst hb))
        | (apply WC.condA; rfl; all_goals (intro hb; try subst hb))
        | (apply WD.ask; rfl; all_goals (intro hb; try subst hb)))
      · rename_i hb
        refine ⟨trivial, List.Sublist.refl _, [_], ⟨_, [], rfl, rfl, rfl⟩, false, rfl, ?_⟩
        simp only [Bool.false_eq_true, false_iff]
        refine ne_of hc hd ?_
        simpa [cmpS] using hb
      · rename_i hb
        have hcd : xs[i]? = ys[i]? := by
          rw [hc, hd]
          simpa [cmpS] using hb
        refine WL.le (t' := [(0, v), (1, w), (12, .int .i64 (.ofNat xs.length)), (13, .int .i64 (.ofNat (i + 1)))]) (Sub1.cons rfl (Sub1.cons rfl (Sub1.cons rfl (Sub1.cons rfl (Sub1.nil))))) (ih _ (by omega) (i + 1) (by omega) ?_ rfl)
        intro j hj
        rcases Nat.lt_or_ge j i with h1 | h1
        · exact hpre j h1
        · obtain rfl : j = i := by omega
          exact hcd
    · rename_i hge
      have hge : xs.length ≤ i := by have h0 := hge; simp [cmpP] at h0; omega
      exact ⟨trivial, List.Sublist.refl _, [_], ⟨_, [], rfl, rfl, rfl⟩, true, rfl, by simp [ext_of hl hge hpre]⟩

theorem eq16_ok {H : HL} {v w : AV} {xs ys : List (List AV)} (hv : SlIs B H v 7 xs) (hw : SlIs B H w 7 ys) (tx : ∀ (i : Nat) c, xs[i]? = some c → AllT [.int .i64, .str, .str, .str, .int .i64, .int .u64, .int .u64] c) (ty : ∀ (i : Nat) c, ys[i]? = some c → AllT [.int .i64, .str, .str, .str, .int .i64, .int .u64, .int .u64] c) (lx : xs.length ≤ 9223372036854775807) :
    WF B tab (.func 16) [v, w] H fun r H' => H' = H ∧ ∃ b : Bool, r = .bool b ∧ (b = true ↔ xs = ys) := by
  refine WF.fnR g16 rfl ?_
  repeat' (first
    | apply WOps.nil
    | apply WC.seq
    | apply WC.reg
    | apply WC.skip
    | apply WC.ret
    | apply WC.exit
    | (apply WC.condT; rfl)
    | (apply WC.condF; rfl)
    | apply WC.block
    | apply WC.scope
    | apply WC.dreg
    | apply WD.nil
    | (apply WOps.ldG; rfl; rfl; (first | exact Ld.own Tk.head rfl | exact Ld.own (Tk.tail Tk.head) rfl | exact Ld.own (Tk.tail (Tk.tail Tk.head)) rfl); rfl)
    | (apply WOps.st; rfl; rfl; (first | exact Tk.head | exact (Tk.tail Tk.head) | exact (Tk.tail (Tk.tail Tk.head))); rfl; (first | rfl | ((repeat' (first | exact allCell_nil | apply allCell_cons)) <;> (first | rfl | assumption))); rfl)
    | (apply WOps.alc; rfl; intro _)
    | (apply WOps.bx; rfl; rfl; (first | rfl | ((repeat' (first | exact allCell_nil | apply allCell_cons)) <;> (first | rfl | assumption))); intro _)
    | (apply WOps.bsl; rfl; (first | rfl | ((repeat' (first | exact allCell_nil | apply allCell_cons)) <;> (first | rfl | assumption))); intro _)
    | (apply WD.st; rfl; rfl; rfl; (first | exact Tk.head | exact (Tk.tail Tk.head) | exact (Tk.tail (Tk.tail Tk.head))); rfl; (first | rfl | ((repeat' (first | exact allCell_nil | apply allCell_cons)) <;> (first | rfl | assumption))); rfl)
    | (apply WD.alc; rfl; rfl; intro _)
    | (apply WD.bsl; rfl; rfl; (first | rfl | ((repeat' (first | exact allCell_nil | apply allCell_cons)) <;> (first | rfl | assumption))); intro _)
    | (apply WOps.lenS; rfl; rfl; exact hv)
    | (apply WOps.lenS; rfl; rfl; exact hw)
    | (apply WOps.cmp; rfl; rfl; rfl; rfl; intro _ _)
    | (apply WOps.cmpT; rfl; rfl; rfl; rfl; intro _ _)
    | (apply WOps.eqB; rfl; rfl; rfl; intro _ _)
    | (apply WOps.purG; rfl; (intro _; rfl))
    | (apply WOps.skp; rfl)
    | (apply WD.load; rfl; (first | (apply at1; (first | exact rd_ld rfl (Ld.own Tk.head rfl) rfl | exact rd_ld rfl (Ld.own (Tk.tail Tk.head) rfl) rfl | exact rd_ld rfl (Ld.own (Tk.tail (Tk.tail Tk.head)) rfl) rfl); rfl) | (apply at2; (first | exact rd_ld rfl (Ld.own Tk.head rfl) rfl | exact rd_ld rfl (Ld.own (Tk.tail Tk.head) rfl) rfl | exact rd_ld rfl (Ld.own (Tk.tail (Tk.tail Tk.head)) rfl) rfl); repeat' (first | exact same0 | (apply same1; (first | exact rd_ld rfl (Ld.own Tk.head rfl) rfl | exact rd_ld rfl (Ld.own (Tk.tail Tk.head) rfl) rfl | exact rd_ld rfl (Ld.own (Tk.tail (Tk.tail Tk.head)) rfl) rfl); rfl) | (apply same2; (first | exact rd_ld rfl (Ld.own Tk.head rfl) rfl | exact rd_ld rfl (Ld.own (Tk.tail Tk.head) rfl) rfl | exact rd_ld rfl (Ld.own (Tk.tail (Tk.tail Tk.head)) rfl) rfl))))))
    | (apply WD.cmp; rfl; rfl; rfl; rfl; intro _ _)
    | (apply WD.cmpT; rfl; rfl; rfl; rfl; intro _ _)
    | (apply WD.eqB; rfl; rfl; rfl; intro _ _)
    | (apply WD.pur; rfl; (intro _; rfl))
    | (apply WD.skp; rfl)
    | (apply WD.skpL; rfl)
    | (apply WD.skpX; rfl)
    | (apply WOps.ask; rfl; all_goals (intro hb; try subst hb))
    | (apply WC.condA; rfl; all_goals (intro hb; try subst hb))
    | (apply WD.ask; rfl; all_goals (intro hb; try subst hb)))
  · rename_i h
    simp [cmpP] at h
    refine ⟨trivial, List.Sublist.refl _, [_], ⟨_, [], rfl, rfl, rfl⟩, false, rfl, ?_⟩
    simp only [Bool.false_eq_true, false_iff]
    exact fun e => h (by rw [e])
  · rename_i h
    have hl : xs.length = ys.length := by have h0 := h; simp [cmpP] at h0; omega
    refine WC.loop ?_
    obtain ⟨i, hi⟩ : ∃ i : Nat, i = 0 := ⟨0, rfl⟩
    refine WL.le (t' := [(0, v), (1, w), (5, .int .i64 (.ofNat i))]) (by subst hi; exact Sub1.cons rfl (Sub1.cons rfl (Sub1.cons rfl (Sub1.nil)))) ?_
    have hle : i ≤ xs.length := by omega
    have hpre : ∀ (j : Nat), j < i → xs[j]? = ys[j]? := by intro j hj; omega
    clear hi
    induction hk : xs.length - i using Nat.strongRecOn generalizing i with | _ k ih => ?_
    apply WL.step
    repeat' (first
      | apply WOps.nil
      | apply WC.seq
      | apply WC.reg
      | apply WC.skip
      | apply WC.ret
      | apply WC.exit
      | (apply WC.condT; rfl)
      | (apply WC.condF; rfl)
      | apply WC.block
      | apply WC.scope
      | apply WC.dreg
      | apply WD.nil
      | (apply WOps.ldG; rfl; rfl; (first | exact Ld.own Tk.head rfl | exact Ld.own (Tk.tail Tk.head) rfl | exact Ld.own (Tk.tail (Tk.tail Tk.head)) rfl); rfl)
      | (apply WOps.st; rfl; rfl; (first | exact Tk.head | exact (Tk.tail Tk.head) | exact (Tk.tail (Tk.tail Tk.head))); rfl; (first | rfl | ((repeat' (first | exact allCell_nil | apply allCell_cons)) <;> (first | rfl | assumption))); rfl)
      | (apply WOps.alc; rfl; intro _)
      | (apply WOps.bx; rfl; rfl; (first | rfl | ((repeat' (first | exact allCell_nil | apply allCell_cons)) <;> (first | rfl | assumption))); intro _)
      | (apply WOps.bsl; rfl; (first | rfl | ((repeat' (first | exact allCell_nil | apply allCell_cons)) <;> (first | rfl | assumption))); intro _)
      | (apply WD.st; rfl; rfl; rfl; (first | exact Tk.head | exact (Tk.tail Tk.head) | exact (Tk.tail (Tk.tail Tk.head))); rfl; (first | rfl | ((repeat' (first | exact allCell_nil | apply allCell_cons)) <;> (first | rfl | assumption))); rfl)
      | (apply WD.alc; rfl; rfl; intro _)
      | (apply WD.bsl; rfl; rfl; (first | rfl | ((repeat' (first | exact allCell_nil | apply allCell_cons)) <;> (first | rfl | assumption))); intro _)
      | (apply WOps.lenS; rfl; rfl; exact hv)
      | (apply WOps.lenS; rfl; rfl; exact hw)
      | (apply WOps.cmp; rfl; rfl; rfl; rfl; intro _ _)
      | (apply WOps.cmpT; rfl; rfl; rfl; rfl; intro _ _)
      | (apply WOps.eqB; rfl; rfl; rfl; intro _ _)
      | (apply WOps.purG; rfl; (intro _; rfl))
      | (apply WOps.skp; rfl)
      | (apply WD.load; rfl; (first | (apply at1; (first | exact rd_ld rfl (Ld.own Tk.head rfl) rfl | exact rd_ld rfl (Ld.own (Tk.tail Tk.head) rfl) rfl | exact rd_ld rfl (Ld.own (Tk.tail (Tk.tail Tk.head)) rfl) rfl); rfl) | (apply at2; (first | exact rd_ld rfl (Ld.own Tk.head rfl) rfl | exact rd_ld rfl (Ld.own (Tk.tail Tk.head) rfl) rfl | exact rd_ld rfl (Ld.own (Tk.tail (Tk.tail Tk.head)) rfl) rfl); repeat' (first | exact same0 | (apply same1; (first | exact rd_ld rfl (Ld.own Tk.head rfl) rfl | exact rd_ld rfl (Ld.own (Tk.tail Tk.head) rfl) rfl | exact rd_ld rfl (Ld.own (Tk.tail (Tk.tail Tk.head)) rfl) rfl); rfl) | (apply same2; (first | exact rd_ld rfl (Ld.own Tk.head rfl) rfl | exact rd_ld rfl (Ld.own (Tk.tail Tk.head) rfl) rfl | exact rd_ld rfl (Ld.own (Tk.tail (Tk.tail Tk.head)) rfl) rfl))))))
      | (apply WD.cmp; rfl; rfl; rfl; rfl; intro _ _)
      | (apply WD.cmpT; rfl; rfl; rfl; rfl; intro _ _)
      | (apply WD.eqB; rfl; rfl; rfl; intro _ _)
      | (apply WD.pur; rfl; (intro _; rfl))
      | (apply WD.skp; rfl)
      | (apply WD.skpL; rfl)
      | (apply WD.skpX; rfl)
      | (apply WOps.ask; rfl; all_goals (intro hb; try subst hb))
      | (apply WC.condA; rfl; all_goals (intro hb; try subst hb))
      | (apply WD.ask; rfl; all_goals (intro hb; try subst hb)))
    · rename_i hlt
      have hlt : i < xs.length := by have h0 := hlt; simp [cmpP] at h0; omega
      obtain ⟨c, hc⟩ : ∃ c, xs[i]? = some c := ⟨xs[i], List.getElem?_eq_getElem hlt⟩
      obtain ⟨d, hd⟩ : ∃ d, ys[i]? = some d := ⟨ys[i]'(by omega), List.getElem?_eq_getElem _⟩
      have tc := tx i c hc
      have td := ty i d hd
      repeat' (first
        | apply WOps.nil
        | apply WC.seq
        | apply WC.reg
        | apply WC.skip
        | apply WC.ret
        | apply WC.exit
        | (apply WC.condT; rfl)
        | (apply WC.condF; rfl)
        | apply WC.block
        | apply WC.scope
        | apply WC.dreg
        | apply WD.nil
        | (apply WOps.ldG; rfl; rfl; (first | exact Ld.own Tk.head rfl | exact Ld.own (Tk.tail Tk.head) rfl | exact Ld.own (Tk.tail (Tk.tail Tk.head)) rfl); rfl)
        | (apply WOps.st; rfl; rfl; (first | exact Tk.head | exact (Tk.tail Tk.head) | exact (Tk.tail (Tk.tail Tk.head))); rfl; (first | rfl | ((repeat' (first | exact allCell_nil | apply allCell_cons)) <;> (first | rfl | assumption))); rfl)
        | (apply WOps.alc; rfl; intro _)
        | (apply WOps.bx; rfl; rfl; (first | rfl | ((repeat' (first | exact allCell_nil | apply allCell_cons)) <;> (first | rfl | assumption))); intro _)
        | (apply WOps.bsl; rfl; (first | rfl | ((repeat' (first | exact allCell_nil | apply allCell_cons)) <;> (first | rfl | assumption))); intro _)
        | (apply WD.st; rfl; rfl; rfl; (first | exact Tk.head | exact (Tk.tail Tk.head) | exact (Tk.tail (Tk.tail Tk.head))); rfl; (first | rfl | ((repeat' (first | exact allCell_nil | apply allCell_cons)) <;> (first | rfl | assumption))); rfl)
        | (apply WD.alc; rfl; rfl; intro _)
        | (apply WD.bsl; rfl; rfl; (first | rfl | ((repeat' (first | exact allCell_nil | apply allCell_cons)) <;> (first | rfl | assumption))); intro _)
        | (apply WD.ixSl; rfl; rfl; rfl; exact hv; exact hc; intro a1 l1)
        | (apply WD.ixSl; rfl; rfl; rfl; exact hw; exact hd; intro a2 l2)
        | (apply WD.load; rfl; (first | (apply at1; exact rd_ld rfl (l1 _ hv) rfl; rfl) | (apply at2; exact rd_ld rfl (l1 _ hv) rfl; repeat' (first | exact same0 | (apply same1; exact rd_ld rfl (l1 _ hv) rfl; rfl) | (apply same2; exact rd_ld rfl (l1 _ hv) rfl)))))
        | (apply WD.load; rfl; (first | (apply at1; exact rd_ld rfl (l2 _ hw) rfl; rfl) | (apply at2; exact rd_ld rfl (l2 _ hw) rfl; repeat' (first | exact same0 | (apply same1; exact rd_ld rfl (l2 _ hw) rfl; rfl) | (apply same2; exact rd_ld rfl (l2 _ hw) rfl)))))
        | (apply WD.eqF [.int .i64, .str, .str, .str, .int .i64, .int .u64, .int .u64]; rfl; rfl; rfl; rfl; rfl; exact tc; exact td; intro b hb)
        | (apply WOps.addN; rfl; rfl; rfl; omega)
        | (apply WOps.cmp; rfl; rfl; rfl; rfl; intro _ _)
        | (apply WOps.cmpT; rfl; rfl; rfl; rfl; intro _ _)
        | (apply WOps.eqB; rfl; rfl; rfl; intro _ _)
        | (apply WOps.purG; rfl; (intro _; rfl))
        | (apply WOps.skp; rfl)
        | (apply WD.load; rfl; (first | (apply at1; (first | exact rd_ld rfl (Ld.own Tk.head rfl) rfl | exact rd_ld rfl (Ld.own (Tk.tail Tk.head) rfl) rfl | exact rd_ld rfl (Ld.own (Tk.tail (Tk.tail Tk.head)) rfl) rfl); rfl) | (apply at2; (first | exact rd_ld rfl (Ld.own Tk.head rfl) rfl | exact rd_ld rfl (Ld.own (Tk.tail Tk.head) rfl) rfl | exact rd_ld rfl (Ld.own (Tk.tail (Tk.tail Tk.head)) rfl) rfl); repeat' (first | exact same0 | (apply same1; (first | exact rd_ld rfl (Ld.own Tk.head rfl) rfl | exact rd_ld rfl (Ld.own (Tk.tail Tk.head) rfl) rfl | exact rd_ld rfl (Ld.own (Tk.tail (Tk.tail Tk.head)) rfl) rfl); rfl) | (apply same2; (first | exact rd_ld rfl (Ld.own Tk.head rfl) rfl | exact rd_ld rfl (Ld.own (Tk.tail Tk.head) rfl) rfl | exact rd_ld rfl (Ld.own (Tk.tail (Tk.tail Tk.head)) rfl) rfl))))))
        | (apply WD.cmp; rfl; rfl; rfl; rfl; intro _ _)
        | (apply WD.cmpT; rfl; rfl; rfl; rfl; intro _ _)
        | (apply WD.eqB; rfl; rfl; rfl; intro _ _)
        | (apply WD.pur; rfl; (intro _; rfl))
        | (apply WD.skp; rfl)
        | (apply WD.skpL; rfl)
        | (apply WD.skpX; rfl)
        | (apply WOps.ask; rfl; all_goals (intro hb; try subst hb))
        | (apply WC.condA; rfl; all_goals (intro hb; try subst hb))
        | (apply WD.ask; rfl; all_goals (intro hb; try subst hb)))
      · rename_i hb
        refine ⟨trivial, List.Sublist.refl _, [_], ⟨_, [], rfl, rfl, rfl⟩, false, rfl, ?_⟩
        simp only [Bool.false_eq_true, false_iff]
        refine ne_of hc hd ?_
        simpa [cmpS] using hb
      · rename_i hb
        have hcd : xs[i]? = ys[i]? := by
          rw [hc, hd]
          simpa [cmpS] using hb
        refine WL.le (t' := [(0, v), (1, w), (5, .int .i64 (.ofNat (i + 1)))]) (Sub1.cons rfl (Sub1.cons rfl (Sub1.cons rfl (Sub1.nil)))) (ih _ (by omega) (i + 1) (by omega) ?_ rfl)
        intro j hj
        rcases Nat.lt_or_ge j i with h1 | h1
        · exact hpre j h1
        · obtain rfl : j = i := by omega
          exact hcd
    · rename_i hge
      have hge : xs.length ≤ i := by have h0 := hge; simp [cmpP] at h0; omega
      exact ⟨trivial, List.Sublist.refl _, [_], ⟨_, [], rfl, rfl, rfl⟩, true, rfl, by simp [ext_of hl hge hpre]⟩

theorem eq17_ok {H : HL} {v w : AV} {xs ys : List (List AV)} (hv : SlIs B H v 4 xs) (hw : SlIs B H w 4 ys) (tx : ∀ (i : Nat) c, xs[i]? = some c → AllT [.int .i64, .str, .int .u64, .int .u64] c) (ty : ∀ (i : Nat) c, ys[i]? = some c → AllT [.int .i64, .str, .int .u64, .int .u64] c) (lx : xs.length ≤ 9223372036854775807) :
    WF B tab (.func 17) [v, w] H fun r H' => H' = H ∧ ∃ b : Bool, r = .bool b ∧ (b = true ↔ xs = ys) := by
  refine WF.fnR g17 rfl ?_
  repeat' (first
    | apply WOps.nil
    | apply WC.seq
    | apply WC.reg
    | apply WC.skip
    | apply WC.ret
    | apply WC.exit
    | (apply WC.condT; rfl)
    | (apply WC.condF; rfl)
    | apply WC.block
    | apply WC.scope
    | apply WC.dreg
    | apply WD.nil
    | (apply WOps.ldG; rfl; rfl; (first | exact Ld.own Tk.head rfl | exact Ld.own (Tk.tail Tk.head) rfl | exact Ld.own (Tk.tail (Tk.tail Tk.head)) rfl); rfl)
    | (apply WOps.st; rfl; rfl; (first | exact Tk.head | exact (Tk.tail Tk.head) | exact (Tk.tail (Tk.tail Tk.head))); rfl; (first | rfl | ((repeat' (first | exact allCell_nil | apply allCell_cons)) <;> (first | rfl | assumption))); rfl)
    | (apply WOps.alc; rfl; intro _)
    | (apply WOps.bx; rfl; rfl; (first | rfl | ((repeat' (first | exact allCell_nil | apply allCell_cons)) <;> (first | rfl | assumption))); intro _)
    | (apply WOps.bsl; rfl; (first | rfl | ((repeat' (first | exact allCell_nil | apply allCell_cons)) <;> (first | rfl | assumption))); intro _)
    | (apply WD.st; rfl; rfl; rfl; (first | exact Tk.head | exact (Tk.tail Tk.head) | exact (Tk.tail (Tk.tail Tk.head))); rfl; (first | rfl | ((repeat' (first | exact allCell_nil | apply allCell_cons)) <;> (first | rfl | assumption))); rfl)
    | (apply WD.alc; rfl; rfl; intro _)
    | (apply WD.bsl; rfl; rfl; (first | rfl | ((repeat' (first | exact allCell_nil | apply allCell_cons)) <;> (first | rfl | assumption))); intro _)
    | (apply WOps.lenS; rfl; rfl; exact hv)
    | (apply WOps.lenS; rfl; rfl; exact hw)
    | (apply WOps.cmp; rfl; rfl; rfl; rfl; intro _ _)
    | (apply WOps.cmpT; rfl; rfl; rfl; rfl; intro _ _)
    | (apply WOps.eqB; rfl; rfl; rfl; intro _ _)
    | (apply WOps.purG; rfl; (intro _; rfl))
    | (apply WOps.skp; rfl)
    | (apply WD.load; rfl; (first | (apply at1; (first | exact rd_ld rfl (Ld.own Tk.head rfl) rfl | exact rd_ld rfl (Ld.own (Tk.tail Tk.head) rfl) rfl | exact rd_ld rfl (Ld.own (Tk.tail (Tk.tail Tk.head)) rfl) rfl); rfl) | (apply at2; (first | exact rd_ld rfl (Ld.own Tk.head rfl) rfl | exact rd_ld rfl (Ld.own (Tk.tail Tk.head) rfl) rfl | exact rd_ld rfl (Ld.own (Tk.tail (Tk.tail Tk.head)) rfl) rfl); repeat' (first | exact same0 | (apply same1; (first | exact rd_ld rfl (Ld.own Tk.head rfl) rfl | exact rd_ld rfl (Ld.own (Tk.tail Tk.head) rfl) rfl | exact rd_ld rfl (Ld.own (Tk.tail (Tk.tail Tk.head)) rfl) rfl); rfl) | (apply same2; (first | exact rd_ld rfl (Ld.own Tk.head rfl) rfl | exact rd_ld rfl (Ld.own (Tk.tail Tk.head) rfl) rfl | exact rd_ld rfl (Ld.own (Tk.tail (Tk.tail Tk.head)) rfl) rfl))))))
    | (apply WD.cmp; rfl; rfl; rfl; rfl; intro _ _)
    | (apply WD.cmpT; rfl; rfl; rfl; rfl; intro _ _)
    | (apply WD.eqB; rfl; rfl; rfl; intro _ _)
    | (apply WD.pur; rfl; (intro _; rfl))
    | (apply WD.skp; rfl)
    | (apply WD.skpL; rfl)
    | (apply WD.skpX; rfl)
    | (apply WOps.ask; rfl; all_goals (intro hb; try subst hb))
    | (apply WC.condA; rfl; all_goals (intro hb; try subst hb))
    | (apply WD.ask; rfl; all_goals (intro hb; try subst hb)))
  · rename_i h
    simp [cmpP] at h
    refine ⟨trivial, List.Sublist.refl _, [_], ⟨_, [], rfl, rfl, rfl⟩, false, rfl, ?_⟩
    simp only [Bool.false_eq_true, false_iff]
    exact fun e => h (by rw [e])
  · rename_i h
    have hl : xs.length = ys.length := by have h0 := h; simp [cmpP] at h0; omega
    refine WC.loop ?_
    obtain ⟨i, hi⟩ : ∃ i : Nat, i = 0 := ⟨0, rfl⟩
    refine WL.le (t' := [(0, v), (1, w), (5, .int .i64 (.ofNat i))]) (by subst hi; exact Sub1.cons rfl (Sub1.cons rfl (Sub1.cons rfl (Sub1.nil)))) ?_
    have hle : i ≤ xs.length := by omega
    have hpre : ∀ (j : Nat), j < i → xs[j]? = ys[j]? := by intro j hj; omega
    clear hi
    induction hk : xs.length - i using Nat.strongRecOn generalizing i with | _ k ih => ?_
    apply WL.step
    repeat' (first
      | apply WOps.nil
      | apply WC.seq
      | apply WC.reg
      | apply WC.skip
      | apply WC.ret
      | apply WC.exit
      | (apply WC.condT; rfl)
      | (apply WC.condF; rfl)
      | apply WC.block
      | apply WC.scope
      | apply WC.dreg
      | apply WD.nil
      | (apply WOps.ldG; rfl; rfl; (first | exact Ld.own Tk.head rfl | exact Ld.own (Tk.tail Tk.head) rfl | exact Ld.own (Tk.tail (Tk.tail Tk.head)) rfl); rfl)
      | (apply WOps.st; rfl; rfl; (first | exact Tk.head | exact (Tk.tail Tk.head) | exact (Tk.tail (Tk.tail Tk.head))); rfl; (first | rfl | ((repeat' (first | exact allCell_nil | apply allCell_cons)) <;> (first | rfl | assumption))); rfl)
      | (apply WOps.alc; rfl; intro _)
      | (apply WOps.bx; rfl; rfl; (first | rfl | ((repeat' (first | exact allCell_nil | apply allCell_cons)) <;> (first | rfl | assumption))); intro _)
      | (apply WOps.bsl; rfl; (first | rfl | ((repeat' (first | exact allCell_nil | apply allCell_cons)) <;> (first | rfl | assumption))); intro _)
      | (apply WD.st; rfl; rfl; rfl; (first | exact Tk.head | exact (Tk.tail Tk.head) | exact (Tk.tail (Tk.tail Tk.head))); rfl; (first | rfl | ((repeat' (first | exact allCell_nil | apply allCell_cons)) <;> (first | rfl | assumption))); rfl)
      | (apply WD.alc; rfl; rfl; intro _)
      | (apply WD.bsl; rfl; rfl; (first | rfl | ((repeat' (first | exact allCell_nil | apply allCell_cons)) <;> (first | rfl | assumption))); intro _)
      | (apply WOps.lenS; rfl; rfl; exact hv)
      | (apply WOps.lenS; rfl; rfl; exact hw)
      | (apply WOps.cmp; rfl; rfl; rfl; rfl; intro _ _)
      | (apply WOps.cmpT; rfl; rfl; rfl; rfl; intro _ _)
      | (apply WOps.eqB; rfl; rfl; rfl; intro _ _)
      | (apply WOps.purG; rfl; (intro _; rfl))
      | (apply WOps.skp; rfl)
      | (apply WD.load; rfl; (first | (apply at1; (first | exact rd_ld rfl (Ld.own Tk.head rfl) rfl | exact rd_ld rfl (Ld.own (Tk.tail Tk.head) rfl) rfl | exact rd_ld rfl (Ld.own (Tk.tail (Tk.tail Tk.head)) rfl) rfl); rfl) | (apply at2; (first | exact rd_ld rfl (Ld.own Tk.head rfl) rfl | exact rd_ld rfl (Ld.own (Tk.tail Tk.head) rfl) rfl | exact rd_ld rfl (Ld.own (Tk.tail (Tk.tail Tk.head)) rfl) rfl); repeat' (first | exact same0 | (apply same1; (first | exact rd_ld rfl (Ld.own Tk.head rfl) rfl | exact rd_ld rfl (Ld.own (Tk.tail Tk.head) rfl) rfl | exact rd_ld rfl (Ld.own (Tk.tail (Tk.tail Tk.head)) rfl) rfl); rfl) | (apply same2; (first | exact rd_ld rfl (Ld.own Tk.head rfl) rfl | exact rd_ld rfl (Ld.own (Tk.tail Tk.head) rfl) rfl | exact rd_ld rfl (Ld.own (Tk.tail (Tk.tail Tk.head)) rfl) rfl))))))
      | (apply WD.cmp; rfl; rfl; rfl; rfl; intro _ _)
      | (apply WD.cmpT; rfl; rfl; rfl; rfl; intro _ _)
      | (apply WD.eqB; rfl; rfl; rfl; intro _ _)
      | (apply WD.pur; rfl; (intro _; rfl))
      | (apply WD.skp; rfl)
      | (apply WD.skpL; rfl)
      | (apply WD.skpX; rfl)
      | (apply WOps.ask; rfl; all_goals (intro hb; try subst hb))
      | (apply WC.condA; rfl; all_goals (intro hb; try subst hb))
      | (apply WD.ask; rfl; all_goals (intro hb; try subst hb)))
    · rename_i hlt
      have hlt : i < xs.length := by have h0 := hlt; simp [cmpP] at h0; omega
      obtain ⟨c, hc⟩ : ∃ c, xs[i]? = some c := ⟨xs[i], List.getElem?_eq_getElem hlt⟩
      obtain ⟨d, hd⟩ : ∃ d, ys[i]? = some d := ⟨ys[i]'(by omega), List.getElem?_eq_getElem _⟩
      have tc := tx i c hc
      have td := ty i d hd
      repeat' (first
        | apply WOps.nil
        | apply WC.seq
        | apply WC.reg
        | apply WC.skip
        | apply WC.ret
        | apply WC.exit
        | (apply WC.condT; rfl)
        | (apply WC.condF; rfl)
        | apply WC.block
        | apply WC.scope
        | apply WC.dreg
        | apply WD.nil
        | (apply WOps.ldG; rfl; rfl; (first | exact Ld.own Tk.head rfl | exact Ld.own (Tk.tail Tk.head) rfl | exact Ld.own (Tk.tail (Tk.tail Tk.head)) rfl); rfl)
        | (apply WOps.st; rfl; rfl; (first | exact Tk.head | exact (Tk.tail Tk.head) | exact (Tk.tail (Tk.tail Tk.head))); rfl; (first | rfl | ((repeat' (first | exact allCell_nil | apply allCell_cons)) <;> (first | rfl | assumption))); rfl)
        | (apply WOps.alc; rfl; intro _)
        | (apply WOps.bx; rfl; rfl; (first | rfl | ((repeat' (first | exact allCell_nil | apply allCell_cons)) <;> (first | rfl | assumption))); intro _)
        | (apply WOps.bsl; rfl; (first | rfl | ((repeat' (first | exact allCell_nil | apply allCell_cons)) <;> (first | rfl | assumption))); intro _)
        | (apply WD.st; rfl; rfl; rfl; (first | exact Tk.head | exact (Tk.tail Tk.head) | exact (Tk.tail (Tk.tail Tk.head))); rfl; (first | rfl | ((repeat' (first | exact allCell_nil | apply allCell_cons)) <;> (first | rfl | assumption))); rfl)
        | (apply WD.alc; rfl; rfl; intro _)
        | (apply WD.bsl; rfl; rfl; (first | rfl | ((repeat' (first | exact allCell_nil | apply allCell_cons)) <;> (first | rfl | assumption))); intro _)
        | (apply WD.ixSl; rfl; rfl; rfl; exact hv; exact hc; intro a1 l1)
        | (apply WD.ixSl; rfl; rfl; rfl; exact hw; exact hd; intro a2 l2)
        | (apply WD.load; rfl; (first | (apply at1; exact rd_ld rfl (l1 _ hv) rfl; rfl) | (apply at2; exact rd_ld rfl (l1 _ hv) rfl; repeat' (first | exact same0 | (apply same1; exact rd_ld rfl (l1 _ hv) rfl; rfl) | (apply same2; exact rd_ld rfl (l1 _ hv) rfl)))))
        | (apply WD.load; rfl; (first | (apply at1; exact rd_ld rfl (l2 _ hw) rfl; rfl) | (apply at2; exact rd_ld rfl (l2 _ hw) rfl; repeat' (first | exact same0 | (apply same1; exact rd_ld rfl (l2 _ hw) rfl; rfl) | (apply same2; exact rd_ld rfl (l2 _ hw) rfl)))))
        | (apply WD.eqF [.int .i64, .str, .int .u64, .int .u64]; rfl; rfl; rfl; rfl; rfl; exact tc; exact td; intro b hb)
        | (apply WOps.addN; rfl; rfl; rfl; omega)
        | (apply WOps.cmp; rfl; rfl; rfl; rfl; intro _ _)
        | (apply WOps.cmpT; rfl; rfl; rfl; rfl; intro _ _)
        | (apply WOps.eqB; rfl; rfl; rfl; intro _ _)
        | (apply WOps.purG; rfl; (intro _; rfl))
        | (apply WOps.skp; rfl)
        | (apply WD.load; rfl; (first | (apply at1; (first | exact rd_ld rfl (Ld.own Tk.head rfl) rfl | exact rd_ld rfl (Ld.own (Tk.tail Tk.head) rfl) rfl | exact rd_ld rfl (Ld.own (Tk.tail (Tk.tail Tk.head)) rfl) rfl); rfl) | (apply at2; (first | exact rd_ld rfl (Ld.own Tk.head rfl) rfl | exact rd_ld rfl (Ld.own (Tk.tail Tk.head) rfl) rfl | exact rd_ld rfl (Ld.own (Tk.tail (Tk.tail Tk.head)) rfl) rfl); repeat' (first | exact same0 | (apply same1; (first | exact rd_ld rfl (Ld.own Tk.head rfl) rfl | exact rd_ld rfl (Ld.own (Tk.tail Tk.head) rfl) rfl | exact rd_ld rfl (Ld.own (Tk.tail (Tk.tail Tk.head)) rfl) rfl); rfl) | (apply same2; (first | exact rd_ld rfl (Ld.own Tk.head rfl) rfl | exact rd_ld rfl (Ld.own (Tk.tail Tk.head) rfl) rfl | exact rd_ld rfl (Ld.own (Tk.tail (Tk.tail Tk.head)) rfl) rfl))))))
        | (apply WD.cmp; rfl; rfl; rfl; rfl; intro _ _)
        | (apply WD.cmpT; rfl; rfl; rfl; rfl; intro _ _)
        | (apply WD.eqB; rfl; rfl; rfl; intro _ _)
        | (apply WD.pur; rfl; (intro _; rfl))
        | (apply WD.skp; rfl)
        | (apply WD.skpL; rfl)
        | (apply WD.skpX; rfl)
        | (apply WOps.ask; rfl; all_goals (intro hb; try subst hb))
        | (apply WC.condA; rfl; all_goals (intro hb; try subst hb))
        | (apply WD.ask; rfl; all_goals (intro hb; try subst hb)))
      · rename_i hb
        refine ⟨trivial, List.Sublist.refl _, [_], ⟨_, [], rfl, rfl, rfl⟩, false, rfl, ?_⟩
        simp only [Bool.false_eq_true, false_iff]
        refine ne_of hc hd ?_
        simpa [cmpS] using hb
      · rename_i hb
        have hcd : xs[i]? = ys[i]? := by
          rw [hc, hd]
          simpa [cmpS] using hb
        refine WL.le (t' := [(0, v), (1, w), (5, .int .i64 (.ofNat (i + 1)))]) (Sub1.cons rfl (Sub1.cons rfl (Sub1.cons rfl (Sub1.nil)))) (ih _ (by omega) (i + 1) (by omega) ?_ rfl)
        intro j hj
        rcases Nat.lt_or_ge j i with h1 | h1
        · exact hpre j h1
        · obtain rfl : j = i := by omega
          exact hcd
    · rename_i hge
      have hge : xs.length ≤ i := by have h0 := hge; simp [cmpP] at h0; omega
      exact ⟨trivial, List.Sublist.refl _, [_], ⟨_, [], rfl, rfl, rfl⟩, true, rfl, by simp [ext_of hl hge hpre]⟩

theorem eq18_ok {H : HL} {v w : AV} {xs ys : List (List AV)} (hv : SlIs B H v 6 xs) (hw : SlIs B H w 6 ys) (tx : ∀ (i : Nat) c, xs[i]? = some c → AllT [.str, .str, .int .u64, .int .u64, .int .u64, .int .u64] c) (ty : ∀ (i : Nat) c, ys[i]? = some c → AllT [.str, .str, .int .u64, .int .u64, .int .u64, .int .u64] c) (lx : xs.length ≤ 9223372036854775807) :
    WF B tab (.func 18) [v, w] H fun r H' => H' = H ∧ ∃ b : Bool, r = .bool b ∧ (b = true ↔ xs = ys) := by
  refine WF.fnR g18 rfl ?_
  repeat' (first
    | apply WOps.nil
    | apply WC.seq
    | apply WC.reg
    | apply WC.skip
    | apply WC.ret
    | apply WC.exit
    | (apply WC.condT; rfl)
    | (apply WC.condF; rfl)
    | apply WC.block
    | apply WC.scope
    | apply WC.dreg
    | apply WD.nil
    | (apply WOps.ldG; rfl; rfl; (first | exact Ld.own Tk.head rfl | exact Ld.own (Tk.tail Tk.head) rfl | exact Ld.own (Tk.tail (Tk.tail Tk.head)) rfl); rfl)
    | (apply WOps.st; rfl; rfl; (first | exact Tk.head | exact (Tk.tail Tk.head) | exact (Tk.tail (Tk.tail Tk.head))); rfl; (first | rfl | ((repeat' (first | exact allCell_nil | apply allCell_cons)) <;> (first | rfl | assumption))); rfl)
    | (apply WOps.alc; rfl; intro _)
    | (apply WOps.bx; rfl; rfl; (first | rfl | ((repeat' (first | exact allCell_nil | apply allCell_cons)) <;> (first | rfl | assumption))); intro _)
    | (apply WOps.bsl; rfl; (first | rfl | ((repeat' (first | exact allCell_nil | apply allCell_cons)) <;> (first | rfl | assumption))); intro _)
    | (apply WD.st; rfl; rfl; rfl; (first | exact Tk.head | exact (Tk.tail Tk.head) | exact (Tk.tail (Tk.tail Tk.head))); rfl; (first | rfl | ((repeat' (first | exact allCell_nil | apply allCell_cons)) <;> (first | rfl | assumption))); rfl)
    | (apply WD.alc; rfl; rfl; intro _)
    | (apply WD.bsl; rfl; rfl; (first | rfl | ((repeat' (first | exact allCell_nil | apply allCell_cons)) <;> (first | rfl | assumption))); intro _)
    | (apply WOps.lenS; rfl; rfl; exact hv)
    | (apply WOps.lenS; rfl; rfl; exact hw)
    | (apply WOps.cmp; rfl; rfl; rfl; rfl; intro _ _)
    | (apply WOps.cmpT; rfl; rfl; rfl; rfl; intro _ _)
    | (apply WOps.eqB; rfl; rfl; rfl; intro _ _)
    | (apply WOps.purG; rfl; (intro _; rfl))
    | (apply WOps.skp; rfl)
    | (apply WD.load; rfl; (first | (apply at1; (first | exact rd_ld rfl (Ld.own Tk.head rfl) rfl | exact rd_ld rfl (Ld.own (Tk.tail Tk.head) rfl) rfl | exact rd_ld rfl (Ld.own (Tk.tail (Tk.tail Tk.head)) rfl) rfl); rfl) | (apply at2; (first | exact rd_ld rfl (Ld.own Tk.head rfl) rfl | exact rd_ld rfl (Ld.own (Tk.tail Tk.head) rfl) rfl | exact rd_ld rfl (Ld.own (Tk.tail (Tk.tail Tk.head)) rfl) rfl); repeat' (first | exact same0 | (apply same1; (first | exact rd_ld rfl (Ld.own Tk.head rfl) rfl | exact rd_ld rfl (Ld.own (Tk.tail Tk.head) rfl) rfl | exact rd_ld rfl (Ld.own (Tk.tail (Tk.tail Tk.head)) rfl) rfl); rfl) | (apply same2; (first | exact rd_ld rfl (Ld.own Tk.head rfl) rfl | exact rd_ld rfl (Ld.own (Tk.tail Tk.head) rfl) rfl | exact rd_ld rfl (Ld.own (Tk.tail (Tk.tail Tk.head)) rfl) rfl))))))
    | (apply WD.cmp; rfl; rfl; rfl; rfl; intro _ _)
    | (apply WD.cmpT; rfl; rfl; rfl; rfl; intro _ _)
    | (apply WD.eqB; rfl; rfl; rfl; intro _ _)
    | (apply WD.pur; rfl; (intro _; rfl))
    | (apply WD.skp; rfl)
    | (apply WD.skpL; rfl)
    | (apply WD.skpX; rfl)
    | (apply WOps.ask; rfl; all_goals (intro hb; try subst hb))
    | (apply WC.condA; rfl; all_goals (intro hb; try subst hb))
    | (apply WD.ask; rfl; all_goals (intro hb; try subst hb)))
  · rename_i h
    simp [cmpP] at h
    refine ⟨trivial, List.Sublist.refl _, [_], ⟨_, [], rfl, rfl, rfl⟩, false, rfl, ?_⟩
    simp only [Bool.false_eq_true, false_iff]
    exact fun e => h (by rw [e])
  · rename_i h
    have hl : xs.length = ys.length := by have h0 := h; simp [cmpP] at h0; omega
    refine WC.loop ?_
    obtain ⟨i, hi⟩ : ∃ i : Nat, i = 0 := ⟨0, rfl⟩
    refine WL.le (t' := [(0, v), (1, w), (5, .int .i64 (.ofNat i))]) (by subst hi; exact Sub1.cons rfl (Sub1.cons rfl (Sub1.cons rfl (Sub1.nil)))) ?_
    have hle : i ≤ xs.length := by omega
    have hpre : ∀ (j : Nat), j < i → xs[j]? = ys[j]? := by intro j hj; omega
    clear hi
    induction hk : xs.length - i using Nat.strongRecOn generalizing i with | _ k ih => ?_
    apply WL.step
    repeat' (first
      | apply WOps.nil
      | apply WC.seq
      | apply WC.reg
      | apply WC.skip
      | apply WC.ret
      | apply WC.exit
      | (apply WC.condT; rfl)
      | (apply WC.condF; rfl)
      | apply WC.block
      | apply WC.scope
      | apply WC.dreg
      | apply WD.nil
      | (apply WOps.ldG; rfl; rfl; (first | exact Ld.own Tk.head rfl | exact Ld.own (Tk.tail Tk.head) rfl | exact Ld.own (Tk.tail (Tk.tail Tk.head)) rfl); rfl)
      | (apply WOps.st; rfl; rfl; (first | exact Tk.head | exact (Tk.tail Tk.head) | exact (Tk.tail (Tk.tail Tk.head))); rfl; (first | rfl | ((repeat' (first | exact allCell_nil | apply allCell_cons)) <;> (first | rfl | assumption))); rfl)
      | (apply WOps.alc; rfl; intro _)
      | (apply WOps.bx; rfl; rfl; (first | rfl | ((repeat' (first | exact allCell_nil | apply allCell_cons)) <;> (first | rfl | assumption))); intro _)
      | (apply WOps.bsl; rfl; (first | rfl | ((repeat' (first | exact allCell_nil | apply allCell_cons)) <;> (first | rfl | assumption))); intro _)
      | (apply WD.st; rfl; rfl; rfl; (first | exact Tk.head | exact (Tk.tail Tk.head) | exact (Tk.tail (Tk.tail Tk.head))); rfl; (first | rfl | ((repeat' (first | exact allCell_nil | apply allCell_cons)) <;> (first | rfl | assumption))); rfl)
      | (apply WD.alc; rfl; rfl; intro _)
      | (apply WD.bsl; rfl; rfl; (first | rfl | ((repeat' (first | exact allCell_nil | apply allCell_cons)) <;> (first | rfl | assumption))); intro _)
      | (apply WOps.lenS; rfl; rfl; exact hv)
      | (apply WOps.lenS; rfl; rfl; exact hw)
      | (apply WOps.cmp; rfl; rfl; rfl; rfl; intro _ _)
      | (apply WOps.cmpT; rfl; rfl; rfl; rfl; intro _ _)
      | (apply WOps.eqB; rfl; rfl; rfl; intro _ _)
      | (apply WOps.purG; rfl; (intro _; rfl))
      | (apply WOps.skp; rfl)
      | (apply WD.load; rfl; (first | (apply at1; (first | exact rd_ld rfl (Ld.own Tk.head rfl) rfl | exact rd_ld rfl (Ld.own (Tk.tail Tk.head) rfl) rfl | exact rd_ld rfl (Ld.own (Tk.tail (Tk.tail Tk.head)) rfl) rfl); rfl) | (apply at2; (first | exact rd_ld rfl (Ld.own Tk.head rfl) rfl | exact rd_ld rfl (Ld.own (Tk.tail Tk.head) rfl) rfl | exact rd_ld rfl (Ld.own (Tk.tail (Tk.tail Tk.head)) rfl) rfl); repeat' (first | exact same0 | (apply same1; (first | exact rd_ld rfl (Ld.own Tk.head rfl) rfl | exact rd_ld rfl (Ld.own (Tk.tail Tk.head) rfl) rfl | exact rd_ld rfl (Ld.own (Tk.tail (Tk.tail Tk.head)) rfl) rfl); rfl) | (apply same2; (first | exact rd_ld rfl (Ld.own Tk.head rfl) rfl | exact rd_ld rfl (Ld.own (Tk.tail Tk.head) rfl) rfl | exact rd_ld rfl (Ld.own (Tk.tail (Tk.tail Tk.head)) rfl) rfl))))))
      | (apply WD.cmp; rfl; rfl; rfl; rfl; intro _ _)
      | (apply WD.cmpT; rfl; rfl; rfl; rfl; intro _ _)
      | (apply WD.eqB; rfl; rfl; rfl; intro _ _)
      | (apply WD.pur; rfl; (intro _; rfl))
      | (apply WD.skp; rfl)
      | (apply WD.skpL; rfl)
      | (apply WD.skpX; rfl)
      | (apply WOps.ask; rfl; all_goals (intro hb; try subst hb))
      | (apply WC.condA; rfl; all_goals (intro hb; try subst hb))
      | (apply WD.ask; rfl; all_goals (intro hb; try subst hb)))
    · rename_i hlt
      have hlt : i < xs.length := by have h0 := hlt; simp [cmpP] at h0; omega
      obtain ⟨c, hc⟩ : ∃ c, xs[i]? = some c := ⟨xs[i], List.getElem?_eq_getElem hlt⟩
      obtain ⟨d, hd⟩ : ∃ d, ys[i]? = some d := ⟨ys[i]'(by omega), List.getElem?_eq_getElem _⟩
      have tc := tx i c hc
      have td := ty i d hd
      repeat' (first
        | apply WOps.nil
        | apply WC.seq
        | apply WC.reg
        | apply WC.skip
        | apply WC.ret
        | apply WC.exit
        | (apply WC.condT; rfl)
        | (apply WC.condF; rfl)
        | apply WC.block
        | apply WC.scope
        | apply WC.dreg
        | apply WD.nil
        | (apply WOps.ldG; rfl; rfl; (first | exact Ld.own Tk.head rfl | exact Ld.own (Tk.tail Tk.head) rfl | exact Ld.own (Tk.tail (Tk.tail Tk.head)) rfl); rfl)
        | (apply WOps.st; rfl; rfl; (first | exact Tk.head | exact (Tk.tail Tk.head) | exact (Tk.tail (Tk.tail Tk.head))); rfl; (first | rfl | ((repeat' (first | exact allCell_nil | apply allCell_cons)) <;> (first | rfl | assumption))); rfl)
        | (apply WOps.alc; rfl; intro _)
        | (apply WOps.bx; rfl; rfl; (first | rfl | ((repeat' (first | exact allCell_nil | apply allCell_cons)) <;> (first | rfl | assumption))); intro _)
        | (apply WOps.bsl; rfl; (first | rfl | ((repeat' (first | exact allCell_nil | apply allCell_cons)) <;> (first | rfl | assumption))); intro _)
        | (apply WD.st; rfl; rfl; rfl; (first | exact Tk.head | exact (Tk.tail Tk.head) | exact (Tk.tail (Tk.tail Tk.head))); rfl; (first | rfl | ((repeat' (first | exact allCell_nil | apply allCell_cons)) <;> (first | rfl | assumption))); rfl)
        | (apply WD.alc; rfl; rfl; intro _)
        | (apply WD.bsl; rfl; rfl; (first | rfl | ((repeat' (first | exact allCell_nil | apply allCell_cons)) <;> (first | rfl | assumption))); intro _)
        | (apply WD.ixSl; rfl; rfl; rfl; exact hv; exact hc; intro a1 l1)
        | (apply WD.ixSl; rfl; rfl; rfl; exact hw; exact hd; intro a2 l2)
        | (apply WD.load; rfl; (first | (apply at1; exact rd_ld rfl (l1 _ hv) rfl; rfl) | (apply at2; exact rd_ld rfl (l1 _ hv) rfl; repeat' (first | exact same0 | (apply same1; exact rd_ld rfl (l1 _ hv) rfl; rfl) | (apply same2; exact rd_ld rfl (l1 _ hv) rfl)))))
        | (apply WD.load; rfl; (first | (apply at1; exact rd_ld rfl (l2 _ hw) rfl; rfl) | (apply at2; exact rd_ld rfl (l2 _ hw) rfl; repeat' (first | exact same0 | (apply same1; exact rd_ld rfl (l2 _ hw) rfl; rfl) | (apply same2; exact rd_ld rfl (l2 _ hw) rfl)))))
        | (apply WD.eqF [.str, .str, .int .u64, .int .u64, .int .u64, .int .u64]; rfl; rfl; rfl; rfl; rfl; exact tc; exact td; intro b hb)
        | (apply WOps.addN; rfl; rfl; rfl; omega)
        | (apply WOps.cmp; rfl; rfl; rfl; rfl; intro _ _)
        | (apply WOps.cmpT; rfl; rfl; rfl; rfl; intro _ _)
        | (apply WOps.eqB; rfl; rfl; rfl; intro _ _)
        | (apply WOps.purG; rfl; (intro _; rfl))
        | (apply WOps.skp; rfl)
        | (apply WD.load; rfl; (first | (apply at1; (first | exact rd_ld rfl (Ld.own Tk.head rfl) rfl | exact rd_ld rfl (Ld.own (Tk.tail Tk.head) rfl) rfl | exact rd_ld rfl (Ld.own (Tk.tail (Tk.tail Tk.head)) rfl) rfl); rfl) | (apply at2; (first | exact rd_ld rfl (Ld.own Tk.head rfl) rfl | exact rd_ld rfl (Ld.own (Tk.tail Tk.head) rfl) rfl | exact rd_ld rfl (Ld.own (Tk.tail (Tk.tail Tk.head)) rfl) rfl); repeat' (first | exact same0 | (apply same1; (first | exact rd_ld rfl (Ld.own Tk.head rfl) rfl | exact rd_ld rfl (Ld.own (Tk.tail Tk.head) rfl) rfl | exact rd_ld rfl (Ld.own (Tk.tail (Tk.tail Tk.head)) rfl) rfl); rfl) | (apply same2; (first | exact rd_ld rfl (Ld.own Tk.head rfl) rfl | exact rd_ld rfl (Ld.own (Tk.tail Tk.head) rfl) rfl | exact rd_ld rfl (Ld.own (Tk.tail (Tk.tail Tk.head)) rfl) rfl))))))
        | (apply WD.cmp; rfl; rfl; rfl; rfl; intro _ _)
        | (apply WD.cmpT; rfl; rfl; rfl; rfl; intro _ _)
        | (apply WD.eqB; rfl; rfl; rfl; intro _ _)
        | (apply WD.pur; rfl; (intro _; rfl))
        | (apply WD.skp; rfl)
        | (apply WD.skpL; rfl)
        | (apply WD.skpX; rfl)
        | (apply WOps.ask; rfl; all_goals (intro hb; try subst hb))
        | (apply WC.condA; rfl; all_goals (intro hb; try subst hb))
        | (apply WD.ask; rfl; all_goals (intro hb; try subst hb)))
      · rename_i hb
        refine ⟨trivial, List.Sublist.refl _, [_], ⟨_, [], rfl, rfl, rfl⟩, false, rfl, ?_⟩
        simp only [Bool.false_eq_true, false_iff]
        refine ne_of hc hd ?_
        simpa [cmpS] using hb
      · rename_i hb
        have hcd : xs[i]? = ys[i]? := by
          rw [hc, hd]
          simpa [cmpS] using hb
        refine WL.le (t' := [(0, v), (1, w), (5, .int .i64 (.ofNat (i + 1)))]) (Sub1.cons rfl (Sub1.cons rfl (Sub1.cons rfl (Sub1.nil)))) (ih _ (by omega) (i + 1) (by omega) ?_ rfl)
        intro j hj
        rcases Nat.lt_or_ge j i with h1 | h1
        · exact hpre j h1
        · obtain rfl : j = i := by omega
          exact hcd
    · rename_i hge
      have hge : xs.length ≤ i := by have h0 := hge; simp [cmpP] at h0; omega
      exact ⟨trivial, List.Sublist.refl _, [_], ⟨_, [], rfl, rfl, rfl⟩, true, rfl, by simp [ext_of hl hge hpre]⟩

theorem eq19_ok {H : HL} {v w : AV} {xs ys : List (List AV)} (hv : SlIs B H v 5 xs) (hw : SlIs B H w 5 ys) (tx : ∀ (i : Nat) c, xs[i]? = some c → AllT [.str, .str, .bool, .int .u64, .int .u64] c) (ty : ∀ (i : Nat) c, ys[i]? = some c → AllT [.str, .str, .bool, .int .u64, .int .u64] c) (lx : xs.length ≤ 9223372036854775807) :
    WF B tab (.func 19) [v, w] H fun r H' => H' = H ∧ ∃ b : Bool, r = .bool b ∧ (b = true ↔ xs = ys) := by
  refine WF.fnR g19 rfl ?_
  repeat' (first
    | apply WOps.nil
    | apply WC.seq
    | apply WC.reg
    | apply WC.skip
    | apply WC.ret
    | apply WC.exit
    | (apply WC.condT; rfl)
    | (apply WC.condF; rfl)
    | apply WC.block
    | apply WC.scope
    | apply WC.dreg
    | apply WD.nil
    | (apply WOps.ldG; rfl; rfl; (first | exact Ld.own Tk.head rfl | exact Ld.own (Tk.tail Tk.head) rfl | exact Ld.own (Tk.tail (Tk.tail Tk.head)) rfl); rfl)
    | (apply WOps.st; rfl; rfl; (first | exact Tk.head | exact (Tk.tail Tk.head) | exact (Tk.tail (Tk.tail Tk.head))); rfl; (first | rfl | ((repeat' (first | exact allCell_nil | apply allCell_cons)) <;> (first | rfl | assumption))); rfl)
    | (apply WOps.alc; rfl; intro _)
    | (apply WOps.bx; rfl; rfl; (first | rfl | ((repeat' (first | exact allCell_nil | apply allCell_cons)) <;> (first | rfl | assumption))); intro _)
    | (apply WOps.bsl; rfl; (first | rfl | ((repeat' (first | exact allCell_nil | apply allCell_cons)) <;> (first | rfl | assumption))); intro _)
    | (apply WD.st; rfl; rfl; rfl; (first | exact Tk.head | exact (Tk.tail Tk.head) | exact (Tk.tail (Tk.tail Tk.head))); rfl; (first | rfl | ((repeat' (first | exact allCell_nil | apply allCell_cons)) <;> (first | rfl | assumption))); rfl)
    | (apply WD.alc; rfl; rfl; intro _)
    | (apply WD.bsl; rfl; rfl; (first | rfl | ((repeat' (first | exact allCell_nil | apply allCell_cons)) <;> (first | rfl | assumption))); intro _)
    | (apply WOps.lenS; rfl; rfl; exact hv)
    | (apply WOps.lenS; rfl; rfl; exact hw)
    | (apply WOps.cmp; rfl; rfl; rfl; rfl; intro _ _)
    | (apply WOps.cmpT; rfl; rfl; rfl; rfl; intro _ _)
    | (apply WOps.eqB; rfl; rfl; rfl; intro _ _)
    | (apply WOps.purG; rfl; (intro _; rfl))
    | (apply WOps.skp; rfl)
    | (apply WD.load; rfl; (first | (apply at1; (first | exact rd_ld rfl (Ld.own Tk.head rfl) rfl | exact rd_ld rfl (Ld.own (Tk.tail Tk.head) rfl) rfl | exact rd_ld rfl (Ld.own (Tk.tail (Tk.tail Tk.head)) rfl) rfl); rfl) | (apply at2; (first | exact rd_ld rfl (Ld.own Tk.head rfl) rfl | exact rd_ld rfl (Ld.own (Tk.tail Tk.head) rfl) rfl | exact rd_ld rfl (Ld.own (Tk.tail (Tk.tail Tk.head)) rfl) rfl); repeat' (first | exact same0 | (apply same1; (first | exact rd_ld rfl (Ld.own Tk.head rfl) rfl | exact rd_ld rfl (Ld.own (Tk.tail Tk.head) rfl) rfl | exact rd_ld rfl (Ld.own (Tk.tail (Tk.tail Tk.head)) rfl) rfl); rfl) | (apply same2; (first | exact rd_ld rfl (Ld.own Tk.head rfl) rfl | exact rd_ld rfl (Ld.own (Tk.tail Tk.head) rfl) rfl | exact rd_ld rfl (Ld.own (Tk.tail (Tk.tail Tk.head)) rfl) rfl))))))
    | (apply WD.cmp; rfl; rfl; rfl; rfl; intro _ _)
    | (apply WD.cmpT; rfl; rfl; rfl; rfl; intro _ _)
    | (apply WD.eqB; rfl; rfl; rfl; intro _ _)
    | (apply WD.pur; rfl; (intro _; rfl))
    | (apply WD.skp; rfl)
    | (apply WD.skpL; rfl)
    | (apply WD.skpX; rfl)
    | (apply WOps.ask; rfl; all_goals (intro hb; try subst hb))
    | (apply WC.condA; rfl; all_goals (intro hb; try subst hb))
    | (apply WD.ask; rfl; all_goals (intro hb; try subst hb)))
  · rename_i h
    simp [cmpP] at h
    refine ⟨trivial, List.Sublist.refl _, [_], ⟨_, [], rfl, rfl, rfl⟩, false, rfl, ?_⟩
    simp only [Bool.false_eq_true, false_iff]
    exact fun e => h (by rw [e])
  · rename_i h
    have hl : xs.length = ys.length := by have h0 := h; simp [cmpP] at h0; omega
    refine WC.loop ?_
    obtain ⟨i, hi⟩ : ∃ i : Nat, i = 0 := ⟨0, rfl⟩
    refine WL.le (t' := [(0, v), (1, w), (5, .int .i64 (.ofNat i))]) (by subst hi; exact Sub1.cons rfl (Sub1.cons rfl (Sub1.cons rfl (Sub1.nil)))) ?_
    have hle : i ≤ xs.length := by omega
    have hpre : ∀ (j : Nat), j < i → xs[j]? = ys[j]? := by intro j hj; omega
    clear hi
    induction hk : xs.length - i using Nat.strongRecOn generalizing i with | _ k ih => ?_
    apply WL.step
    repeat' (first
      | apply WOps.nil
      | apply WC.seq
      | apply WC.reg
      | apply WC.skip
      | apply WC.ret
      | apply WC.exit
      | (apply WC.condT; rfl)
      | (apply WC.condF; rfl)
      | apply WC.block
      | apply WC.scope
      | apply WC.dreg
      | apply WD.nil
      | (apply WOps.ldG; rfl; rfl; (first | exact Ld.own Tk.head rfl | exact Ld.own (Tk.tail Tk.head) rfl | exact Ld.own (Tk.tail (Tk.tail Tk.head)) rfl); rfl)
      | (apply WOps.st; rfl; rfl; (first | exact Tk.head | exact (Tk.tail Tk.head) | exact (Tk.tail (Tk.tail Tk.head))); rfl; (first | rfl | ((repeat' (first | exact allCell_nil | apply allCell_cons)) <;> (first | rfl | assumption))); rfl)
      | (apply WOps.alc; rfl; intro _)
      | (apply WOps.bx; rfl; rfl; (first | rfl | ((repeat' (first | exact allCell_nil | apply allCell_cons)) <;> (first | rfl | assumption))); intro _)
      | (apply WOps.bsl; rfl; (first | rfl | ((repeat' (first | exact allCell_nil | apply allCell_cons)) <;> (first | rfl | assumption))); intro _)
      | (apply WD.st; rfl; rfl; rfl; (first | exact Tk.head | exact (Tk.tail Tk.head) | exact (Tk.tail (Tk.tail Tk.head))); rfl; (first | rfl | ((repeat' (first | exact allCell_nil | apply allCell_cons)) <;> (first | rfl | assumption))); rfl)
      | (apply WD.alc; rfl; rfl; intro _)
      | (apply WD.bsl; rfl; rfl; (first | rfl | ((repeat' (first | exact allCell_nil | apply allCell_cons)) <;> (first | rfl | assumption))); intro _)
      | (apply WOps.lenS; rfl; rfl; exact hv)
      | (apply WOps.lenS; rfl; rfl; exact hw)
      | (apply WOps.cmp; rfl; rfl; rfl; rfl; intro _ _)
      | (apply WOps.cmpT; rfl; rfl; rfl; rfl; intro _ _)
      | (apply WOps.eqB; rfl; rfl; rfl; intro _ _)
      | (apply WOps.purG; rfl; (intro _; rfl))
      | (apply WOps.skp; rfl)
      | (apply WD.load; rfl; (first | (apply at1; (first | exact rd_ld rfl (Ld.own Tk.head rfl) rfl | exact rd_ld rfl (Ld.own (Tk.tail Tk.head) rfl) rfl | exact rd_ld rfl (Ld.own (Tk.tail (Tk.tail Tk.head)) rfl) rfl); rfl) | (apply at2; (first | exact rd_ld rfl (Ld.own Tk.head rfl) rfl | exact rd_ld rfl (Ld.own (Tk.tail Tk.head) rfl) rfl | exact rd_ld rfl (Ld.own (Tk.tail (Tk.tail Tk.head)) rfl) rfl); repeat' (first | exact same0 | (apply same1; (first | exact rd_ld rfl (Ld.own Tk.head rfl) rfl | exact rd_ld rfl (Ld.own (Tk.tail Tk.head) rfl) rfl | exact rd_ld rfl (Ld.own (Tk.tail (Tk.tail Tk.head)) rfl) rfl); rfl) | (apply same2; (first | exact rd_ld rfl (Ld.own Tk.head rfl) rfl | exact rd_ld rfl (Ld.own (Tk.tail Tk.head) rfl) rfl | exact rd_ld rfl (Ld.own (Tk.tail (Tk.tail Tk.head)) rfl) rfl))))))
      | (apply WD.cmp; rfl; rfl; rfl; rfl; intro _ _)
      | (apply WD.cmpT; rfl; rfl; rfl; rfl; intro _ _)
      | (apply WD.eqB; rfl; rfl; rfl; intro _ _)
      | (apply WD.pur; rfl; (intro _; rfl))
      | (apply WD.skp; rfl)
      | (apply WD.skpL; rfl)
      | (apply WD.skpX; rfl)
      | (apply WOps.ask; rfl; all_goals (intro hb; try subst hb))
      | (apply WC.condA; rfl; all_goals (intro hb; try subst hb))
      | (apply WD.ask; rfl; all_goals (intro hb; try subst hb)))
    · rename_i hlt
      have hlt : i < xs.length := by have h0 := hlt; simp [cmpP] at h0; omega
      obtain ⟨c, hc⟩ : ∃ c, xs[i]? = some c := ⟨xs[i], List.getElem?_eq_getElem hlt⟩
      obtain ⟨d, hd⟩ : ∃ d, ys[i]? = some d := ⟨ys[i]'(by omega), List.getElem?_eq_getElem _⟩
      have tc := tx i c hc
      have td := ty i d hd
      repeat' (first
        | apply WOps.nil
        | apply WC.seq
        | apply WC.reg
        | apply WC.skip
        | apply WC.ret
        | apply WC.exit
        | (apply WC.condT; rfl)
        | (apply WC.condF; rfl)
        | apply WC.block
        | apply WC.scope
        | apply WC.dreg
        | apply WD.nil
        | (apply WOps.ldG; rfl; rfl; (first | exact Ld.own Tk.head rfl | exact Ld.own (Tk.tail Tk.head) rfl | exact Ld.own (Tk.tail (Tk.tail Tk.head)) rfl); rfl)
        | (apply WOps.st; rfl; rfl; (first | exact Tk.head | exact (Tk.tail Tk.head) | exact (Tk.tail (Tk.tail Tk.head))); rfl; (first | rfl | ((repeat' (first | exact allCell_nil | apply allCell_cons)) <;> (first | rfl | assumption))); rfl)
        | (apply WOps.alc; rfl; intro _)
        | (apply WOps.bx; rfl; rfl; (first | rfl | ((repeat' (first | exact allCell_nil | apply allCell_cons)) <;> (first | rfl | assumption))); intro _)
        | (apply WOps.bsl; rfl; (first | rfl | ((repeat' (first | exact allCell_nil | apply allCell_cons)) <;> (first | rfl | assumption))); intro _)
        | (apply WD.st; rfl; rfl; rfl; (first | exact Tk.head | exact (Tk.tail Tk.head) | exact (Tk.tail (Tk.tail Tk.head))); rfl; (first | rfl | ((repeat' (first | exact allCell_nil | apply allCell_cons)) <;> (first | rfl | assumption))); rfl)
        | (apply WD.alc; rfl; rfl; intro _)
        | (apply WD.bsl; rfl; rfl; (first | rfl | ((repeat' (first | exact allCell_nil | apply allCell_cons)) <;> (first | rfl | assumption))); intro _)
        | (apply WD.ixSl; rfl; rfl; rfl; exact hv; exact hc; intro a1 l1)
        | (apply WD.ixSl; rfl; rfl; rfl; exact hw; exact hd; intro a2 l2)
        | (apply WD.load; rfl; (first | (apply at1; exact rd_ld rfl (l1 _ hv) rfl; rfl) | (apply at2; exact rd_ld rfl (l1 _ hv) rfl; repeat' (first | exact same0 | (apply same1; exact rd_ld rfl (l1 _ hv) rfl; rfl) | (apply same2; exact rd_ld rfl (l1 _ hv) rfl)))))
        | (apply WD.load; rfl; (first | (apply at1; exact rd_ld rfl (l2 _ hw) rfl; rfl) | (apply at2; exact rd_ld rfl (l2 _ hw) rfl; repeat' (first | exact same0 | (apply same1; exact rd_ld rfl (l2 _ hw) rfl; rfl) | (apply same2; exact rd_ld rfl (l2 _ hw) rfl)))))
        | (apply WD.eqF [.str, .str, .bool, .int .u64, .int .u64]; rfl; rfl; rfl; rfl; rfl; exact tc; exact td; intro b hb)
        | (apply WOps.addN; rfl; rfl; rfl; omega)
        | (apply WOps.cmp; rfl; rfl; rfl; rfl; intro _ _)
        | (apply WOps.cmpT; rfl; rfl; rfl; rfl; intro _ _)
        | (apply WOps.eqB; rfl; rfl; rfl; intro _ _)
        | (apply WOps.purG; rfl; (intro _; rfl))
        | (apply WOps.skp; rfl)
        | (apply WD.load; rfl; (first | (apply at1; (first | exact rd_ld rfl (Ld.own Tk.head rfl) rfl | exact rd_ld rfl (Ld.own (Tk.tail Tk.head) rfl) rfl | exact rd_ld rfl (Ld.own (Tk.tail (Tk.tail Tk.head)) rfl) rfl); rfl) | (apply at2; (first | exact rd_ld rfl (Ld.own Tk.head rfl) rfl | exact rd_ld rfl (Ld.own (Tk.tail Tk.head) rfl) rfl | exact rd_ld rfl (Ld.own (Tk.tail (Tk.tail Tk.head)) rfl) rfl); repeat' (first | exact same0 | (apply same1; (first | exact rd_ld rfl (Ld.own Tk.head rfl) rfl | exact rd_ld rfl (Ld.own (Tk.tail Tk.head) rfl) rfl | exact rd_ld rfl (Ld.own (Tk.tail (Tk.tail Tk.head)) rfl) rfl); rfl) | (apply same2; (first | exact rd_ld rfl (Ld.own Tk.head rfl) rfl | exact rd_ld rfl (Ld.own (Tk.tail Tk.head) rfl) rfl | exact rd_ld rfl (Ld.own (Tk.tail (Tk.tail Tk.head)) rfl) rfl))))))
        | (apply WD.cmp; rfl; rfl; rfl; rfl; intro _ _)
        | (apply WD.cmpT; rfl; rfl; rfl; rfl; intro _ _)
        | (apply WD.eqB; rfl; rfl; rfl; intro _ _)
        | (apply WD.pur; rfl; (intro _; rfl))
        | (apply WD.skp; rfl)
        | (apply WD.skpL; rfl)
        | (apply WD.skpX; rfl)
        | (apply WOps.ask; rfl; all_goals (intro hb; try subst hb))
        | (apply WC.condA; rfl; all_goals (intro hb; try subst hb))
        | (apply WD.ask; rfl; all_goals (intro hb; try subst hb)))
      · rename_i hb
        refine ⟨trivial, List.Sublist.refl _, [_], ⟨_, [], rfl, rfl, rfl⟩, false, rfl, ?_⟩
        simp only [Bool.false_eq_true, false_iff]
        refine ne_of hc hd ?_
        simpa [cmpS] using hb
      · rename_i hb
        have hcd : xs[i]? = ys[i]? := by
          rw [hc, hd]
          simpa [cmpS] using hb
        refine WL.le (t' := [(0, v), (1, w), (5, .int .i64 (.ofNat (i + 1)))]) (Sub1.cons rfl (Sub1.cons rfl (Sub1.cons rfl (Sub1.nil)))) (ih _ (by omega) (i + 1) (by omega) ?_ rfl)
        intro j hj
        rcases Nat.lt_or_ge j i with h1 | h1
        · exact hpre j h1
        · obtain rfl : j = i := by omega
          exact hcd
    · rename_i hge
      have hge : xs.length ≤ i := by have h0 := hge; simp [cmpP] at h0; omega
      exact ⟨trivial, List.Sublist.refl _, [_], ⟨_, [], rfl, rfl, rfl⟩, true, rfl, by simp [ext_of hl hge hpre]⟩
end Go.Proofs.YtmkcbjklcfegcaaGreat.QS
