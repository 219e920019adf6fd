/- What the functions do, shown by the logic. -/
import Derived.Test.YtgpnpcahcegadaaRoF
import Derived.Test.YtgpnpcahcegadaaAbsN2
set_option linter.unusedSimpArgs false
set_option linter.unusedVariables false
set_option maxRecDepth 20000
namespace Go.Proofs.Ytgpnpcahcegadaa.RO
open Go.Proofs.Ytgpnpcahcegadaa.Abs
variable {B : Nat → List AV}
theorem entN_T (e : TE KN) : AllT [CT.int .i64, CT.str, CT.int .u64, CT.int .u64] (entN e) := ⟨_, _, rfl, ⟨_, rfl⟩, _, _, rfl, ⟨_, rfl⟩, _, _, rfl, ⟨_, rfl⟩, _, _, rfl, ⟨_, rfl⟩, rfl⟩
theorem entC_T (e : TE KC) : AllT [CT.int .i64, CT.str, CT.str, CT.str, CT.int .i64, CT.int .u64, CT.int .u64] (entC e) := ⟨_, _, rfl, ⟨_, rfl⟩, _, _, rfl, ⟨_, rfl⟩, _, _, rfl, ⟨_, rfl⟩, _, _, rfl, ⟨_, rfl⟩, _, _, rfl, ⟨_, rfl⟩, _, _, rfl, ⟨_, rfl⟩, _, _, rfl, ⟨_, rfl⟩, rfl⟩
section rules
variable {T : Tr FnI} {t : EL} {H : HL} {HH : List (Nat × HL)} {Q : EL → HL → Prop} {k : Nat} {g : Option (Nat × Bool)} {x y : AO}
theorem WD.neN {os : List DOper} {i bs : Nat} {e : TE KN} (hg : wantedL g t = some true) (hx : gl t x = some (.agg (entN e))) (hy : gl t y = some (.agg (entN e)))
    (w : WD B tab os ((k, .bool false) :: t) H HH Q) : WD B tab (⟨⟨some k, .eq true (.str0 [(0, 1, false), (1, 1, false), (2, 1, false), (3, 1, false)] [.int, .str, .int, .int]) x y, g⟩, .quiet, i, bs⟩ :: os) t H HH Q := by
  refine WD.eqF [CT.int .i64, CT.str, CT.int .u64, CT.int .u64] (c := entN e) (d := entN e) rfl rfl hg hx hy (entN_T _) (entN_T _) fun v hv => ?_
  have : v = false := by rw [Bool.eq_false_iff]; exact fun h => hv.1 h rfl
  rw [this]; exact w
theorem WD.neC {os : List DOper} {i bs : Nat} {e : TE KC} (hg : wantedL g t = some true) (hx : gl t x = some (.agg (entC e))) (hy : gl t y = some (.agg (entC e)))
    (w : WD B tab os ((k, .bool false) :: t) H HH Q) : WD B tab (⟨⟨some k, .eq true (.str0 [(0, 1, false), (1, 1, false), (2, 1, false), (3, 1, false), (4, 1, false), (5, 1, false), (6, 1, false)] [.int, .str, .str, .str, .int, .int, .int]) x y, g⟩, .quiet, i, bs⟩ :: os) t H HH Q := by
  refine WD.eqF [CT.int .i64, CT.str, CT.str, CT.str, CT.int .i64, CT.int .u64, CT.int .u64] (c := entC e) (d := entC e) rfl rfl hg hx hy (entC_T _) (entC_T _) fun v hv => ?_
  have : v = false := by rw [Bool.eq_false_iff]; exact fun h => hv.1 h rfl
  rw [this]; exact w
theorem WD.neT {os : List DOper} {i bs : Nat} {a : List Nat} (hg : wantedL g t = some true) (hx : gl t x = some (.str a)) (hy : gl t y = some (.str a))
    (w : WD B T os ((k, .bool false) :: t) H HH Q) : WD B T (⟨⟨some k, .bin .neq x y, g⟩, .quiet, i, bs⟩ :: os) t H HH Q := WD.cmpT rfl hg hx hy fun v hv => by
  have : v = false := by rw [Bool.eq_false_iff]; exact fun h => hv.1 h rfl
  rw [this]; exact w
theorem WOps.neT {os : List AOper} {Q : EL → HL → Prop} {a : List Nat} (hg : wantedL g t = some true) (hx : gl t x = some (.str a)) (hy : gl t y = some (.str a))
    (w : WOps B T os ((k, .bool false) :: t) H Q) : WOps B T (⟨some k, .bin .neq x y, g⟩ :: os) t H Q := WOps.cmpT rfl hg hx hy fun v hv => by
  have : v = false := by rw [Bool.eq_false_iff]; exact fun h => hv.1 h rfl
  rw [this]; exact w
theorem WOps.neI {os : List AOper} {Q : EL → HL → Prop} {ki : IntKind} {a b : Int} (hg : wantedL g t = some true) (hx : gl t x = some (.int ki a)) (hy : gl t y = some (.int ki b)) (e : a = b)
    (w : WOps B T os ((k, .bool false) :: t) H Q) : WOps B T (⟨some k, .bin .neq x y, g⟩ :: os) t H Q := WOps.cmp rfl hg hx hy fun v hv => by
  have : v = false := by rw [Bool.eq_false_iff]; exact fun h => hv.1 h e
  rw [this]; exact w
end rules
theorem same37_true {H : HL} {v w : AV} {l : List (List Nat)} (hv : SlIs B H v 1 (l.map strC)) (hw : SlIs B H w 1 (l.map strC)) (hl : l.length ≤ 1000000000) :
    WF B tab (.func 37) [v, w] H fun r H' => H' = H ∧ r = .bool true := by
  refine WF.fnR g37 rfl ?_
  repeat' (first
    | apply WOps.nil | apply WC.seq | apply WC.reg | apply WC.skip | (apply WC.condF; rfl) | apply WC.block | (apply WOps.lenS; rfl; rfl; exact hv) | (apply WOps.lenS; rfl; rfl; exact hw) | (apply WOps.neI; rfl; rfl; rfl; rfl) | (apply WOps.purG; rfl; (intro _; rfl)))
  refine WC.loop ?_
  obtain ⟨i, hi⟩ : ∃ i : Nat, i = 0 := ⟨0, rfl⟩
  refine WL.le (t' := [(0, v), (1, w), (5, .int .i64 (.ofNat i))]) (by subst hi; exact Sub1.cons rfl (Sub1.cons rfl (Sub1.cons rfl Sub1.nil))) ?_
  have hle : i ≤ l.length := by omega
  clear hi
  induction hk : l.length - i using Nat.strongRecOn generalizing i with | _ k ih => ?_
  apply WL.step
  repeat' (first
    | apply WOps.nil | apply WC.seq | apply WC.reg | apply WC.skip | apply WC.ret | apply WC.exit | apply WC.block | apply WC.dreg | (apply WOps.lenS; rfl; rfl; exact hv) | (apply WOps.cmp; rfl; rfl; rfl; rfl; intro _ _) | (apply WOps.purG; rfl; (intro _; rfl)) | (apply WD.pur; rfl; (intro _; rfl)) | (apply WC.condA; rfl; all_goals (intro hb; try subst hb)))
  all_goals rw [List.length_map] at *
  · have hlt : i < l.length := by
      have h0 := ‹true = true ↔ cmpP BinOp.lss (Int.ofNat i) (Int.ofNat l.length)›.1 rfl
      simp [cmpP] at h0; omega
    have hc : (l.map strC)[i]? = some (strC l[i]) := by rw [List.getElem?_map, List.getElem?_eq_getElem hlt]; rfl
    repeat' (first
      | apply WOps.nil | apply WC.reg | apply WC.skip | (apply WC.condF; rfl) | apply WD.nil | (apply WD.ixSl; rfl; rfl; rfl; exact hv; exact hc; intro a1 l1) | (apply WD.ixSl; rfl; rfl; rfl; exact hw; exact hc; intro a2 l2) | (apply WD.load; rfl; (first | (apply at1; exact rd_ld rfl (l1 _ hv) rfl; rfl) | (apply at2; exact rd_ld rfl (l1 _ hv) rfl; repeat' (first | exact same0 | (apply same1; exact rd_ld rfl (l1 _ hv) rfl; rfl) | (apply same2; exact rd_ld rfl (l1 _ hv) rfl))))) | (apply WD.load; rfl; (first | (apply at1; exact rd_ld rfl (l2 _ hw) rfl; rfl) | (apply at2; exact rd_ld rfl (l2 _ hw) rfl; repeat' (first | exact same0 | (apply same1; exact rd_ld rfl (l2 _ hw) rfl; rfl) | (apply same2; exact rd_ld rfl (l2 _ hw) rfl))))) | (apply WD.neT; rfl; rfl; rfl) | (apply WOps.addN; rfl; rfl; rfl; omega) | (apply WOps.purG; rfl; (intro _; rfl)) | (apply WD.pur; rfl; (intro _; rfl)))
    exact WL.le (Sub1.cons rfl (Sub1.cons rfl (Sub1.cons rfl Sub1.nil))) (ih _ (by omega) (i + 1) (by omega) rfl)
  · exact ⟨trivial, List.Sublist.refl _, [_], ⟨_, [], rfl, rfl, rfl⟩, rfl⟩
theorem same8_true {H : HL} {v w : AV} {l : List (TE KN)} (hv : SlIs B H v 4 (l.map entN)) (hw : SlIs B H w 4 (l.map entN)) (hl : l.length ≤ 1000000000) :
    WF B tab (.func 8) [v, w] H fun r H' => H' = H ∧ r = .bool true := by
  refine WF.fnR g8 rfl ?_
  repeat' (first
    | apply WOps.nil | apply WC.seq | apply WC.reg | apply WC.skip | (apply WC.condF; rfl) | apply WC.block | (apply WOps.lenS; rfl; rfl; exact hv) | (apply WOps.lenS; rfl; rfl; exact hw) | (apply WOps.neI; rfl; rfl; rfl; rfl) | (apply WOps.purG; rfl; (intro _; rfl)))
  refine WC.loop ?_
  obtain ⟨i, hi⟩ : ∃ i : Nat, i = 0 := ⟨0, rfl⟩
  refine WL.le (t' := [(0, v), (1, w), (5, .int .i64 (.ofNat i))]) (by subst hi; exact Sub1.cons rfl (Sub1.cons rfl (Sub1.cons rfl Sub1.nil))) ?_
  have hle : i ≤ l.length := by omega
  clear hi
  induction hk : l.length - i using Nat.strongRecOn generalizing i with | _ k ih => ?_
  apply WL.step
  repeat' (first
    | apply WOps.nil | apply WC.seq | apply WC.reg | apply WC.skip | apply WC.ret | apply WC.exit | apply WC.block | apply WC.dreg | (apply WOps.lenS; rfl; rfl; exact hv) | (apply WOps.cmp; rfl; rfl; rfl; rfl; intro _ _) | (apply WOps.purG; rfl; (intro _; rfl)) | (apply WD.pur; rfl; (intro _; rfl)) | (apply WC.condA; rfl; all_goals (intro hb; try subst hb)))
  all_goals rw [List.length_map] at *
  · have hlt : i < l.length := by
      have h0 := ‹true = true ↔ cmpP BinOp.lss (Int.ofNat i) (Int.ofNat l.length)›.1 rfl
      simp [cmpP] at h0; omega
    have hc : (l.map entN)[i]? = some (entN l[i]) := by rw [List.getElem?_map, List.getElem?_eq_getElem hlt]; rfl
    repeat' (first
      | apply WOps.nil | apply WC.reg | apply WC.skip | (apply WC.condF; rfl) | apply WD.nil | (apply WD.ixSl; rfl; rfl; rfl; exact hv; exact hc; intro a1 l1) | (apply WD.ixSl; rfl; rfl; rfl; exact hw; exact hc; intro a2 l2) | (apply WD.load; rfl; (first | (apply at1; exact rd_ld rfl (l1 _ hv) rfl; rfl) | (apply at2; exact rd_ld rfl (l1 _ hv) rfl; repeat' (first | exact same0 | (apply same1; exact rd_ld rfl (l1 _ hv) rfl; rfl) | (apply same2; exact rd_ld rfl (l1 _ hv) rfl))))) | (apply WD.load; rfl; (first | (apply at1; exact rd_ld rfl (l2 _ hw) rfl; rfl) | (apply at2; exact rd_ld rfl (l2 _ hw) rfl; repeat' (first | exact same0 | (apply same1; exact rd_ld rfl (l2 _ hw) rfl; rfl) | (apply same2; exact rd_ld rfl (l2 _ hw) rfl))))) | (apply WD.neN (e := l[i]); rfl; rfl; rfl) | (apply WOps.addN; rfl; rfl; rfl; omega) | (apply WOps.purG; rfl; (intro _; rfl)) | (apply WD.pur; rfl; (intro _; rfl)))
    exact WL.le (Sub1.cons rfl (Sub1.cons rfl (Sub1.cons rfl Sub1.nil))) (ih _ (by omega) (i + 1) (by omega) rfl)
  · exact ⟨trivial, List.Sublist.refl _, [_], ⟨_, [], rfl, rfl, rfl⟩, rfl⟩
theorem same12_true {H : HL} {v w : AV} {l : List (TE KC)} (hv : SlIs B H v 7 (l.map entC)) (hw : SlIs B H w 7 (l.map entC)) (hl : l.length ≤ 1000000000) :
    WF B tab (.func 12) [v, w] H fun r H' => H' = H ∧ r = .bool true := by
  refine WF.fnR g12 rfl ?_
  repeat' (first
    | apply WOps.nil | apply WC.seq | apply WC.reg | apply WC.skip | (apply WC.condF; rfl) | apply WC.block | (apply WOps.lenS; rfl; rfl; exact hv) | (apply WOps.lenS; rfl; rfl; exact hw) | (apply WOps.neI; rfl; rfl; rfl; rfl) | (apply WOps.purG; rfl; (intro _; rfl)))
  refine WC.loop ?_
  obtain ⟨i, hi⟩ : ∃ i : Nat, i = 0 := ⟨0, rfl⟩
  refine WL.le (t' := [(0, v), (1, w), (5, .int .i64 (.ofNat i))]) (by subst hi; exact Sub1.cons rfl (Sub1.cons rfl (Sub1.cons rfl Sub1.nil))) ?_
  have hle : i ≤ l.length := by omega
  clear hi
  induction hk : l.length - i using Nat.strongRecOn generalizing i with | _ k ih => ?_
  apply WL.step
  repeat' (first
    | apply WOps.nil | apply WC.seq | apply WC.reg | apply WC.skip | apply WC.ret | apply WC.exit | apply WC.block | apply WC.dreg | (apply WOps.lenS; rfl; rfl; exact hv) | (apply WOps.cmp; rfl; rfl; rfl; rfl; intro _ _) | (apply WOps.purG; rfl; (intro _; rfl)) | (apply WD.pur; rfl; (intro _; rfl)) | (apply WC.condA; rfl; all_goals (intro hb; try subst hb)))
  all_goals rw [List.length_map] at *
  · have hlt : i < l.length := by
      have h0 := ‹true = true ↔ cmpP BinOp.lss (Int.ofNat i) (Int.ofNat l.length)›.1 rfl
      simp [cmpP] at h0; omega
    have hc : (l.map entC)[i]? = some (entC l[i]) := by rw [List.getElem?_map, List.getElem?_eq_getElem hlt]; rfl
    repeat' (first
      | apply WOps.nil | apply WC.reg | apply WC.skip | (apply WC.condF; rfl) | apply WD.nil | (apply WD.ixSl; rfl; rfl; rfl; exact hv; exact hc; intro a1 l1) | (apply WD.ixSl; rfl; rfl; rfl; exact hw; exact hc; intro a2 l2) | (apply WD.load; rfl; (first | (apply at1; exact rd_ld rfl (l1 _ hv) rfl; rfl) | (apply at2; exact rd_ld rfl (l1 _ hv) rfl; repeat' (first | exact same0 | (apply same1; exact rd_ld rfl (l1 _ hv) rfl; rfl) | (apply same2; exact rd_ld rfl (l1 _ hv) rfl))))) | (apply WD.load; rfl; (first | (apply at1; exact rd_ld rfl (l2 _ hw) rfl; rfl) | (apply at2; exact rd_ld rfl (l2 _ hw) rfl; repeat' (first | exact same0 | (apply same1; exact rd_ld rfl (l2 _ hw) rfl; rfl) | (apply same2; exact rd_ld rfl (l2 _ hw) rfl))))) | (apply WD.neC (e := l[i]); rfl; rfl; rfl) | (apply WOps.addN; rfl; rfl; rfl; omega) | (apply WOps.purG; rfl; (intro _; rfl)) | (apply WD.pur; rfl; (intro _; rfl)))
    exact WL.le (Sub1.cons rfl (Sub1.cons rfl (Sub1.cons rfl Sub1.nil))) (ih _ (by omega) (i + 1) (by omega) rfl)
  · exact ⟨trivial, List.Sublist.refl _, [_], ⟨_, [], rfl, rfl, rfl⟩, rfl⟩
/-- Services that are told alike. -/
def toldS (p : TE KS × AV) : KS × Int × Int := (p.1.v, p.1.mke, p.1.ix)
set_option maxHeartbeats 2000000 in
theorem same10_true {H : HL} {v w : AV} {ps qs : List (TE KS × AV)} (hv : SlIs B H v 7 (ps.map fun p => entS p.1 p.2)) (hw : SlIs B H w 7 (qs.map fun p => entS p.1 p.2)) (e : ps.map toldS = qs.map toldS)
    (tp : ∀ p, p ∈ ps → TgIn B H p.2 p.1.v.tags) (tq : ∀ p, p ∈ qs → TgIn B H p.2 p.1.v.tags) (hl : ps.length ≤ 1000000000) (ht : ∀ p, p ∈ ps → p.1.v.tags.length ≤ 1000000000) :
    WF B tab (.func 10) [v, w] H fun r H' => H' = H ∧ r = .bool true := by
  have el : ps.length = qs.length := by
    have := congrArg List.length e
    rw [List.length_map, List.length_map] at this
    exact this
  refine WF.lessP ?_
  refine WF.fn g10 rfl ?_
  repeat' (first
    | apply WOps.nil | apply WC.seq | apply WC.reg | apply WC.skip | (apply WC.condF; rfl) | apply WC.block | (apply WOps.lenS; rfl; rfl; exact hv) | (apply WOps.lenS; rfl; rfl; exact hw) | (apply WOps.neI; rfl; rfl; rfl; rw [List.length_map, List.length_map, el]) | (apply WOps.purG; rfl; (intro _; rfl)))
  refine WC.loop ?_
  obtain ⟨i, hi⟩ : ∃ i : Nat, i = 0 := ⟨0, rfl⟩
  refine WL.le (t' := [(0, v), (1, w), (5, .int .i64 (.ofNat i))]) (by subst hi; exact Sub1.cons rfl (Sub1.cons rfl (Sub1.cons rfl Sub1.nil))) ?_
  have hle : i ≤ ps.length := by omega
  clear hi
  induction hk : ps.length - i using Nat.strongRecOn generalizing i with | _ k ih => ?_
  apply WL.step
  refine WC.seq (WC.seq (WC.reg ?_))
  repeat' (first
    | apply WOps.nil | apply WC.skip | apply WC.exit | (apply WOps.lenS; rfl; rfl; exact hv) | (apply WOps.cmp; rfl; rfl; rfl; rfl; intro _ _) | (apply WOps.purG; rfl; (intro _; rfl)) | (apply WC.condA; rfl; all_goals (intro hb; try subst hb)))
  all_goals rw [List.length_map] at *
  · have hlt : i < ps.length := by
      have h0 := ‹true = true ↔ cmpP BinOp.lss (Int.ofNat i) (Int.ofNat ps.length)›.1 rfl
      simp [cmpP] at h0; omega
    have hc : (ps.map fun p => entS p.1 p.2)[i]? = some (entS ps[i].1 ps[i].2) := by rw [List.getElem?_map, List.getElem?_eq_getElem hlt]; rfl
    have hd : (qs.map fun p => entS p.1 p.2)[i]? = some (entS (qs[i]'(by omega)).1 (qs[i]'(by omega)).2) := by rw [List.getElem?_map, List.getElem?_eq_getElem (by omega)]; rfl
    have hee : toldS ps[i] = toldS (qs[i]'(by omega)) := by
      have := congrArg (fun l => l[i]?) e
      simp only [List.getElem?_map, List.getElem?_eq_getElem hlt, List.getElem?_eq_getElem (show i < qs.length by omega), Option.map_some, Option.some.injEq] at this
      exact this
    have t1 := tp _ (List.getElem_mem hlt)
    have t2 := tq _ (List.getElem_mem (show i < qs.length by omega))
    have t3 := ht _ (List.getElem_mem hlt)
    generalize ps[i] = p at hc hee t1 t3
    generalize (qs[i]'(by omega)) = q at hd hee t2
    obtain ⟨⟨pk, x, pm, pi⟩, ta⟩ := p
    obtain ⟨⟨qk, y, qm, qi⟩, tb⟩ := q
    simp only [toldS, Prod.mk.injEq] at hee
    obtain ⟨rfl, rfl, rfl⟩ := hee
    have ca := t1.1.cell
    have cb := t2.1.cell
    repeat' (first
      | apply WOps.nil | apply WC.seq | apply WC.reg | apply WC.skip | (apply WC.condF; rfl) | apply WC.block | apply WC.dreg | apply WD.nil | (apply WOps.ldG; rfl; rfl; (first | exact ld0 rfl | exact ld1 rfl | exact ld2 rfl); rfl) | (apply WD.st; rfl; rfl; rfl; (first | exact tk0 | exact tk1 | exact tk2); rfl; (first | rfl | ((repeat' (first | exact ac0 | apply ac1)) <;> (first | rfl | assumption))); rfl) | (apply WD.alc; rfl; rfl; intro _) | (apply WD.ixSl; rfl; rfl; rfl; exact hv; exact hc; intro a1 l1) | (apply WD.ixSl; rfl; rfl; rfl; exact SlIs.cons (SlIs.cons hw); exact hd; intro a2 l2) | (apply WD.load; rfl; (first | (apply at1; exact rd_ld rfl (l1 _ hv) rfl; rfl) | (apply at2; exact rd_ld rfl (l1 _ hv) rfl; repeat' (first | exact same0 | (apply same1; exact rd_ld rfl (l1 _ hv) rfl; rfl) | (apply same2; exact rd_ld rfl (l1 _ hv) rfl))))) | (apply WD.load; rfl; (first | (apply at1; exact rd_ld rfl ((by first | exact l2 _ hw | exact l2 _ (SlIs.cons hw) | exact l2 _ (SlIs.cons (SlIs.cons hw)))) rfl; rfl) | (apply at2; exact rd_ld rfl ((by first | exact l2 _ hw | exact l2 _ (SlIs.cons hw) | exact l2 _ (SlIs.cons (SlIs.cons hw)))) rfl; repeat' (first | exact same0 | (apply same1; exact rd_ld rfl ((by first | exact l2 _ hw | exact l2 _ (SlIs.cons hw) | exact l2 _ (SlIs.cons (SlIs.cons hw)))) rfl; rfl) | (apply same2; exact rd_ld rfl ((by first | exact l2 _ hw | exact l2 _ (SlIs.cons hw) | exact l2 _ (SlIs.cons (SlIs.cons hw)))) rfl))))) | (apply WOps.neI; rfl; rfl; rfl; rfl) | (apply WOps.neT; rfl; rfl; rfl) | (apply WOps.clR; rfl; rfl; exact same37_true t1.1.cons.cons t2.1.cons.cons t3; rintro _ rfl) | (apply WOps.addN; rfl; rfl; rfl; omega) | (apply WOps.purG; rfl; (intro _; rfl)) | (apply WD.pur; rfl; (intro _; rfl)))
    exact WL.le (Sub1.cons rfl (Sub1.cons rfl (Sub1.cons rfl Sub1.nil))) (WL.lessP (H1 := H) (SubP.of ((List.sublist_cons_self _ _).trans (List.sublist_cons_self _ _))) (ih _ (by omega) (i + 1) (by omega) rfl))
  · repeat' (first
      | apply WOps.nil | apply WC.seq | apply WC.reg | apply WC.ret | (apply WOps.purG; rfl; (intro _; rfl)))
    exact ⟨trivial, [_], ⟨_, [], rfl, rfl, rfl⟩, H, ⟨rfl, rfl⟩, SubP.refl⟩
theorem WD.eqA3 {T : Tr FnI} {t : EL} {H : HL} {HH : List (Nat × HL)} {Q : EL → HL → Prop} {os : List DOper} {k : Nat} {g : Option (Nat × Bool)} {i bs : Nat} {x y : AO} {a b c : Int} (hg : wantedL g t = some true) (hx : gl t x = some (.agg [.int .u64 a, .int .u64 b, .int .u64 c])) (hy : gl t y = some (.agg [.int .u64 a, .int .u64 b, .int .u64 c]))
    (w : WD B T os ((k, .bool true) :: t) H HH Q) : WD B T (⟨⟨some k, .eq false (.arr 3 1 false .int) x y, g⟩, .quiet, i, bs⟩ :: os) t H HH Q :=
  WD.pur (v := .bool true) hg (fun h => by simp [aopL, hx, hy, aEq, pure1, two, eqArr, eqInt, partOf]) w
theorem told_same {s : RS} {ps qs : List (TE KS × AV)} (e1 : ps.map (·.1) = s.ss) (e2 : qs.map (·.1) = s.ss.map (fun e => (⟨[], e.v, e.mke, e.ix⟩ : TE KS))) : qs.map toldS = ps.map toldS := by
  have h1 : qs.map toldS = (qs.map (·.1)).map (fun e => (e.v, e.mke, e.ix)) := by rw [List.map_map]; rfl
  have h2 : ps.map toldS = (ps.map (·.1)).map (fun e => (e.v, e.mke, e.ix)) := by rw [List.map_map]; rfl
  rw [h1, h2, e1, e2, List.map_map]; rfl
set_option maxHeartbeats 4000000 in
theorem same7_ok {H R R2 : HL} {rp a1 a2 a3 wp M : Nat} {s : RS} (ok : RsOk M s) (h : RosAt B H rp a1 a2 a3 M s R) (r : RefAt B H wp M s R2) :
    WF B tab (.func 7) [.ptr ⟨false, rp, 0⟩, .ptr ⟨false, wp, 0⟩] H fun r H' => H' = H ∧ r = .bool true := by
  obtain ⟨ps, v1, v2, v3, e1, hp, row, q1, q2, q3⟩ := r.rd
  have L1 := row.part 1 1 (by omega)
  have L2 := row.part 2 1 (by omega)
  have L3 := row.part 3 1 (by omega)
  have L4 := row.part 4 3 (by omega)
  have n1 : s.ns.length ≤ 1000000000 := by have := ok.n1; have := ok.m2; omega
  have n2 : s.ss.length ≤ 1000000000 := by have := ok.n2; have := ok.m2; omega
  have n3 : s.cs.length ≤ 1000000000 := by have := ok.n3; have := ok.m2; omega
  have ql : ∀ qs : List (TE KS × AV), qs.map (·.1) = s.ss.map (fun e => (⟨[], e.v, e.mke, e.ix⟩ : TE KS)) → qs.length ≤ 1000000000 := fun qs e => by
    have := congrArg List.length e
    rw [List.length_map, List.length_map] at this; omega
  have qt : ∀ qs : List (TE KS × AV), qs.map (·.1) = s.ss.map (fun e => (⟨[], e.v, e.mke, e.ix⟩ : TE KS)) → ∀ p, p ∈ qs → p.1.v.tags.length ≤ 1000000000 := fun qs e p hp => by
    have h1 : p.1 ∈ qs.map (·.1) := List.mem_map_of_mem hp
    rw [e] at h1
    obtain ⟨y, hy, h2⟩ := List.mem_map.1 h1
    have := ok.t y hy
    rw [← h2]; show y.v.tags.length ≤ _; omega
  refine WF.lessP ?_
  refine WF.fn g7 rfl ?_
  repeat' (first
    | apply WOps.nil | apply WC.seq | apply WC.reg | apply WC.ret | apply WC.dreg | apply WD.nil | (apply WD.clA; rfl; rfl; exact told9_at ok h; rintro t9 _ ⟨h9, o9, rfl⟩) | (apply WD.load; rfl; (first | (apply at1; exact rd_ld rfl ((by first | exact L1 | exact Ld.right L1)) rfl; rfl) | (apply at2; exact rd_ld rfl ((by first | exact L1 | exact Ld.right L1)) rfl; repeat' (first | exact same0 | (apply same1; exact rd_ld rfl ((by first | exact L1 | exact Ld.right L1)) rfl; rfl) | (apply same2; exact rd_ld rfl ((by first | exact L1 | exact Ld.right L1)) rfl))))) | (apply WD.clR; rfl; rfl; exact same8_true (SlIs.left (entsN_sl o9)) (SlIs.right q1) n1; rintro _ rfl) | (apply WD.clA; rfl; rfl; exact told11_at ok (h.add h9); rintro t11 _ ⟨h11, G11, qs, hqs, o11, hin, rfl⟩) | (apply WD.load; rfl; (first | (apply at1; exact rd_ld rfl ((by first | exact L2 | exact Ld.right L2 | exact Ld.right (Ld.right (Ld.right L2)))) rfl; rfl) | (apply at2; exact rd_ld rfl ((by first | exact L2 | exact Ld.right L2 | exact Ld.right (Ld.right (Ld.right L2)))) rfl; repeat' (first | exact same0 | (apply same1; exact rd_ld rfl ((by first | exact L2 | exact Ld.right L2 | exact Ld.right (Ld.right (Ld.right L2)))) rfl; rfl) | (apply same2; exact rd_ld rfl ((by first | exact L2 | exact Ld.right L2 | exact Ld.right (Ld.right (Ld.right L2)))) rfl))))) | (apply WD.clR; rfl; rfl; exact same10_true (SlIs.left (entP_sl o11)) (SlIs.right (SlIs.right (SlIs.right q2))) (told_same e1 hqs) (fun p hp => TgIn.right (TgIn.left (hin p hp))) (fun p hq => TgIn.left (G := []) (hp p hq)) (ql qs hqs) (qt qs hqs); rintro _ rfl) | (apply WD.clA; rfl; rfl; exact told13_at ok (((h.add h9).add G11).add h11); rintro t13 _ ⟨h13, o13, rfl⟩) | (apply WD.load; rfl; (first | (apply at1; exact rd_ld rfl ((by first | exact L3 | exact Ld.right L3 | exact Ld.right (Ld.right (Ld.right L3)) | exact Ld.right (Ld.right (Ld.right (Ld.right L3))))) rfl; rfl) | (apply at2; exact rd_ld rfl ((by first | exact L3 | exact Ld.right L3 | exact Ld.right (Ld.right (Ld.right L3)) | exact Ld.right (Ld.right (Ld.right (Ld.right L3))))) rfl; repeat' (first | exact same0 | (apply same1; exact rd_ld rfl ((by first | exact L3 | exact Ld.right L3 | exact Ld.right (Ld.right (Ld.right L3)) | exact Ld.right (Ld.right (Ld.right (Ld.right L3))))) rfl; rfl) | (apply same2; exact rd_ld rfl ((by first | exact L3 | exact Ld.right L3 | exact Ld.right (Ld.right (Ld.right L3)) | exact Ld.right (Ld.right (Ld.right (Ld.right L3))))) rfl))))) | (apply WD.clR; rfl; rfl; exact same12_true (SlIs.left (entsC_sl o13)) (SlIs.right (SlIs.right (SlIs.right (SlIs.right q3)))) n3; rintro _ rfl) | (apply WD.clR; rfl; rfl; exact last33_ok ok ((((h.add h9).add G11).add h11).add h13); rintro _ rfl) | (apply WD.load; rfl; (first | (apply at1; exact rd_ld rfl ((by first | exact L4 | exact Ld.right L4 | exact Ld.right (Ld.right (Ld.right L4)) | exact Ld.right (Ld.right (Ld.right (Ld.right L4))))) rfl; rfl) | (apply at2; exact rd_ld rfl ((by first | exact L4 | exact Ld.right L4 | exact Ld.right (Ld.right (Ld.right L4)) | exact Ld.right (Ld.right (Ld.right (Ld.right L4))))) rfl; repeat' (first | exact same0 | (apply same1; exact rd_ld rfl ((by first | exact L4 | exact Ld.right L4 | exact Ld.right (Ld.right (Ld.right L4)) | exact Ld.right (Ld.right (Ld.right (Ld.right L4))))) rfl; rfl) | (apply same2; exact rd_ld rfl ((by first | exact L4 | exact Ld.right L4 | exact Ld.right (Ld.right (Ld.right L4)) | exact Ld.right (Ld.right (Ld.right (Ld.right L4))))) rfl))))) | (apply WD.eqA3; rfl; rfl; rfl) | (apply WOps.purG; rfl; (intro _; rfl)) | (apply WD.pur; rfl; (intro _; rfl)))
  exact ⟨trivial, [_], ⟨_, [], rfl, rfl, rfl⟩, H, ⟨rfl, rfl⟩, h13 ++ (h11 ++ (G11 ++ h9)), permF (by intro f; simp only [List.map_cons, List.map_append, List.sum_cons, List.sum_append]; omega)⟩
theorem takeN_iff : ∀ {l c : List AV} {n : Nat}, takeN l n = some c → n ≤ l.length ∧ c = l.take n := by
  intro l c n h
  by_cases hn : n ≤ l.length
  · rw [takeN_of hn] at h
    cases h
    exact ⟨hn, rfl⟩
  · exfalso
    have key : ∀ (l : List AV) (n : Nat), ¬ n ≤ l.length → takeN l n = none := by
      intro l
      induction l with
      | nil => intro n hn; cases n with
        | zero => exact absurd (Nat.zero_le _) hn
        | succ n => rfl
      | cons x l ih => intro n hn; cases n with
        | zero => exact absurd (Nat.zero_le _) hn
        | succ n => simp only [takeN, ih n (by simpa using hn)]
    rw [key l n hn] at h
    cases h
theorem src_of {v : AV} {esz : Nat} {xs : List (List AV)} (h : SlIs B [] v esz xs) : ∀ {H : HL}, SrcIs B H v esz xs.length xs.flatten := by
  intro H
  rcases h with ⟨rfl, rfl⟩ | ⟨a, rfl, h⟩
  · exact .inl ⟨rfl, rfl, rfl⟩
  · refine .inr ⟨a, rfl, ?_⟩
    cases xs with
    | nil => exact .inl ⟨rfl, rfl⟩
    | cons x0 xs0 =>
      right
      have hro : a.ro = true := by
        rcases h 0 x0 rfl with ⟨h1, _⟩ | ⟨_, cs, R, tk, _⟩
        · exact h1
        · have := tk.length_eq
          simp at this
      left
      refine ⟨hro, ?_⟩
      have key : ∀ (ys : List (List AV)) (off : Nat), (∀ i c, ys[i]? = some c → takeN ((B a.id).drop (off + i * esz)) esz = some c) → takeN ((B a.id).drop off) (ys.length * esz) = some ys.flatten := by
        intro ys
        induction ys with
        | nil => intro off _; simp [takeN_of]
        | cons y ys ih =>
          intro off hh
          have h0 := takeN_iff (hh 0 y rfl)
          rw [Nat.zero_mul, Nat.add_zero] at h0
          have h1 := takeN_iff (ih (off + esz) fun i c hc => by
            have := hh (i + 1) c (by simpa using hc)
            rw [Nat.succ_mul] at this
            rw [show off + esz + i * esz = off + (i * esz + esz) by omega]
            exact this)
          rw [List.length_drop] at h0 h1
          rw [takeN_of (by rw [List.length_drop, List.length_cons, Nat.succ_mul]; omega), List.length_cons, Nat.succ_mul, Nat.add_comm (ys.length * esz) esz, List.take_add, List.flatten_cons, h1.2, h0.2, List.drop_drop]
      refine key (x0 :: xs0) a.off fun i c hc => ?_
      rcases h i c hc with ⟨_, h2⟩ | ⟨_, cs, R, tk, _⟩
      · exact h2
      · have := tk.length_eq
        simp at this
theorem RefAt.ex {H R : HL} {wp M : Nat} {s : RS} (h : RefAt B H wp M s R) : ∃ X, H.Perm (X ++ R) := by
  obtain ⟨ps, v1, v2, v3, h1, h2, h3, e1, hp, o1, o2, o3, q⟩ := h
  refine ⟨(wp, .row (refC M v1 v2 v3 s)) :: (h1 ++ (h2 ++ h3)), q.trans (permF ?_)⟩
  intro f
  simp only [List.map_cons, List.map_append, List.sum_cons, List.sum_append]
  omega
theorem works6 {H : HL} : WF B tab (.func 6) [] H fun r H' => H' = H ∧ r = .bool true := by
  refine WF.fnR g6 rfl ?_
  exact WC.reg (WOps.pur (fun _ => rfl) (WOps.nil ⟨trivial, List.Sublist.refl _, [_], ⟨_, [], rfl, rfl, rfl⟩, rfl⟩))
set_option maxHeartbeats 4000000 in
theorem loads_ok {most l1 l2 l3 : Int} {vn vs vc : AV} {nl : List (TE KN)} {sl : List (TE KS × AV)} {cl : List (TE KC)} (hn : SlIs B [] vn 4 (nl.map entN)) (hs : SlIs B [] vs 7 (sl.map fun p => entS p.1 p.2)) (hc : SlIs B [] vc 7 (cl.map entC))
    (ln : nl.length ≤ 9223372036854775807) (ls : sl.length ≤ 9223372036854775807) (lc : cl.length ≤ 9223372036854775807)
    (os : ∀ p, p ∈ sl → SvIs B [] p.1.v p.2) (oc : ∀ e, e ∈ cl → CkIs e.v) (p1 : 0 ≤ l1) (p2 : 0 ≤ l2) (p3 : 0 ≤ l3) :
    WF B tab (.func 3) [.int .i64 most, .agg [vn, vs, vc, .int .u64 l1, .int .u64 l2, .int .u64 l3]] [] fun v _ => v = .bool true := by
  have cn := hn.cell
  have cs := hs.cell
  have cc := hc.cell
  have D4 := fun H0 : HL => load4_ok (B := B) (H0 := H0) (most := most) (l1 := l1) (l2 := l2) (l3 := l3) (nl := nl) (sl := sl) (cl := cl) (SlIs.left (R := H0) hn) (SlIs.left (R := H0) hs) (SlIs.left (R := H0) hc) (by omega) (by omega) (by omega) (fun p hp => ⟨TgIn.left (G := []) (X := H0) ⟨(os p hp).t, (os p hp).u⟩, (os p hp).l, (os p hp).i, (os p hp).n, (os p hp).s⟩) oc
  have D5 := fun H0 : HL => load5_ok (B := B) (H0 := H0) (most := most) (l1 := l1) (l2 := l2) (l3 := l3) (nl := nl) (sl := sl) (cl := cl) (SlIs.left (R := H0) hn) (SlIs.left (R := H0) hs) (SlIs.left (R := H0) hc) ln ls lc os oc
  refine WF.lessP ?_
  refine WF.fn g3 rfl ?_
  refine WC.seq (WC.reg ?_)
  repeat' (first
    | apply WOps.nil | (apply WOps.bx; rfl; rfl; (first | rfl | ((repeat' (first | exact ac0 | apply ac1)) <;> (first | rfl | assumption))); intro _) | (apply WOps.purG; rfl; (intro _; rfl)))
  rename_i p9
  cases hL : loadAll (mostOf most) l1 l2 l3 nl (sl.map (·.1)) cl with
  | none =>
    unfold loadAll at hL
    simp only [hL] at D4 D5
    repeat' (first
      | apply WOps.nil | apply WC.seq | apply WC.reg | apply WC.ret | (apply WC.condT; rfl) | (apply WOps.ldG; rfl; rfl; (first | exact ld0 rfl | exact ld1 rfl | exact ld2 rfl); rfl) | (apply WOps.clA; rfl; rfl; exact D4 _; rintro _ _ ⟨rfl, rfl⟩) | (apply WOps.clA; rfl; rfl; exact D5 _; rintro _ _ ⟨rfl, rfl⟩) | (apply WOps.clG1; rfl; rfl; exact WF.const g6) | (apply WOps.eqlT; rfl; rfl; rfl; decide) | (apply WOps.purG; rfl; (intro _; rfl)))
    exact ⟨trivial, [_], ⟨_, [], rfl, rfl, rfl⟩, _, rfl, SubP.refl⟩
  | some s =>
    obtain ⟨i1, i2, i3, m1, m2, m3⟩ := loadAll_is hL p1 p2 p3
    unfold loadAll at hL
    simp only [hL, m1, m2, m3] at D4 D5
    have en : s.ns.map entN = nl.map entN := by rw [i1, List.map_map]; rfl
    have ec : s.cs.map entC = cl.map entC := by rw [i3, List.map_map]; rfl
    have es : ∀ qs : List (TE KS × AV), qs.map (·.1) = s.ss.map (fun e => (⟨[], e.v, e.mke, e.ix⟩ : TE KS)) → qs.map toldS = sl.map toldS := fun qs e => by
      have h1 : qs.map toldS = (qs.map (·.1)).map (fun e => (e.v, e.mke, e.ix)) := by rw [List.map_map]; rfl
      have h2 : sl.map toldS = (sl.map (·.1)).map (fun e => (e.v, e.mke, e.ix)) := by rw [List.map_map]; rfl
      rw [h1, h2, e, i2, List.map_map, List.map_map]; rfl
    refine WC.seq (WC.reg ?_)
    repeat' (first
      | apply WOps.nil | (apply WOps.ldG; rfl; rfl; (first | exact ld0 rfl | exact ld1 rfl | exact ld2 rfl); rfl) | (apply WOps.clA; rfl; rfl; exact D4 _; rintro _ H1 ⟨rp, a1, a2, a3, rfl, hX⟩) | (apply WOps.purG; rfl; (intro _; rfl)))
    refine WC.seq (WC.reg ?_)
    repeat' (first
      | apply WOps.nil | (apply WOps.clA; rfl; rfl; exact D5 _; rintro _ H2 ⟨wp, rfl, ok0, hF⟩) | (apply WOps.ldG; rfl; rfl; exact hX.ld (Ld.own Tk.head rfl); rfl) | (apply WOps.purG; rfl; (intro _; rfl)))
    have ok : RsOk (mostOf most) { s with l1 := l1, l2 := l2, l3 := l3 } := ⟨ok0.m1, ok0.m2, ok0.n1, ok0.n2, ok0.n3, ok0.r1, ok0.r2, ok0.r3, ok0.t⟩
    obtain ⟨X, pX⟩ := hF.ex
    have h := (hX.add X).permL pX
    have L0 : Ld B H2 ⟨false, p9, 0⟩ 1 [vn] := hF.ld (hX.ld (Ld.own Tk.head rfl))
    have L1 : Ld B H2 ⟨false, p9, 1⟩ 1 [vs] := hF.ld (hX.ld (Ld.own Tk.head rfl))
    have L2 : Ld B H2 ⟨false, p9, 2⟩ 1 [vc] := hF.ld (hX.ld (Ld.own Tk.head rfl))
    have hn : ∀ H0 : HL, SlIs B H0 vn 4 (s.ns.map entN) := fun H0 => by rw [en]; exact SlIs.left (R := H0) hn
    have hs : ∀ H0 : HL, SlIs B H0 vs 7 (sl.map fun p => entS p.1 p.2) := fun H0 => SlIs.left (R := H0) hs
    have hc : ∀ H0 : HL, SlIs B H0 vc 7 (s.cs.map entC) := fun H0 => by rw [ec]; exact SlIs.left (R := H0) hc
    have n1 : s.ns.length ≤ 1000000000 := by have := ok.n1; have := ok.m2; simp only at *; omega
    have n2 : s.ss.length ≤ 1000000000 := by have := ok.n2; have := ok.m2; simp only at *; omega
    have n3 : s.cs.length ≤ 1000000000 := by have := ok.n3; have := ok.m2; simp only at *; omega
    have ql : ∀ qs : List (TE KS × AV), qs.map (·.1) = s.ss.map (fun e => (⟨[], e.v, e.mke, e.ix⟩ : TE KS)) → qs.length ≤ 1000000000 := fun qs e => by
      have := congrArg List.length e
      rw [List.length_map, List.length_map] at this; omega
    have qt : ∀ qs : List (TE KS × AV), qs.map (·.1) = s.ss.map (fun e => (⟨[], e.v, e.mke, e.ix⟩ : TE KS)) → ∀ p, p ∈ qs → p.1.v.tags.length ≤ 1000000000 := fun qs e p hp => by
      have h1 : p.1 ∈ qs.map (·.1) := List.mem_map_of_mem hp
      rw [e] at h1
      obtain ⟨y, hy, h2⟩ := List.mem_map.1 h1
      have := ok.t y hy
      rw [← h2]; show y.v.tags.length ≤ _; omega
    clear D4 D5 hX pX hL en ec
    repeat' (first
      | apply WOps.nil | apply WC.seq | apply WC.reg | apply WC.skip | apply WC.ret | (apply WC.condF; rfl) | apply WC.dreg | apply WD.nil | (apply WD.clR; rfl; rfl; exact same7_ok ok h hF; rintro _ rfl) | (apply WD.clA; rfl; rfl; exact told9_at ok h; rintro t9 _ ⟨h9, o9, rfl⟩) | (apply WD.load; rfl; (first | (apply at1; exact rd_ld rfl ((by first | exact L0 | exact Ld.right L0)) rfl; rfl) | (apply at2; exact rd_ld rfl ((by first | exact L0 | exact Ld.right L0)) rfl; repeat' (first | exact same0 | (apply same1; exact rd_ld rfl ((by first | exact L0 | exact Ld.right L0)) rfl; rfl) | (apply same2; exact rd_ld rfl ((by first | exact L0 | exact Ld.right L0)) rfl))))) | (apply WD.clR; rfl; rfl; exact same8_true (SlIs.left (entsN_sl o9)) (hn _) n1; rintro _ rfl) | (apply WD.clA; rfl; rfl; exact told11_at ok (h.add h9); rintro t11 _ ⟨h11, G11, qs, hqs, o11, hin, rfl⟩) | (apply WD.load; rfl; (first | (apply at1; exact rd_ld rfl ((by first | exact L1 | exact Ld.right L1 | exact Ld.right (Ld.right (Ld.right L1)))) rfl; rfl) | (apply at2; exact rd_ld rfl ((by first | exact L1 | exact Ld.right L1 | exact Ld.right (Ld.right (Ld.right L1)))) rfl; repeat' (first | exact same0 | (apply same1; exact rd_ld rfl ((by first | exact L1 | exact Ld.right L1 | exact Ld.right (Ld.right (Ld.right L1)))) rfl; rfl) | (apply same2; exact rd_ld rfl ((by first | exact L1 | exact Ld.right L1 | exact Ld.right (Ld.right (Ld.right L1)))) rfl))))) | (apply WD.clR; rfl; rfl; exact same10_true (SlIs.left (entP_sl o11)) (hs _) (es qs hqs) (fun p hp => TgIn.right (TgIn.left (hin p hp))) (fun p hp => TgIn.left (G := []) ⟨(os p hp).t, (os p hp).u⟩) (ql qs hqs) (qt qs hqs); rintro _ rfl) | (apply WD.clA; rfl; rfl; exact told13_at ok (((h.add h9).add G11).add h11); rintro t13 _ ⟨h13, o13, rfl⟩) | (apply WD.load; rfl; (first | (apply at1; exact rd_ld rfl ((by first | exact L2 | exact Ld.right L2 | exact Ld.right (Ld.right (Ld.right L2)) | exact Ld.right (Ld.right (Ld.right (Ld.right L2))))) rfl; rfl) | (apply at2; exact rd_ld rfl ((by first | exact L2 | exact Ld.right L2 | exact Ld.right (Ld.right (Ld.right L2)) | exact Ld.right (Ld.right (Ld.right (Ld.right L2))))) rfl; repeat' (first | exact same0 | (apply same1; exact rd_ld rfl ((by first | exact L2 | exact Ld.right L2 | exact Ld.right (Ld.right (Ld.right L2)) | exact Ld.right (Ld.right (Ld.right (Ld.right L2))))) rfl; rfl) | (apply same2; exact rd_ld rfl ((by first | exact L2 | exact Ld.right L2 | exact Ld.right (Ld.right (Ld.right L2)) | exact Ld.right (Ld.right (Ld.right (Ld.right L2))))) rfl))))) | (apply WD.clR; rfl; rfl; exact same12_true (SlIs.left (entsC_sl o13)) (hc _) n3; rintro _ rfl) | (apply WD.clR; rfl; rfl; exact works6; rintro _ rfl) | (apply WD.eqlT; rfl; rfl; rfl; decide) | (apply WOps.purG; rfl; (intro _; rfl)) | (apply WD.pur; rfl; (intro _; rfl)))
    exact ⟨trivial, [_], ⟨_, [], rfl, rfl, rfl⟩, _, rfl, SubP.refl⟩
theorem t3 : tyOf Try.prog 3 = .int .i64 := by kernel_rfl
theorem t9 : tyOf Try.prog 9 = .str := by kernel_rfl
theorem t25 : tyOf Try.prog 25 = .int .u64 := by kernel_rfl
theorem t22 : tyOf Try.prog 22 = .sl 50 4 := by kernel_rfl
theorem t23 : tyOf Try.prog 23 = .sl 58 7 := by kernel_rfl
theorem t24 : tyOf Try.prog 24 = .sl 63 7 := by kernel_rfl
theorem t56 : tyOf Try.prog 56 = .sl 9 1 := by kernel_rfl
theorem t26 : tyOf Try.prog 26 = .st [(0, 1, 25), (1, 1, 25), (2, 1, 25)] := by kernel_rfl
theorem t28 : tyOf Try.prog 28 = .st [(0, 1, 22), (1, 1, 23), (2, 1, 24), (3, 3, 26)] := by kernel_rfl
theorem t50 : tyOf Try.prog 50 = .st [(0, 1, 3), (1, 1, 9), (2, 1, 25), (3, 1, 25)] := by kernel_rfl
theorem t58 : tyOf Try.prog 58 = .st [(0, 1, 3), (1, 1, 9), (2, 1, 9), (3, 1, 56), (4, 1, 3), (5, 1, 25), (6, 1, 25)] := by kernel_rfl
theorem t63 : tyOf Try.prog 63 = .st [(0, 1, 3), (1, 1, 9), (2, 1, 9), (3, 1, 9), (4, 1, 3), (5, 1, 25), (6, 1, 25)] := by kernel_rfl
theorem b9 : Try.prog.bytesOf 9 = 16 := by kernel_rfl
theorem list_of {α : Type} {P : α → Prop} {f : α → List AV} {xs : List (List AV)} (h : ∀ (i : Nat) c, xs[i]? = some c → ∃ a, c = f a ∧ P a) : ∃ l : List α, xs = l.map f ∧ ∀ a, a ∈ l → P a := by
  induction xs with
  | nil => exact ⟨[], rfl, fun a ha => by cases ha⟩
  | cons c xs ih =>
    obtain ⟨l, e, hl⟩ := ih fun i c' h' => h (i + 1) c' (by simpa using h')
    obtain ⟨a, e2, ha⟩ := h 0 c (by simp)
    refine ⟨a :: l, by rw [e, e2]; rfl, fun b hb => ?_⟩
    rcases List.mem_cons.1 hb with h3 | h3
    · rw [h3]; exact ha
    · exact hl b h3
theorem node_of {n : Nat} {c : List AV} (h : Is Try.prog B n 50 c) : ∃ e : TE KN, c = entN e ∧ True := by
  obtain ⟨m, h0⟩ := h.st t50
  obtain ⟨a1, r1, e1, _, _, h1⟩ := h0.int t3
  obtain ⟨a2, r2, e2, _, _, h2⟩ := h1.str t9
  obtain ⟨a3, r3, e3, _, _, h3⟩ := h2.int t25
  obtain ⟨a4, r4, e4, _, _, h4⟩ := h3.int t25
  have e5 := h4.nil
  exact ⟨⟨[], ⟨a1, a2⟩, a3, a4⟩, by rw [e1, e2, e3, e4, e5]; rfl, trivial⟩
theorem strF {m : Nat} {o sz : Nat} {fs : List (Nat × Nat × Nat)} {cs : List AV} (h : IsAll (Is Try.prog B m) ((o, sz, 9) :: fs) cs) : ∃ s r, cs = .str s :: r ∧ s.length ≤ 140737488351232 ∧ IsAll (Is Try.prog B m) fs r := by
  obtain ⟨p, r, e, _, h1, h2⟩ := h.cons
  obtain ⟨s, e2, h3⟩ := h1.strB t9
  exact ⟨s, r, by rw [e, e2]; rfl, h3, h2⟩
theorem check_of {n : Nat} {c : List AV} (h : Is Try.prog B n 63 c) : ∃ e : TE KC, c = entC e ∧ CkIs e.v := by
  obtain ⟨m, h0⟩ := h.st t63
  obtain ⟨a1, r1, e1, _, _, h1⟩ := h0.int t3
  obtain ⟨a2, r2, e2, b2, h2⟩ := strF h1
  obtain ⟨a3, r3, e3, b3, h3⟩ := strF h2
  obtain ⟨a4, r4, e4, b4, h4⟩ := strF h3
  obtain ⟨a5, r5, e5, _, _, h5⟩ := h4.int t3
  obtain ⟨a6, r6, e6, _, _, h6⟩ := h5.int t25
  obtain ⟨a7, r7, e7, _, _, h7⟩ := h6.int t25
  have e8 := h7.nil
  exact ⟨⟨[], ⟨a1, a2, a3, a4, a5⟩, a6, a7⟩, by rw [e1, e2, e3, e4, e5, e6, e7, e8]; rfl, ⟨b2, b3, b4⟩⟩
theorem service_of {n : Nat} {c : List AV} (h : Is Try.prog B n 58 c) : ∃ p : TE KS × AV, c = entS p.1 p.2 ∧ SvIs B [] p.1.v p.2 := by
  obtain ⟨m, h0⟩ := h.st t58
  obtain ⟨a1, r1, e1, _, _, h1⟩ := h0.int t3
  obtain ⟨a2, r2, e2, b2, h2⟩ := strF h1
  obtain ⟨a3, r3, e3, b3, h3⟩ := strF h2
  obtain ⟨p4, r4, e4, _, g4, h4⟩ := h3.cons
  obtain ⟨m2, tg, xs, e4b, k1, k2, k3, k4⟩ := g4.sliceB t56
  obtain ⟨tags, kt, ks⟩ := list_of (α := List Nat) (P := fun s => s.length ≤ 9223372036854775807) (f := strC) (xs := xs) fun i c hc => by
    obtain ⟨s, e, _, hl⟩ := (k4 i c hc).str t9
    exact ⟨s, e, hl⟩
  obtain ⟨a5, r5, e5, _, _, h5⟩ := h4.int t3
  obtain ⟨a6, r6, e6, _, _, h6⟩ := h5.int t25
  obtain ⟨a7, r7, e7, _, _, h7⟩ := h6.int t25
  have e8 := h7.nil
  rw [kt] at k1 k3
  rw [b9, List.length_map] at k3
  have k5 : tags.length ≤ 8796093021952 := by
    have : reachBytes = 140737488351232 := rfl
    omega
  refine ⟨(⟨[], ⟨a1, a2, a3, tags, a5⟩, a6, a7⟩, tg), by rw [e1, e2, e3, e4, e4b, e5, e6, e7, e8]; rfl, ⟨k1, (by have q := src_of (H := []) k1; rw [List.length_map] at q; exact q), k5, b2, b3, ks⟩⟩
theorem rosterLoads_wf (B : Nat → List AV) (args : List AV) (h : ArgIs Try.prog B Try.f3.params.toList args) : WF B tab (.func 3) args [] fun v _ => v = .bool true := by
  rw [show Try.f3.params.toList = [3, 28] from by kernel_rfl] at h
  match args, h with
  | [a, b], ⟨⟨n, cs, h, ha⟩, ⟨n2, ds, k, hb⟩, _⟩ =>
    rw [show (shapeOf Try.prog 3).1 = false from by kernel_rfl] at ha
    rw [show (shapeOf Try.prog 28).1 = true from by kernel_rfl] at hb
    simp only at ha hb
    obtain ⟨m, e1, _⟩ := h.int t3
    obtain ⟨m2, k0⟩ := k.st t28
    obtain ⟨p1, r1, f1, _, g1, k1⟩ := k0.cons
    obtain ⟨p2, r2, f2, _, g2, k2⟩ := k1.cons
    obtain ⟨p3, r3, f3, _, g3, k3⟩ := k2.cons
    obtain ⟨p4, r4, f4, _, g4, k4⟩ := k3.cons
    have f5 := k4.nil
    obtain ⟨_, vn, xn, d1, s1, l1, q1⟩ := g1.slice t22
    obtain ⟨_, vs, xs, d2, s2, l2, q2⟩ := g2.slice t23
    obtain ⟨_, vc, xc, d3, s3, l3, q3⟩ := g3.slice t24
    obtain ⟨m3, j0⟩ := g4.st t26
    obtain ⟨i1, u1, w1, y1, _, j1⟩ := j0.int t25
    obtain ⟨i2, u2, w2, y2, _, j2⟩ := j1.int t25
    obtain ⟨i3, u3, w3, y3, _, j3⟩ := j2.int t25
    have w4 := j3.nil
    obtain ⟨nl, en, _⟩ := list_of (f := entN) fun i c hc => node_of (q1 i c hc)
    obtain ⟨sl, es, hs⟩ := list_of (f := fun p : TE KS × AV => entS p.1 p.2) fun i c hc => service_of (q2 i c hc)
    obtain ⟨cl, ec, hc⟩ := list_of (f := entC) fun i c hc => check_of (q3 i c hc)
    have e : IntKind.u64.min = 0 := by decide
    rw [e] at y1 y2 y3
    rw [en] at s1 l1
    rw [es] at s2 l2
    rw [ec] at s3 l3
    rw [List.length_map] at l1 l2 l3
    rw [f1, f2, f3, f4, f5, d1, d2, d3, w1, w2, w3, w4] at hb
    rw [e1] at ha
    cases ha
    cases hb
    exact loads_ok s1 s2 s3 l1 l2 l3 hs hc y1 y2 y3
end Go.Proofs.Ytgpnpcahcegadaa.RO
