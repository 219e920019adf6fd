/- What the functions do, shown by the logic. -/
import Derived.Test.YtdcbglljljfleaaDuE
set_option linter.unusedSimpArgs false
set_option linter.unusedVariables false
set_option linter.unusedSectionVars false
set_option maxRecDepth 20000
namespace Go.Proofs.Ytdcbglljljfleaa.DU
open Go.Proofs.Ytdcbglljljfleaa.Abs
variable {B : Nat → List AV}
section rules
variable {T : Tr FnI} {t : EL} {H : HL} {HH : List (Nat × HL)} {Q : EL → HL → Prop} {k : Nat} {g : Option (Nat × Bool)} {x y : AO}
theorem WD.neR {os : List DOper} {i bs : Nat} (cts : List CT) {fs : List (Nat × Nat × Bool)} {ps : List EqP} {c : List AV} (hf : fs = flatF 0 cts.length) (hp : ps = cts.map CT.pl) (hg : wantedL g t = some true) (hx : gl t x = some (.agg c)) (hy : gl t y = some (.agg c)) (hc : AllT cts c)
  (w : WD B tab os ((k, .bool false) :: t) H HH Q) : WD B tab (⟨⟨some k, .eq true (.str0 fs ps) x y, g⟩, .quiet, i, bs⟩ :: os) t H HH Q := by
 refine WD.eqF cts (c := c) (d := c) hf hp hg hx hy hc hc fun v hv => ?_
 have : v = false := by rw [Bool.eq_false_iff]; exact fun h => hv.1 h rfl
 rw [this]; exact w
theorem WD.neT {os : List DOper} {i bs : Nat} {a : List Nat} (hg : wantedL g t = some true) (hx : gl t x = some (.str a)) (hy : gl t y = some (.str a))
  (w : WD B T os ((k, .bool false) :: t) H HH Q) : WD B T (⟨⟨some k, .bin .neq x y, g⟩, .quiet, i, bs⟩ :: os) t H HH Q := WD.cmpT rfl hg hx hy fun v hv => by
 have : v = false := by rw [Bool.eq_false_iff]; exact fun h => hv.1 h rfl
 rw [this]; exact w
theorem WOps.neT {os : List AOper} {Q : EL → HL → Prop} {a : List Nat} (hg : wantedL g t = some true) (hx : gl t x = some (.str a)) (hy : gl t y = some (.str a))
  (w : WOps B T os ((k, .bool false) :: t) H Q) : WOps B T (⟨some k, .bin .neq x y, g⟩ :: os) t H Q := WOps.cmpT rfl hg hx hy fun v hv => by
 have : v = false := by rw [Bool.eq_false_iff]; exact fun h => hv.1 h rfl
 rw [this]; exact w
theorem WOps.neI {os : List AOper} {Q : EL → HL → Prop} {ki : IntKind} {a b : Int} (hg : wantedL g t = some true) (hx : gl t x = some (.int ki a)) (hy : gl t y = some (.int ki b)) (e : a = b)
  (w : WOps B T os ((k, .bool false) :: t) H Q) : WOps B T (⟨some k, .bin .neq x y, g⟩ :: os) t H Q := WOps.cmp rfl hg hx hy fun v hv => by
 have : v = false := by rw [Bool.eq_false_iff]; exact fun h => hv.1 h e
 rw [this]; exact w
end rules
theorem same93_true {H : HL} {v w : AV} {l : List (List Nat)} (hv : SlIs B H v 1 (l.map strC)) (hw : SlIs B H w 1 (l.map strC)) (hl : l.length ≤ 9223372036854775807) :
  WF B tab (.func 93) [v, w] H fun r H' => H' = H ∧ r = .bool true := by
 refine WF.fnR g93 rfl ?_
 repeat' (first
  | apply WOps.nil | apply WC.seq | apply WC.reg | apply WC.skip | (apply WC.condF; rfl) | apply WC.block | (apply WOps.lenS; rfl; rfl; exact hv) | (apply WOps.lenS; rfl; rfl; exact hw) | (apply WOps.neI; rfl; rfl; rfl; rfl) | (apply WOps.purG; rfl; (intro _; rfl)))
 refine WC.loop ?_
 obtain ⟨i, hi⟩ : ∃ i : Nat, i = 0 := ⟨0, rfl⟩
 refine WL.le (t' := [(0, v), (1, w), (5, .int .i64 (.ofNat i))]) (by subst hi; exact Sub1.cons rfl (Sub1.cons rfl (Sub1.cons rfl Sub1.nil))) ?_
 have hle : i ≤ l.length := by omega
 clear hi
 induction hk : l.length - i using Nat.strongRecOn generalizing i with | _ k ih => ?_
 apply WL.step
 repeat' (first
  | apply WOps.nil | apply WC.seq | apply WC.reg | apply WC.skip | apply WC.ret | apply WC.exit | apply WC.block | apply WC.dreg | (apply WOps.lenS; rfl; rfl; exact hv) | (apply WOps.cmp; rfl; rfl; rfl; rfl; intro _ _) | (apply WOps.purG; rfl; (intro _; rfl)) | (apply WD.pur; rfl; (intro _; rfl)) | (apply WC.condA; rfl; all_goals (intro hb; try subst hb)))
 all_goals rw [List.length_map] at *
 ·have hlt : i < l.length := by
   have h0 := ‹true = true ↔ cmpP BinOp.lss (Int.ofNat i) (Int.ofNat l.length)›.1 rfl
   simp [cmpP] at h0; omega
  have hc : (l.map strC)[i]? = some (strC l[i]) := by rw [List.getElem?_map, List.getElem?_eq_getElem hlt]; rfl
  repeat' (first
   | apply WOps.nil | apply WC.reg | apply WC.skip | (apply WC.condF; rfl) | apply WD.nil | (apply WD.ixSl; rfl; rfl; rfl; exact hv; exact hc; intro a1 l1) | (apply WD.ixSl; rfl; rfl; rfl; exact hw; exact hc; intro a2 l2) | (apply WD.load; rfl; · repeat' (first | refine at1 ?_ rfl | apply at2 | exact same0 | refine same1 ?_ rfl | apply same2 | exact rd_ld rfl (l1 _ hv) rfl)) | (apply WD.load; rfl; · repeat' (first | refine at1 ?_ rfl | apply at2 | exact same0 | refine same1 ?_ rfl | apply same2 | exact rd_ld rfl (l2 _ hw) rfl)) | (apply WD.neT; rfl; rfl; rfl) | (apply WOps.addN; rfl; rfl; rfl; omega) | (apply WOps.purG; rfl; (intro _; rfl)) | (apply WD.pur; rfl; (intro _; rfl)))
  exact WL.le (Sub1.cons rfl (Sub1.cons rfl (Sub1.cons rfl Sub1.nil))) (ih _ (by omega) (i + 1) (by omega) rfl)
 ·exact ⟨trivial, List.Sublist.refl _, [_], ⟨_, [], rfl, rfl, rfl⟩, rfl⟩
theorem plain_eq {sh : List Fd → Prop} (hs : ∀ r, sh r → stripR r = r) : ∀ {a b : List (List Fd)}, (∀ r, r ∈ a → sh r) → (∀ r, r ∈ b → sh r) → a.map stripR = b.map stripR → a = b := by
 intro a
 induction a with
 | nil => intro b _ _ e; cases b; rfl; cases e
 | cons x a ih =>
  intro b h1 h2 e
  cases b with
  | nil => cases e
  | cons y b =>
   simp only [List.map_cons, List.cons.injEq] at e
   rw [hs x (h1 x List.mem_cons_self), hs y (h2 y List.mem_cons_self)] at e
   rw [e.1, ih (fun r h => h1 r (List.mem_cons_of_mem _ h)) (fun r h => h2 r (List.mem_cons_of_mem _ h)) e.2]
theorem shN_T {r : List Fd} (h : shN r) : AllT [CT.int .i64, CT.str, CT.int .u64, CT.int .u64] (rowC r) := by
 obtain ⟨a, b, c, d, rfl⟩ := h
 exact ⟨_, _, rfl, ⟨_, rfl⟩, ⟨_, _, rfl, ⟨_, rfl⟩, ⟨_, _, rfl, ⟨_, rfl⟩, ⟨_, _, rfl, ⟨_, rfl⟩, rfl⟩⟩⟩⟩
theorem shN_id (r : List Fd) (h : shN r) : stripR r = r := by
 obtain ⟨a, b, c, d, rfl⟩ := h
 rfl
theorem same55_true {H : HL} {v w : AV} {l : List (List Fd)} (av : LAt B H v 4 shN l) (aw : LAt B H w 4 shN l) :
  WF B tab (.func 55) [v, w] H fun r H' => H' = H ∧ r = .bool true := by
 have hv := av.sl
 have hw := aw.sl
 have hl := av.len
 refine WF.fnR g55 rfl ?_
 repeat' (first
  | apply WOps.nil | apply WC.seq | apply WC.reg | apply WC.skip | (apply WC.condF; rfl) | apply WC.block | (apply WOps.lenS; rfl; rfl; exact hv) | (apply WOps.lenS; rfl; rfl; exact hw) | (apply WOps.neI; rfl; rfl; rfl; rfl) | (apply WOps.purG; rfl; (intro _; rfl)))
 refine WC.loop ?_
 obtain ⟨i, hi⟩ : ∃ i : Nat, i = 0 := ⟨0, rfl⟩
 refine WL.le (t' := [(0, v), (1, w), (5, .int .i64 (.ofNat i))]) (by subst hi; exact Sub1.cons rfl (Sub1.cons rfl (Sub1.cons rfl Sub1.nil))) ?_
 have hle : i ≤ l.length := by omega
 clear hi
 induction hk : l.length - i using Nat.strongRecOn generalizing i with | _ k ih => ?_
 apply WL.step
 repeat' (first
  | apply WOps.nil | apply WC.seq | apply WC.reg | apply WC.skip | apply WC.ret | apply WC.exit | apply WC.block | apply WC.dreg | (apply WOps.lenS; rfl; rfl; exact hv) | (apply WOps.cmp; rfl; rfl; rfl; rfl; intro _ _) | (apply WOps.purG; rfl; (intro _; rfl)) | (apply WD.pur; rfl; (intro _; rfl)) | (apply WC.condA; rfl; all_goals (intro hb; try subst hb)))
 all_goals rw [List.length_map] at *
 ·have hlt : i < l.length := by
   have h0 := ‹true = true ↔ cmpP BinOp.lss (Int.ofNat i) (Int.ofNat l.length)›.1 rfl
   simp [cmpP] at h0; omega
  have hc : (l.map rowC)[i]? = some (rowC l[i]) := by rw [List.getElem?_map, List.getElem?_eq_getElem hlt]; rfl
  have ct := shN_T (av.ok _ (List.getElem_mem hlt)).1
  repeat' (first
   | apply WOps.nil | apply WC.reg | apply WC.skip | (apply WC.condF; rfl) | apply WD.nil | (apply WD.ixSl; rfl; rfl; rfl; exact hv; exact hc; intro a1 l1) | (apply WD.ixSl; rfl; rfl; rfl; exact hw; exact hc; intro a2 l2) | (apply WD.load; rfl; · repeat' (first | refine at1 ?_ rfl | apply at2 | exact same0 | refine same1 ?_ rfl | apply same2 | exact rd_ld rfl (l1 _ hv) rfl)) | (apply WD.load; rfl; · repeat' (first | refine at1 ?_ rfl | apply at2 | exact same0 | refine same1 ?_ rfl | apply same2 | exact rd_ld rfl (l2 _ hw) rfl)) | (apply WD.neR [CT.int .i64, CT.str, CT.int .u64, CT.int .u64] (c := rowC l[i]); rfl; rfl; rfl; rfl; rfl; exact ct) | (apply WOps.addN; rfl; rfl; rfl; omega) | (apply WOps.purG; rfl; (intro _; rfl)) | (apply WD.pur; rfl; (intro _; rfl)))
  exact WL.le (Sub1.cons rfl (Sub1.cons rfl (Sub1.cons rfl Sub1.nil))) (ih _ (by omega) (i + 1) (by omega) rfl)
 ·exact ⟨trivial, List.Sublist.refl _, [_], ⟨_, [], rfl, rfl, rfl⟩, rfl⟩
theorem shC_T {r : List Fd} (h : shC r) : AllT [CT.int .i64, CT.str, CT.str, CT.str, CT.int .i64, CT.int .u64, CT.int .u64] (rowC r) := by
 obtain ⟨a, b, c, d, e, f, g, rfl⟩ := h
 exact ⟨_, _, rfl, ⟨_, rfl⟩, ⟨_, _, rfl, ⟨_, rfl⟩, ⟨_, _, rfl, ⟨_, rfl⟩, ⟨_, _, rfl, ⟨_, rfl⟩, ⟨_, _, rfl, ⟨_, rfl⟩, ⟨_, _, rfl, ⟨_, rfl⟩, ⟨_, _, rfl, ⟨_, rfl⟩, rfl⟩⟩⟩⟩⟩⟩⟩
theorem shC_id (r : List Fd) (h : shC r) : stripR r = r := by
 obtain ⟨a, b, c, d, e, f, g, rfl⟩ := h
 rfl
theorem same57_true {H : HL} {v w : AV} {l : List (List Fd)} (av : LAt B H v 7 shC l) (aw : LAt B H w 7 shC l) :
  WF B tab (.func 57) [v, w] H fun r H' => H' = H ∧ r = .bool true := by
 have hv := av.sl
 have hw := aw.sl
 have hl := av.len
 refine WF.fnR g57 rfl ?_
 repeat' (first
  | apply WOps.nil | apply WC.seq | apply WC.reg | apply WC.skip | (apply WC.condF; rfl) | apply WC.block | (apply WOps.lenS; rfl; rfl; exact hv) | (apply WOps.lenS; rfl; rfl; exact hw) | (apply WOps.neI; rfl; rfl; rfl; rfl) | (apply WOps.purG; rfl; (intro _; rfl)))
 refine WC.loop ?_
 obtain ⟨i, hi⟩ : ∃ i : Nat, i = 0 := ⟨0, rfl⟩
 refine WL.le (t' := [(0, v), (1, w), (5, .int .i64 (.ofNat i))]) (by subst hi; exact Sub1.cons rfl (Sub1.cons rfl (Sub1.cons rfl Sub1.nil))) ?_
 have hle : i ≤ l.length := by omega
 clear hi
 induction hk : l.length - i using Nat.strongRecOn generalizing i with | _ k ih => ?_
 apply WL.step
 repeat' (first
  | apply WOps.nil | apply WC.seq | apply WC.reg | apply WC.skip | apply WC.ret | apply WC.exit | apply WC.block | apply WC.dreg | (apply WOps.lenS; rfl; rfl; exact hv) | (apply WOps.cmp; rfl; rfl; rfl; rfl; intro _ _) | (apply WOps.purG; rfl; (intro _; rfl)) | (apply WD.pur; rfl; (intro _; rfl)) | (apply WC.condA; rfl; all_goals (intro hb; try subst hb)))
 all_goals rw [List.length_map] at *
 ·have hlt : i < l.length := by
   have h0 := ‹true = true ↔ cmpP BinOp.lss (Int.ofNat i) (Int.ofNat l.length)›.1 rfl
   simp [cmpP] at h0; omega
  have hc : (l.map rowC)[i]? = some (rowC l[i]) := by rw [List.getElem?_map, List.getElem?_eq_getElem hlt]; rfl
  have ct := shC_T (av.ok _ (List.getElem_mem hlt)).1
  repeat' (first
   | apply WOps.nil | apply WC.reg | apply WC.skip | (apply WC.condF; rfl) | apply WD.nil | (apply WD.ixSl; rfl; rfl; rfl; exact hv; exact hc; intro a1 l1) | (apply WD.ixSl; rfl; rfl; rfl; exact hw; exact hc; intro a2 l2) | (apply WD.load; rfl; · repeat' (first | refine at1 ?_ rfl | apply at2 | exact same0 | refine same1 ?_ rfl | apply same2 | exact rd_ld rfl (l1 _ hv) rfl)) | (apply WD.load; rfl; · repeat' (first | refine at1 ?_ rfl | apply at2 | exact same0 | refine same1 ?_ rfl | apply same2 | exact rd_ld rfl (l2 _ hw) rfl)) | (apply WD.neR [CT.int .i64, CT.str, CT.str, CT.str, CT.int .i64, CT.int .u64, CT.int .u64] (c := rowC l[i]); rfl; rfl; rfl; rfl; rfl; exact ct) | (apply WOps.addN; rfl; rfl; rfl; omega) | (apply WOps.purG; rfl; (intro _; rfl)) | (apply WD.pur; rfl; (intro _; rfl)))
  exact WL.le (Sub1.cons rfl (Sub1.cons rfl (Sub1.cons rfl Sub1.nil))) (ih _ (by omega) (i + 1) (by omega) rfl)
 ·exact ⟨trivial, List.Sublist.refl _, [_], ⟨_, [], rfl, rfl, rfl⟩, rfl⟩
theorem shI_T {r : List Fd} (h : shI r) : AllT [CT.str, CT.str, CT.bool, CT.int .u64, CT.int .u64] (rowC r) := by
 obtain ⟨a, b, c, d, e, rfl⟩ := h
 exact ⟨_, _, rfl, ⟨_, rfl⟩, ⟨_, _, rfl, ⟨_, rfl⟩, ⟨_, _, rfl, ⟨_, rfl⟩, ⟨_, _, rfl, ⟨_, rfl⟩, ⟨_, _, rfl, ⟨_, rfl⟩, rfl⟩⟩⟩⟩⟩
theorem shI_id (r : List Fd) (h : shI r) : stripR r = r := by
 obtain ⟨a, b, c, d, e, rfl⟩ := h
 rfl
theorem same58_true {H : HL} {v w : AV} {l : List (List Fd)} (av : LAt B H v 5 shI l) (aw : LAt B H w 5 shI l) :
  WF B tab (.func 58) [v, w] H fun r H' => H' = H ∧ r = .bool true := by
 have hv := av.sl
 have hw := aw.sl
 have hl := av.len
 refine WF.fnR g58 rfl ?_
 repeat' (first
  | apply WOps.nil | apply WC.seq | apply WC.reg | apply WC.skip | (apply WC.condF; rfl) | apply WC.block | (apply WOps.lenS; rfl; rfl; exact hv) | (apply WOps.lenS; rfl; rfl; exact hw) | (apply WOps.neI; rfl; rfl; rfl; rfl) | (apply WOps.purG; rfl; (intro _; rfl)))
 refine WC.loop ?_
 obtain ⟨i, hi⟩ : ∃ i : Nat, i = 0 := ⟨0, rfl⟩
 refine WL.le (t' := [(0, v), (1, w), (5, .int .i64 (.ofNat i))]) (by subst hi; exact Sub1.cons rfl (Sub1.cons rfl (Sub1.cons rfl Sub1.nil))) ?_
 have hle : i ≤ l.length := by omega
 clear hi
 induction hk : l.length - i using Nat.strongRecOn generalizing i with | _ k ih => ?_
 apply WL.step
 repeat' (first
  | apply WOps.nil | apply WC.seq | apply WC.reg | apply WC.skip | apply WC.ret | apply WC.exit | apply WC.block | apply WC.dreg | (apply WOps.lenS; rfl; rfl; exact hv) | (apply WOps.cmp; rfl; rfl; rfl; rfl; intro _ _) | (apply WOps.purG; rfl; (intro _; rfl)) | (apply WD.pur; rfl; (intro _; rfl)) | (apply WC.condA; rfl; all_goals (intro hb; try subst hb)))
 all_goals rw [List.length_map] at *
 ·have hlt : i < l.length := by
   have h0 := ‹true = true ↔ cmpP BinOp.lss (Int.ofNat i) (Int.ofNat l.length)›.1 rfl
   simp [cmpP] at h0; omega
  have hc : (l.map rowC)[i]? = some (rowC l[i]) := by rw [List.getElem?_map, List.getElem?_eq_getElem hlt]; rfl
  have ct := shI_T (av.ok _ (List.getElem_mem hlt)).1
  repeat' (first
   | apply WOps.nil | apply WC.reg | apply WC.skip | (apply WC.condF; rfl) | apply WD.nil | (apply WD.ixSl; rfl; rfl; rfl; exact hv; exact hc; intro a1 l1) | (apply WD.ixSl; rfl; rfl; rfl; exact hw; exact hc; intro a2 l2) | (apply WD.load; rfl; · repeat' (first | refine at1 ?_ rfl | apply at2 | exact same0 | refine same1 ?_ rfl | apply same2 | exact rd_ld rfl (l1 _ hv) rfl)) | (apply WD.load; rfl; · repeat' (first | refine at1 ?_ rfl | apply at2 | exact same0 | refine same1 ?_ rfl | apply same2 | exact rd_ld rfl (l2 _ hw) rfl)) | (apply WD.neR [CT.str, CT.str, CT.bool, CT.int .u64, CT.int .u64] (c := rowC l[i]); rfl; rfl; rfl; rfl; rfl; exact ct) | (apply WOps.addN; rfl; rfl; rfl; omega) | (apply WOps.purG; rfl; (intro _; rfl)) | (apply WD.pur; rfl; (intro _; rfl)))
  exact WL.le (Sub1.cons rfl (Sub1.cons rfl (Sub1.cons rfl Sub1.nil))) (ih _ (by omega) (i + 1) (by omega) rfl)
 ·exact ⟨trivial, List.Sublist.refl _, [_], ⟨_, [], rfl, rfl, rfl⟩, rfl⟩
theorem shE_T {r : List Fd} (h : shE r) : AllT [CT.str, CT.str, CT.int .u64, CT.int .u64, CT.int .u64, CT.int .u64] (rowC r) := by
 obtain ⟨a, b, c, d, e, f, rfl⟩ := h
 exact ⟨_, _, rfl, ⟨_, rfl⟩, ⟨_, _, rfl, ⟨_, rfl⟩, ⟨_, _, rfl, ⟨_, rfl⟩, ⟨_, _, rfl, ⟨_, rfl⟩, ⟨_, _, rfl, ⟨_, rfl⟩, ⟨_, _, rfl, ⟨_, rfl⟩, rfl⟩⟩⟩⟩⟩⟩
theorem shE_id (r : List Fd) (h : shE r) : stripR r = r := by
 obtain ⟨a, b, c, d, e, f, rfl⟩ := h
 rfl
theorem same59_true {H : HL} {v w : AV} {l : List (List Fd)} (av : LAt B H v 6 shE l) (aw : LAt B H w 6 shE l) :
  WF B tab (.func 59) [v, w] H fun r H' => H' = H ∧ r = .bool true := by
 have hv := av.sl
 have hw := aw.sl
 have hl := av.len
 refine WF.fnR g59 rfl ?_
 repeat' (first
  | apply WOps.nil | apply WC.seq | apply WC.reg | apply WC.skip | (apply WC.condF; rfl) | apply WC.block | (apply WOps.lenS; rfl; rfl; exact hv) | (apply WOps.lenS; rfl; rfl; exact hw) | (apply WOps.neI; rfl; rfl; rfl; rfl) | (apply WOps.purG; rfl; (intro _; rfl)))
 refine WC.loop ?_
 obtain ⟨i, hi⟩ : ∃ i : Nat, i = 0 := ⟨0, rfl⟩
 refine WL.le (t' := [(0, v), (1, w), (5, .int .i64 (.ofNat i))]) (by subst hi; exact Sub1.cons rfl (Sub1.cons rfl (Sub1.cons rfl Sub1.nil))) ?_
 have hle : i ≤ l.length := by omega
 clear hi
 induction hk : l.length - i using Nat.strongRecOn generalizing i with | _ k ih => ?_
 apply WL.step
 repeat' (first
  | apply WOps.nil | apply WC.seq | apply WC.reg | apply WC.skip | apply WC.ret | apply WC.exit | apply WC.block | apply WC.dreg | (apply WOps.lenS; rfl; rfl; exact hv) | (apply WOps.cmp; rfl; rfl; rfl; rfl; intro _ _) | (apply WOps.purG; rfl; (intro _; rfl)) | (apply WD.pur; rfl; (intro _; rfl)) | (apply WC.condA; rfl; all_goals (intro hb; try subst hb)))
 all_goals rw [List.length_map] at *
 ·have hlt : i < l.length := by
   have h0 := ‹true = true ↔ cmpP BinOp.lss (Int.ofNat i) (Int.ofNat l.length)›.1 rfl
   simp [cmpP] at h0; omega
  have hc : (l.map rowC)[i]? = some (rowC l[i]) := by rw [List.getElem?_map, List.getElem?_eq_getElem hlt]; rfl
  have ct := shE_T (av.ok _ (List.getElem_mem hlt)).1
  repeat' (first
   | apply WOps.nil | apply WC.reg | apply WC.skip | (apply WC.condF; rfl) | apply WD.nil | (apply WD.ixSl; rfl; rfl; rfl; exact hv; exact hc; intro a1 l1) | (apply WD.ixSl; rfl; rfl; rfl; exact hw; exact hc; intro a2 l2) | (apply WD.load; rfl; · repeat' (first | refine at1 ?_ rfl | apply at2 | exact same0 | refine same1 ?_ rfl | apply same2 | exact rd_ld rfl (l1 _ hv) rfl)) | (apply WD.load; rfl; · repeat' (first | refine at1 ?_ rfl | apply at2 | exact same0 | refine same1 ?_ rfl | apply same2 | exact rd_ld rfl (l2 _ hw) rfl)) | (apply WD.neR [CT.str, CT.str, CT.int .u64, CT.int .u64, CT.int .u64, CT.int .u64] (c := rowC l[i]); rfl; rfl; rfl; rfl; rfl; exact ct) | (apply WOps.addN; rfl; rfl; rfl; omega) | (apply WOps.purG; rfl; (intro _; rfl)) | (apply WD.pur; rfl; (intro _; rfl)))
  exact WL.le (Sub1.cons rfl (Sub1.cons rfl (Sub1.cons rfl Sub1.nil))) (ih _ (by omega) (i + 1) (by omega) rfl)
 ·exact ⟨trivial, List.Sublist.refl _, [_], ⟨_, [], rfl, rfl, rfl⟩, rfl⟩
theorem shL_T {r : List Fd} (h : shL r) : AllT [CT.int .u64, CT.int .i64, CT.int .u64, CT.int .u64] (rowC r) := by
 obtain ⟨a, b, c, d, rfl⟩ := h
 exact ⟨_, _, rfl, ⟨_, rfl⟩, ⟨_, _, rfl, ⟨_, rfl⟩, ⟨_, _, rfl, ⟨_, rfl⟩, ⟨_, _, rfl, ⟨_, rfl⟩, rfl⟩⟩⟩⟩
theorem shL_id (r : List Fd) (h : shL r) : stripR r = r := by
 obtain ⟨a, b, c, d, rfl⟩ := h
 rfl
theorem same60_true {H : HL} {v w : AV} {l : List (List Fd)} (av : LAt B H v 4 shL l) (aw : LAt B H w 4 shL l) :
  WF B tab (.func 60) [v, w] H fun r H' => H' = H ∧ r = .bool true := by
 have hv := av.sl
 have hw := aw.sl
 have hl := av.len
 refine WF.fnR g60 rfl ?_
 repeat' (first
  | apply WOps.nil | apply WC.seq | apply WC.reg | apply WC.skip | (apply WC.condF; rfl) | apply WC.block | (apply WOps.lenS; rfl; rfl; exact hv) | (apply WOps.lenS; rfl; rfl; exact hw) | (apply WOps.neI; rfl; rfl; rfl; rfl) | (apply WOps.purG; rfl; (intro _; rfl)))
 refine WC.loop ?_
 obtain ⟨i, hi⟩ : ∃ i : Nat, i = 0 := ⟨0, rfl⟩
 refine WL.le (t' := [(0, v), (1, w), (5, .int .i64 (.ofNat i))]) (by subst hi; exact Sub1.cons rfl (Sub1.cons rfl (Sub1.cons rfl Sub1.nil))) ?_
 have hle : i ≤ l.length := by omega
 clear hi
 induction hk : l.length - i using Nat.strongRecOn generalizing i with | _ k ih => ?_
 apply WL.step
 repeat' (first
  | apply WOps.nil | apply WC.seq | apply WC.reg | apply WC.skip | apply WC.ret | apply WC.exit | apply WC.block | apply WC.dreg | (apply WOps.lenS; rfl; rfl; exact hv) | (apply WOps.cmp; rfl; rfl; rfl; rfl; intro _ _) | (apply WOps.purG; rfl; (intro _; rfl)) | (apply WD.pur; rfl; (intro _; rfl)) | (apply WC.condA; rfl; all_goals (intro hb; try subst hb)))
 all_goals rw [List.length_map] at *
 ·have hlt : i < l.length := by
   have h0 := ‹true = true ↔ cmpP BinOp.lss (Int.ofNat i) (Int.ofNat l.length)›.1 rfl
   simp [cmpP] at h0; omega
  have hc : (l.map rowC)[i]? = some (rowC l[i]) := by rw [List.getElem?_map, List.getElem?_eq_getElem hlt]; rfl
  have ct := shL_T (av.ok _ (List.getElem_mem hlt)).1
  repeat' (first
   | apply WOps.nil | apply WC.reg | apply WC.skip | (apply WC.condF; rfl) | apply WD.nil | (apply WD.ixSl; rfl; rfl; rfl; exact hv; exact hc; intro a1 l1) | (apply WD.ixSl; rfl; rfl; rfl; exact hw; exact hc; intro a2 l2) | (apply WD.load; rfl; · repeat' (first | refine at1 ?_ rfl | apply at2 | exact same0 | refine same1 ?_ rfl | apply same2 | exact rd_ld rfl (l1 _ hv) rfl)) | (apply WD.load; rfl; · repeat' (first | refine at1 ?_ rfl | apply at2 | exact same0 | refine same1 ?_ rfl | apply same2 | exact rd_ld rfl (l2 _ hw) rfl)) | (apply WD.neR [CT.int .u64, CT.int .i64, CT.int .u64, CT.int .u64] (c := rowC l[i]); rfl; rfl; rfl; rfl; rfl; exact ct) | (apply WOps.addN; rfl; rfl; rfl; omega) | (apply WOps.purG; rfl; (intro _; rfl)) | (apply WD.pur; rfl; (intro _; rfl)))
  exact WL.le (Sub1.cons rfl (Sub1.cons rfl (Sub1.cons rfl Sub1.nil))) (ih _ (by omega) (i + 1) (by omega) rfl)
 ·exact ⟨trivial, List.Sublist.refl _, [_], ⟨_, [], rfl, rfl, rfl⟩, rfl⟩
theorem shQ_T {r : List Fd} (h : shQ r) : AllT [CT.int .i64, CT.int .u32, CT.int .u64] (rowC r) := by
 obtain ⟨a, b, c, rfl⟩ := h
 exact ⟨_, _, rfl, ⟨_, rfl⟩, ⟨_, _, rfl, ⟨_, rfl⟩, ⟨_, _, rfl, ⟨_, rfl⟩, rfl⟩⟩⟩
theorem shQ_id (r : List Fd) (h : shQ r) : stripR r = r := by
 obtain ⟨a, b, c, rfl⟩ := h
 rfl
set_option maxHeartbeats 4000000 in
theorem same56_true {H : HL} {v w : AV} {ps qs : List (List Fd)} (av : LAt B H v 7 shS ps) (aw : LAt B H w 7 shS qs) (e : ps.map stripR = qs.map stripR) :
  WF B tab (.func 56) [v, w] H fun r H' => H' = H ∧ r = .bool true := by
 have hv := av.sl
 have hw := aw.sl
 have hl := av.len
 have el : ps.length = qs.length := by
  have := congrArg List.length e
  rw [List.length_map, List.length_map] at this
  exact this
 refine WF.lessP ?_
 refine WF.fn g56 rfl ?_
 repeat' (first
  | apply WOps.nil | apply WC.seq | apply WC.reg | apply WC.skip | (apply WC.condF; rfl) | apply WC.block | (apply WOps.lenS; rfl; rfl; exact hv) | (apply WOps.lenS; rfl; rfl; exact hw) | (apply WOps.neI; rfl; rfl; rfl; rw [List.length_map, List.length_map, el]) | (apply WOps.purG; rfl; (intro _; rfl)))
 refine WC.loop ?_
 obtain ⟨i, hi⟩ : ∃ i : Nat, i = 0 := ⟨0, rfl⟩
 refine WL.le (t' := [(0, v), (1, w), (5, .int .i64 (.ofNat i))]) (by subst hi; exact Sub1.cons rfl (Sub1.cons rfl (Sub1.cons rfl Sub1.nil))) ?_
 have hle : i ≤ ps.length := by omega
 clear hi
 induction hk : ps.length - i using Nat.strongRecOn generalizing i with | _ k ih => ?_
 apply WL.step
 refine WC.seq (WC.seq (WC.reg ?_))
 repeat' (first
  | apply WOps.nil | apply WC.skip | apply WC.exit | (apply WOps.lenS; rfl; rfl; exact hv) | (apply WOps.cmp; rfl; rfl; rfl; rfl; intro _ _) | (apply WOps.purG; rfl; (intro _; rfl)) | (apply WC.condA; rfl; all_goals (intro hb; try subst hb)))
 all_goals rw [List.length_map] at *
 ·have hlt : i < ps.length := by
   have h0 := ‹true = true ↔ cmpP BinOp.lss (Int.ofNat i) (Int.ofNat ps.length)›.1 rfl
   simp [cmpP] at h0; omega
  have hc : (ps.map rowC)[i]? = some (rowC ps[i]) := by rw [List.getElem?_map, List.getElem?_eq_getElem hlt]; rfl
  have hd : (qs.map rowC)[i]? = some (rowC (qs[i]'(by omega))) := by rw [List.getElem?_map, List.getElem?_eq_getElem (by omega)]; rfl
  have hee : stripR ps[i] = stripR (qs[i]'(by omega)) := by
   have := congrArg (fun l => l[i]?) e
   simp only [List.getElem?_map, List.getElem?_eq_getElem hlt, List.getElem?_eq_getElem (show i < qs.length by omega), Option.map_some, Option.some.injEq] at this
   exact this
  obtain ⟨t1, t2, t3⟩ := av.ok _ (List.getElem_mem hlt)
  obtain ⟨u1, u2, u3⟩ := aw.ok _ (List.getElem_mem (show i < qs.length by omega))
  generalize ps[i] = p at hc hee t1 t2 t3
  generalize (qs[i]'(by omega)) = q at hd hee u1 u2 u3
  obtain ⟨a1, a2, a3, a4, a5, a6, a7, a8, rfl⟩ := t1
  obtain ⟨b1, b2, b3, b4, b5, b6, b7, b8, rfl⟩ := u1
  simp only [stripR, List.map_cons, List.map_nil, strip, List.cons.injEq, Fd.int.injEq, Fd.txt.injEq, Fd.txs.injEq, Fd.num.injEq, true_and, and_true] at hee
  obtain ⟨rfl, rfl, rfl, rfl, rfl, rfl, rfl⟩ := hee
  have s1 : SlIs B H a4 1 (a5.map strC) := t3 (.txs a4 a5) (by simp)
  have s2 : SlIs B H b4 1 (a5.map strC) := u3 (.txs b4 a5) (by simp)
  have s3 : a5.length ≤ 9223372036854775807 := t2 (.txs a4 a5) (by simp)
  have ca := s1.cell
  have cb := s2.cell
  repeat' (first
   | apply WOps.nil | apply WC.seq | apply WC.reg | apply WC.skip | (apply WC.condF; rfl) | apply WC.block | apply WC.dreg | apply WD.nil | (apply WOps.ldG; rfl; rfl; (first | exact ld0 rfl | exact ld1 rfl | exact ld2 rfl); rfl) | (apply WD.st; rfl; rfl; rfl; (first | exact tk0 | exact tk1 | exact tk2); rfl; (· repeat' (first | rfl | assumption | apply ac1)); rfl) | (apply WD.alc; rfl; rfl; intro _) | (apply WD.ixSl; rfl; rfl; rfl; exact hv; exact hc; intro a1 l1) | (apply WD.ixSl; rfl; rfl; rfl; exact SlIs.cons (SlIs.cons hw); exact hd; intro a2 l2) | (apply WD.load; rfl; · repeat' (first | refine at1 ?_ rfl | apply at2 | exact same0 | refine same1 ?_ rfl | apply same2 | exact rd_ld rfl (l1 _ hv) rfl)) | (apply WD.load; rfl; · repeat' (first | refine at1 ?_ rfl | apply at2 | exact same0 | refine same1 ?_ rfl | apply same2 | exact rd_ld rfl ((by first | exact l2 _ hw | exact l2 _ (SlIs.cons hw) | exact l2 _ (SlIs.cons (SlIs.cons hw)))) rfl)) | (apply WOps.neI; rfl; rfl; rfl; rfl) | (apply WOps.neT; rfl; rfl; rfl) | (apply WOps.clR; rfl; rfl; exact same93_true s1.cons.cons s2.cons.cons s3; rintro _ rfl) | (apply WOps.addN; rfl; rfl; rfl; omega) | (apply WOps.purG; rfl; (intro _; rfl)) | (apply WD.pur; rfl; (intro _; rfl)))
  exact WL.le (Sub1.cons rfl (Sub1.cons rfl (Sub1.cons rfl Sub1.nil))) (WL.lessP (H1 := H) (SubP.of ((List.sublist_cons_self _ _).trans (List.sublist_cons_self _ _))) (ih _ (by omega) (i + 1) (by omega) rfl))
 ·repeat' (first
   | apply WOps.nil | apply WC.seq | apply WC.reg | apply WC.ret | (apply WOps.purG; rfl; (intro _; rfl)))
  exact ⟨trivial, [_], ⟨_, [], rfl, rfl, rfl⟩, H, ⟨rfl, rfl⟩, SubP.refl⟩
theorem WOps.eqA6 {T : Tr FnI} {t : EL} {H : HL} {Q : EL → HL → Prop} {os : List AOper} {k : Nat} {g : Option (Nat × Bool)} {x y : AO} {a b c d e f : Int} (hg : wantedL g t = some true) (hx : gl t x = some (.agg [.int .u64 a, .int .u64 b, .int .u64 c, .int .u64 d, .int .u64 e, .int .u64 f])) (hy : gl t y = some (.agg [.int .u64 a, .int .u64 b, .int .u64 c, .int .u64 d, .int .u64 e, .int .u64 f]))
  (w : WOps B T os ((k, .bool false) :: t) H Q) : WOps B T (⟨some k, .eq true (.arr 6 1 false .int) x y, g⟩ :: os) t H Q :=
 WOps.purG (v := .bool false) hg (fun h => by simp [aopL, hx, hy, aEq, pure1, two, eqArr, eqInt, partOf]) w
set_option maxHeartbeats 4000000 in
theorem same14_ok {H : HL} {d c : DD} (hd : DdAt B H d) (hc : DdAt B H c) (e : stripD d = stripD c) : WF B tab (.func 14) [.agg (dumpC d), .agg (dumpC c)] H fun r H' => H' = H ∧ r = .bool true := by
 obtain ⟨ix, vn, vs, vc, vi, ve, vl, l0, l1, l2, l3, l4, l5, vq, n, s, k, i, e', l, q⟩ := d
 obtain ⟨jx, wn, ws, wc, wi, we, wl, m0, m1, m2, m3, m4, m5, wq, n2, s2, k2, i2, e2, l', q2⟩ := c
 simp only [stripD, DD.mk.injEq, true_and] at e
 obtain ⟨rfl, rfl, rfl, rfl, rfl, rfl, rfl, en, es, ek, ei, ee, el, eq⟩ := e
 obtain ⟨an, asx, ac, ai, ae, al, aq, ab⟩ := hd
 obtain ⟨bn, bs, bc, bi, be, bl, bq, bb⟩ := hc
 dsimp only at an asx ac ai ae al aq bn bs bc bi be bl bq
 obtain rfl := plain_eq shN_id (fun r h => (an.ok r h).1) (fun r h => (bn.ok r h).1) en
 obtain rfl := plain_eq shC_id (fun r h => (ac.ok r h).1) (fun r h => (bc.ok r h).1) ek
 obtain rfl := plain_eq shI_id (fun r h => (ai.ok r h).1) (fun r h => (bi.ok r h).1) ei
 obtain rfl := plain_eq shE_id (fun r h => (ae.ok r h).1) (fun r h => (be.ok r h).1) ee
 obtain rfl := plain_eq shL_id (fun r h => (al.ok r h).1) (fun r h => (bl.ok r h).1) el
 obtain rfl := plain_eq shQ_id (fun r h => (aq.ok r h).1) (fun r h => (bq.ok r h).1) eq
 have c1 := an.sl.cell
 have c2 := asx.sl.cell
 have c3 := ac.sl.cell
 have c4 := ai.sl.cell
 have c5 := ae.sl.cell
 have c6 := al.sl.cell
 have c7 := aq.sl.cell
 have d1 := bn.sl.cell
 have d2 := bs.sl.cell
 have d3 := bc.sl.cell
 have d4 := bi.sl.cell
 have d5 := be.sl.cell
 have d6 := bl.sl.cell
 have d7 := bq.sl.cell
 clear en ek ei ee el eq
 refine WF.lessP ?_
 refine WF.fn g14 rfl ?_
 refine WC.seq (WC.reg ?_)
 repeat' (first
  | apply WOps.nil | (apply WOps.bx; rfl; rfl; (· repeat' (first | rfl | assumption | apply ac1)); intro _) | (apply WOps.purG; rfl; (intro _; rfl)))
 rename_i p2 p3
 refine WC.seq (WC.seq (WC.reg ?_))
 repeat' (first
  | apply WOps.nil | apply WC.skip | (apply WC.condF; rfl) | (apply WOps.ldG; rfl; rfl; (first | exact ld0 rfl | exact ld1 rfl | exact ld2 rfl); rfl) | (apply WOps.neI; rfl; rfl; rfl; rfl) | (apply WOps.eqA6; rfl; rfl; rfl) | (apply WOps.lenS; rfl; rfl; exact SlIs.cons (SlIs.cons aq.sl)) | (apply WOps.lenS; rfl; rfl; exact SlIs.cons (SlIs.cons bq.sl)) | (apply WOps.purG; rfl; (intro _; rfl)))
 refine WC.seq (WC.seq (WC.reg ?_))
 repeat' (first
  | apply WOps.nil | apply WC.block | (apply WOps.purG; rfl; (intro _; rfl)))
 refine WC.loop ?_
 obtain ⟨j, hj⟩ : ∃ i : Nat, i = 0 := ⟨0, rfl⟩
 refine WL.le (t' := [(2, .ptr ⟨false, p2, 0⟩), (3, .ptr ⟨false, p3, 0⟩), (5, .int .i64 (.ofNat j))]) (by subst hj; exact Sub1.cons rfl (Sub1.cons rfl (Sub1.cons rfl Sub1.nil))) ?_
 have hle : j ≤ q.length := by omega
 have hl := aq.len
 clear hj
 induction hk : q.length - j using Nat.strongRecOn generalizing j with | _ k' ih => ?_
 apply WL.step
 refine WC.seq (WC.seq (WC.reg ?_))
 repeat' (first
  | apply WOps.nil | apply WC.skip | apply WC.exit | (apply WOps.ldG; rfl; rfl; (first | exact ld0 rfl | exact ld1 rfl | exact ld2 rfl); rfl) | (apply WOps.lenS; rfl; rfl; exact SlIs.cons (SlIs.cons aq.sl)) | (apply WOps.cmp; rfl; rfl; rfl; rfl; intro _ _) | (apply WOps.purG; rfl; (intro _; rfl)) | (apply WC.condA; rfl; all_goals (intro hb; try subst hb)))
 all_goals rw [List.length_map] at *
 ·have hlt : j < q.length := by
   have h0 := ‹true = true ↔ cmpP BinOp.lss (Int.ofNat j) (Int.ofNat q.length)›.1 rfl
   simp [cmpP] at h0; omega
  have hc : (q.map rowC)[j]? = some (rowC q[j]) := by rw [List.getElem?_map, List.getElem?_eq_getElem hlt]; rfl
  have ct := shQ_T (aq.ok _ (List.getElem_mem hlt)).1
  repeat' (first
   | apply WOps.nil | apply WC.seq | apply WC.reg | apply WC.skip | (apply WC.condF; rfl) | apply WC.block | apply WC.dreg | apply WD.nil | (apply WD.ixSl; rfl; rfl; rfl; exact SlIs.cons (SlIs.cons aq.sl); exact hc; intro a1 l1) | (apply WD.ixSl; rfl; rfl; rfl; exact SlIs.cons (SlIs.cons bq.sl); exact hc; intro a2 l2) | (apply WD.load; rfl; · repeat' (first | refine at1 ?_ rfl | apply at2 | exact same0 | refine same1 ?_ rfl | apply same2 | exact rd_ld rfl (l1 _ (SlIs.cons (SlIs.cons aq.sl))) rfl)) | (apply WD.load; rfl; · repeat' (first | refine at1 ?_ rfl | apply at2 | exact same0 | refine same1 ?_ rfl | apply same2 | exact rd_ld rfl (l2 _ (SlIs.cons (SlIs.cons bq.sl))) rfl)) | (apply WD.neR [CT.int .i64, CT.int .u32, CT.int .u64] (c := rowC q[j]); rfl; rfl; rfl; rfl; rfl; exact ct) | (apply WOps.addN; rfl; rfl; rfl; omega) | (apply WOps.purG; rfl; (intro _; rfl)) | (apply WD.load; rfl; · repeat' (first | refine at1 ?_ rfl | apply at2 | exact same0 | refine same1 ?_ rfl | apply same2 | (first | exact rd0 rfl rfl rfl | exact rd1 rfl rfl rfl | exact rd2 rfl rfl rfl))) | (apply WD.pur; rfl; (intro _; rfl)))
  exact WL.le (Sub1.cons rfl (Sub1.cons rfl (Sub1.cons rfl Sub1.nil))) (ih _ (by omega) (j + 1) (by omega) rfl)
 ·repeat' (first
   | apply WOps.nil | apply WC.seq | apply WC.reg | apply WC.skip | apply WC.ret | (apply WC.condF; rfl) | (apply WOps.ldG; rfl; rfl; (first | exact ld0 rfl | exact ld1 rfl | exact ld2 rfl); rfl) | (apply WOps.clR; rfl; rfl; exact same55_true an.cons.cons bn.cons.cons; rintro _ rfl) | (apply WOps.clR; rfl; rfl; exact same56_true asx.cons.cons bs.cons.cons es; rintro _ rfl) | (apply WOps.clR; rfl; rfl; exact same57_true ac.cons.cons bc.cons.cons; rintro _ rfl) | (apply WOps.clR; rfl; rfl; exact same58_true ai.cons.cons bi.cons.cons; rintro _ rfl) | (apply WOps.clR; rfl; rfl; exact same59_true ae.cons.cons be.cons.cons; rintro _ rfl) | (apply WOps.clR; rfl; rfl; exact same60_true al.cons.cons bl.cons.cons; rintro _ rfl) | (apply WOps.purG; rfl; (intro _; rfl)))
  exact ⟨trivial, [_], ⟨_, _, rfl, rfl, rfl⟩, H, ⟨rfl, rfl⟩, subF (by intro f; simp only [AV.cells, pm] <;> omega)⟩
theorem DdAt.left {H X : HL} {d : DD} (h : DdAt B H d) : DdAt B (H ++ X) d := ⟨h.n.left, h.s.left, h.c.left, h.i.left, h.e.left, h.l.left, h.q.left, h.b⟩
theorem dumpC_cell {H : HL} {d : DD} (h : DdAt B H d) : allCell (dumpC d) = true := ac1 rfl (ac1 h.n.sl.cell (ac1 h.s.sl.cell (ac1 h.c.sl.cell (ac1 h.i.sl.cell (ac1 h.e.sl.cell (ac1 h.l.sl.cell (ac1 rfl (ac1 rfl (ac1 rfl (ac1 rfl (ac1 rfl (ac1 rfl (ac1 h.q.sl.cell ac0)))))))))))))
theorem SrcIs.any {H : HL} {u : AV} {n m : Nat} {xs : List AV} (h : SrcIs B [] u n m xs) : SrcIs B H u n m xs := SrcIs.left (H := []) h
def Ex {α : Type} (rd : St → α × St) (by_ : α → List Nat) (good : α → Prop) : Prop := ∀ s, byL s.1 → (rd s).2.2 = 0 → s.2 = 0 ∧ s.1 = by_ (rd s).1 ++ (rd s).2.1 ∧ good (rd s).1
theorem Ex.by {α : Type} {rd : St → α × St} {by_ : α → List Nat} {good : α → Prop} (h : Ex rd by_ good) {s : St} (hb : byL s.1) (h0 : (rd s).2.2 = 0) : byL (rd s).2.1 := fun b hm => hb b (by rw [(h s hb h0).2.1]; exact List.mem_append_right _ hm)
end Go.Proofs.Ytdcbglljljfleaa.DU
