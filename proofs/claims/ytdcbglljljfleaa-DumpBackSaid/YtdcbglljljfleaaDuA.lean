/- What the functions do, shown by the logic. -/
import Derived.Test.YtdcbglljljfleaaDUTab
import Derived.Test.YtdcbglljljfleaaAbsN7
import Derived.Test.YtdcbglljljfleaaAbsN2
set_option linter.unusedSimpArgs false
set_option linter.unusedVariables false
set_option linter.unusedSectionVars false
set_option maxRecDepth 20000
namespace Go.Proofs.Ytdcbglljljfleaa.DU
open Go.Proofs.Ytdcbglljljfleaa.Abs
variable {B : Nat → List AV}
theorem pm : (∀ (f : Nat × AObj → Nat) a l, List.map f (a :: l) = f a :: List.map f l) ∧ (∀ f : Nat × AObj → Nat, List.map f [] = []) ∧ (List.sum ([] : List Nat) = 0) ∧ (∀ (f : Nat × AObj → Nat) (a b : HL), List.map f (a ++ b) = List.map f a ++ List.map f b) ∧ (∀ (a : Nat) l, (a :: l).sum = a + l.sum) ∧ (∀ a b : List Nat, (a ++ b).sum = a.sum + b.sum) ∧ (∀ (a : Nat × AObj) (l m : HL), (a :: l) ++ m = a :: (l ++ m)) ∧ (∀ l : HL, [] ++ l = l) ∧ (∀ a b c : HL, a ++ b ++ c = a ++ (b ++ c)) ∧ (∀ a : HL, a ++ [] = a) ∧ (∀ a b : HL, List.append a b = a ++ b) :=
  ⟨fun _ _ _ => rfl, fun _ => rfl, rfl, fun _ _ _ => List.map_append, fun _ _ => List.sum_cons, fun _ _ => List.sum_append, fun _ _ _ => rfl, fun _ => rfl, List.append_assoc, List.append_nil, fun _ _ => rfl⟩
/-! ### Numbers asx bytes -/
def digs (n : Nat) : List Nat := if h : n = 0 then [] else n % 256 :: digs (n / 256)
termination_by n
decreasing_by omega
def numB (n : Nat) : List Nat := (digs n).length :: (digs n).reverse
theorem src_cons {H : HL} {q : Nat × AObj} {u : AV} {esz m : Nat} {xs : List AV} (h : SrcIs B H u esz m xs) : SrcIs B (q :: H) u esz m xs := SrcIs.right (H := [q]) h
def byC (c : Nat) : List AV := [.int .u8 (.ofNat c)]
theorem bytes_flat (l : List Nat) : (l.map byC).flatten = cellsOfStr l := by
 induction l with
 | nil => rfl
 | cons c l ih => simp only [List.map_cons, List.flatten_cons, cellsOfStr, ih]; rfl
/-! ### Texts, flags, lists of texts asx bytes -/
def textB (s : List Nat) : List Nat := numB s.length ++ s
def flagB (b : Bool) : List Nat := if b then [1, 1] else [0]
def textsB (l : List (List Nat)) : List Nat := numB l.length ++ (l.map textB).flatten
def strC (k : List Nat) : List AV := [.str k]
theorem own_src {v : AV} {l : List Nat} {h : HL} (o : OwnSl v (cellsOfStr l) l.length 1 h) : SrcIs B h v 1 l.length (cellsOfStr l) := o.src
def WrAt (H : HL) (wp : Nat) (us : List Nat) (R : HL) : Prop := ∃ v h, OwnSl v (cellsOfStr us) us.length 1 h ∧ H.Perm ((wp, .row [v]) :: (h ++ R))
theorem WrAt.permR {H R R' : HL} {wp : Nat} {us : List Nat} (h : WrAt H wp us R) (p : R.Perm R') : WrAt H wp us R' := by
 obtain ⟨v, hv, o, q⟩ := h
 exact ⟨v, hv, o, q.trans ((p.append_left hv).cons _)⟩
theorem WrAt.app {H R : HL} {wp : Nat} {us : List Nat} (h : WrAt H wp us R) (X : HL) : WrAt (X ++ H) wp us (X ++ R) := by
 obtain ⟨v, hv, o, q⟩ := h
 exact ⟨v, hv, o, (q.append_left X).trans (permF (by intro f; simp only [AV.cells, pm] <;> omega))⟩
theorem WrAt.cons {H R : HL} {wp : Nat} {us : List Nat} {x : Nat × AObj} (h : WrAt H wp us R) : WrAt (x :: H) wp us (x :: R) := h.app [x]
theorem WrAt.less {H R R1 : HL} {wp : Nat} {us : List Nat} (h : WrAt H wp us R) (p : SubP R1 R) : ∃ H3, WrAt H3 wp us R1 ∧ SubP H3 H := by
 obtain ⟨v, hv, o, q⟩ := h
 obtain ⟨G, pg⟩ := p
 refine ⟨_, ⟨v, hv, o, List.Perm.refl _⟩, G, q.trans ?_⟩
 refine permF fun f => ?_
 have := sum_perm pg f
 simp only [List.cons_append, List.map_cons, List.map_append, List.sum_cons, List.sum_append] at this ⊢
 omega
theorem WrAt.ld {H R : HL} {wp : Nat} {us : List Nat} {a : AA} {n : Nat} {l : List AV} (h : WrAt H wp us R) (k : Ld B R a n l) : Ld B H a n l := by
 obtain ⟨v, hv, o, q⟩ := h
 exact Ld.perm q (Ld.right k).cons
theorem WrAt.sl {H R : HL} {wp : Nat} {us : List Nat} {w : AV} {n : Nat} {xs : List (List AV)} (h : WrAt H wp us R) (k : SlIs B R w n xs) : SlIs B H w n xs := by
 obtain ⟨v, hv, o, q⟩ := h
 exact SlIs.perm q (SlIs.cons (SlIs.right k))
theorem WrAt.heq {H R : HL} {wp : Nat} {us us2 : List Nat} (h : WrAt H wp us R) (e : us = us2) : WrAt H wp us2 R := e ▸ h
/-! ### Rows asx fields -/
inductive Fd where
 | int (n : Int) (most : Nat)
 | num (n : Nat)
 | u32 (n : Nat)
 | txt (s : List Nat)
 | flg (b : Bool)
 | txs (v : AV) (l : List (List Nat))
def Fd.cell : Fd → AV
 | .int n _ => .int .i64 n
 | .num n => .int .u64 (.ofNat n)
 | .u32 n => .int .u32 (.ofNat n)
 | .txt s => .str s
 | .flg b => .bool b
 | .txs v _ => v
def Fd.bytes : Fd → List Nat
 | .int n _ => numB n.toNat
 | .num n => numB n
 | .u32 n => numB n
 | .txt s => textB s
 | .flg b => flagB b
 | .txs _ l => textsB l
def Fd.wf : Fd → Prop
 | .int _ m => m ≤ 65535
 | .num n => n < 18446744073709551616
 | .u32 n => n < 4294967296
 | .txs _ l => l.length ≤ 9223372036854775807
 | _ => True
def Fd.right : Fd → Prop
 | .int n m => 0 ≤ n ∧ n ≤ .ofNat m
 | .txt s => s.length ≤ 80
 | .txs _ l => l.length ≤ 8 ∧ ∀ s, s ∈ l → s.length ≤ 80
 | _ => True
def Fd.at (B : Nat → List AV) (H : HL) : Fd → Prop
 | .txs v l => SlIs B H v 1 (l.map strC)
 | _ => True
def rowC (r : List Fd) : List AV := r.map Fd.cell
def shN (r : List Fd) : Prop := ∃ (a : Int) (b : List Nat) (c : Nat) (d : Nat), r = [.int a 255, .txt b, .num c, .num d]
def shS (r : List Fd) : Prop := ∃ (a : Int) (b : List Nat) (c : List Nat) (vd : AV) (d : List (List Nat)) (e : Int) (f : Nat) (g : Nat), r = [.int a 255, .txt b, .txt c, .txs vd d, .int e 65535, .num f, .num g]
def shC (r : List Fd) : Prop := ∃ (a : Int) (b : List Nat) (c : List Nat) (d : List Nat) (e : Int) (f : Nat) (g : Nat), r = [.int a 255, .txt b, .txt c, .txt d, .int e 255, .num f, .num g]
def shI (r : List Fd) : Prop := ∃ (a : List Nat) (b : List Nat) (c : Bool) (d : Nat) (e : Nat), r = [.txt a, .txt b, .flg c, .num d, .num e]
def shE (r : List Fd) : Prop := ∃ (a : List Nat) (b : List Nat) (c : Nat) (d : Nat) (e : Nat) (f : Nat), r = [.txt a, .txt b, .num c, .num d, .num e, .num f]
def shL (r : List Fd) : Prop := ∃ (a : Nat) (b : Int) (c : Nat) (d : Nat), r = [.num a, .int b 255, .num c, .num d]
def shQ (r : List Fd) : Prop := ∃ (a : Int) (b : Nat) (c : Nat), r = [.int a 255, .u32 b, .num c]
theorem Fd.at_cons {H : HL} {x : Nat × AObj} {f : Fd} (h : f.at B H) : f.at B (x :: H) := by
 cases f <;> first | trivial | exact SlIs.cons h
theorem take_all {r : List AV} {w : Nat} (h : r.length = w) : takeN (r.drop 0) w = some r := by
 rw [List.drop_zero, takeN_of (by omega), List.take_of_length_le (by omega)]
theorem shN_len {r : List Fd} (h : shN r) : (rowC r).length = 4 ∧ r.length ≤ 7 := by
 obtain ⟨a, b, c, d, rfl⟩ := h
 exact ⟨rfl, by simp⟩
theorem shN_cell {r : List Fd} {H : HL} (h : shN r) (at_ : ∀ f, f ∈ r → f.at B H) : allCell (rowC r) = true := by
 obtain ⟨a, b, c, d, rfl⟩ := h
 repeat' (first | exact ac0 | apply ac1)
 all_goals first | rfl | assumption
theorem fn17_ok {H : HL} : WF B tab (.func 17) [] H fun r H' => r = .agg [.fn (.func 63) [] [], .fn (.func 66) [] []] ∧ H' = H := by
 refine WF.lessP ?_
 refine WF.fn g17 rfl ?_
 repeat' (first
  | apply WOps.nil | apply WC.seq | apply WC.reg | apply WC.ret | (apply WOps.st; rfl; rfl; (first | exact tk0 | exact tk1 | exact tk2); rfl; (· repeat' (first | rfl | assumption | apply ac1)); rfl) | (apply WOps.alc; rfl; intro _) | (apply WOps.purG; rfl; (intro _; rfl)))
 exact ⟨trivial, [_], ⟨_, _, rfl, ⟨_, _, rfl, Ld.own Tk.head rfl, rfl⟩, rfl⟩, H, ⟨rfl, rfl⟩, subF (by intro f; simp only [AV.cells, pm] <;> omega)⟩
theorem shS_len {r : List Fd} (h : shS r) : (rowC r).length = 7 ∧ r.length ≤ 7 := by
 obtain ⟨a, b, c, vd, d, e, f, g, rfl⟩ := h
 exact ⟨rfl, by simp⟩
theorem shS_cell {r : List Fd} {H : HL} (h : shS r) (at_ : ∀ f, f ∈ r → f.at B H) : allCell (rowC r) = true := by
 obtain ⟨a, b, c, vd, d, e, f, g, rfl⟩ := h
 have ct : vd.isCell = true := SlIs.cell (at_ (.txs vd d) (.tail _ (.tail _ (.tail _ (List.Mem.head _)))))
 repeat' (first | exact ac0 | apply ac1)
 all_goals first | rfl | assumption
theorem fn19_ok {H : HL} : WF B tab (.func 19) [] H fun r H' => r = .agg [.fn (.func 70) [] [], .fn (.func 72) [] []] ∧ H' = H := by
 refine WF.lessP ?_
 refine WF.fn g19 rfl ?_
 repeat' (first
  | apply WOps.nil | apply WC.seq | apply WC.reg | apply WC.ret | (apply WOps.st; rfl; rfl; (first | exact tk0 | exact tk1 | exact tk2); rfl; (· repeat' (first | rfl | assumption | apply ac1)); rfl) | (apply WOps.alc; rfl; intro _) | (apply WOps.purG; rfl; (intro _; rfl)))
 exact ⟨trivial, [_], ⟨_, _, rfl, ⟨_, _, rfl, Ld.own Tk.head rfl, rfl⟩, rfl⟩, H, ⟨rfl, rfl⟩, subF (by intro f; simp only [AV.cells, pm] <;> omega)⟩
theorem shC_len {r : List Fd} (h : shC r) : (rowC r).length = 7 ∧ r.length ≤ 7 := by
 obtain ⟨a, b, c, d, e, f, g, rfl⟩ := h
 exact ⟨rfl, by simp⟩
theorem shC_cell {r : List Fd} {H : HL} (h : shC r) (at_ : ∀ f, f ∈ r → f.at B H) : allCell (rowC r) = true := by
 obtain ⟨a, b, c, d, e, f, g, rfl⟩ := h
 repeat' (first | exact ac0 | apply ac1)
 all_goals first | rfl | assumption
theorem fn21_ok {H : HL} : WF B tab (.func 21) [] H fun r H' => r = .agg [.fn (.func 75) [] [], .fn (.func 76) [] []] ∧ H' = H := by
 refine WF.lessP ?_
 refine WF.fn g21 rfl ?_
 repeat' (first
  | apply WOps.nil | apply WC.seq | apply WC.reg | apply WC.ret | (apply WOps.st; rfl; rfl; (first | exact tk0 | exact tk1 | exact tk2); rfl; (· repeat' (first | rfl | assumption | apply ac1)); rfl) | (apply WOps.alc; rfl; intro _) | (apply WOps.purG; rfl; (intro _; rfl)))
 exact ⟨trivial, [_], ⟨_, _, rfl, ⟨_, _, rfl, Ld.own Tk.head rfl, rfl⟩, rfl⟩, H, ⟨rfl, rfl⟩, subF (by intro f; simp only [AV.cells, pm] <;> omega)⟩
theorem shI_len {r : List Fd} (h : shI r) : (rowC r).length = 5 ∧ r.length ≤ 7 := by
 obtain ⟨a, b, c, d, e, rfl⟩ := h
 exact ⟨rfl, by simp⟩
theorem shI_cell {r : List Fd} {H : HL} (h : shI r) (at_ : ∀ f, f ∈ r → f.at B H) : allCell (rowC r) = true := by
 obtain ⟨a, b, c, d, e, rfl⟩ := h
 repeat' (first | exact ac0 | apply ac1)
 all_goals first | rfl | assumption
theorem fn23_ok {H : HL} : WF B tab (.func 23) [] H fun r H' => r = .agg [.fn (.func 77) [] [], .fn (.func 79) [] []] ∧ H' = H := by
 refine WF.lessP ?_
 refine WF.fn g23 rfl ?_
 repeat' (first
  | apply WOps.nil | apply WC.seq | apply WC.reg | apply WC.ret | (apply WOps.st; rfl; rfl; (first | exact tk0 | exact tk1 | exact tk2); rfl; (· repeat' (first | rfl | assumption | apply ac1)); rfl) | (apply WOps.alc; rfl; intro _) | (apply WOps.purG; rfl; (intro _; rfl)))
 exact ⟨trivial, [_], ⟨_, _, rfl, ⟨_, _, rfl, Ld.own Tk.head rfl, rfl⟩, rfl⟩, H, ⟨rfl, rfl⟩, subF (by intro f; simp only [AV.cells, pm] <;> omega)⟩
theorem shE_len {r : List Fd} (h : shE r) : (rowC r).length = 6 ∧ r.length ≤ 7 := by
 obtain ⟨a, b, c, d, e, f, rfl⟩ := h
 exact ⟨rfl, by simp⟩
theorem shE_cell {r : List Fd} {H : HL} (h : shE r) (at_ : ∀ f, f ∈ r → f.at B H) : allCell (rowC r) = true := by
 obtain ⟨a, b, c, d, e, f, rfl⟩ := h
 repeat' (first | exact ac0 | apply ac1)
 all_goals first | rfl | assumption
theorem fn25_ok {H : HL} : WF B tab (.func 25) [] H fun r H' => r = .agg [.fn (.func 81) [] [], .fn (.func 82) [] []] ∧ H' = H := by
 refine WF.lessP ?_
 refine WF.fn g25 rfl ?_
 repeat' (first
  | apply WOps.nil | apply WC.seq | apply WC.reg | apply WC.ret | (apply WOps.st; rfl; rfl; (first | exact tk0 | exact tk1 | exact tk2); rfl; (· repeat' (first | rfl | assumption | apply ac1)); rfl) | (apply WOps.alc; rfl; intro _) | (apply WOps.purG; rfl; (intro _; rfl)))
 exact ⟨trivial, [_], ⟨_, _, rfl, ⟨_, _, rfl, Ld.own Tk.head rfl, rfl⟩, rfl⟩, H, ⟨rfl, rfl⟩, subF (by intro f; simp only [AV.cells, pm] <;> omega)⟩
theorem shL_len {r : List Fd} (h : shL r) : (rowC r).length = 4 ∧ r.length ≤ 7 := by
 obtain ⟨a, b, c, d, rfl⟩ := h
 exact ⟨rfl, by simp⟩
theorem shL_cell {r : List Fd} {H : HL} (h : shL r) (at_ : ∀ f, f ∈ r → f.at B H) : allCell (rowC r) = true := by
 obtain ⟨a, b, c, d, rfl⟩ := h
 repeat' (first | exact ac0 | apply ac1)
 all_goals first | rfl | assumption
theorem fn27_ok {H : HL} : WF B tab (.func 27) [] H fun r H' => r = .agg [.fn (.func 83) [] [], .fn (.func 84) [] []] ∧ H' = H := by
 refine WF.lessP ?_
 refine WF.fn g27 rfl ?_
 repeat' (first
  | apply WOps.nil | apply WC.seq | apply WC.reg | apply WC.ret | (apply WOps.st; rfl; rfl; (first | exact tk0 | exact tk1 | exact tk2); rfl; (· repeat' (first | rfl | assumption | apply ac1)); rfl) | (apply WOps.alc; rfl; intro _) | (apply WOps.purG; rfl; (intro _; rfl)))
 exact ⟨trivial, [_], ⟨_, _, rfl, ⟨_, _, rfl, Ld.own Tk.head rfl, rfl⟩, rfl⟩, H, ⟨rfl, rfl⟩, subF (by intro f; simp only [AV.cells, pm] <;> omega)⟩
theorem shQ_len {r : List Fd} (h : shQ r) : (rowC r).length = 3 ∧ r.length ≤ 7 := by
 obtain ⟨a, b, c, rfl⟩ := h
 exact ⟨rfl, by simp⟩
theorem shQ_cell {r : List Fd} {H : HL} (h : shQ r) (at_ : ∀ f, f ∈ r → f.at B H) : allCell (rowC r) = true := by
 obtain ⟨a, b, c, rfl⟩ := h
 repeat' (first | exact ac0 | apply ac1)
 all_goals first | rfl | assumption
theorem fn29_ok {H : HL} : WF B tab (.func 29) [] H fun r H' => r = .agg [.fn (.func 85) [] [], .fn (.func 86) [] []] ∧ H' = H := by
 refine WF.lessP ?_
 refine WF.fn g29 rfl ?_
 repeat' (first
  | apply WOps.nil | apply WC.seq | apply WC.reg | apply WC.ret | (apply WOps.st; rfl; rfl; (first | exact tk0 | exact tk1 | exact tk2); rfl; (· repeat' (first | rfl | assumption | apply ac1)); rfl) | (apply WOps.alc; rfl; intro _) | (apply WOps.purG; rfl; (intro _; rfl)))
 exact ⟨trivial, [_], ⟨_, _, rfl, ⟨_, _, rfl, Ld.own Tk.head rfl, rfl⟩, rfl⟩, H, ⟨rfl, rfl⟩, subF (by intro f; simp only [AV.cells, pm] <;> omega)⟩
structure DD where
 ix : Nat
 vn : AV
 vs : AV
 vc : AV
 vi : AV
 ve : AV
 vl : AV
 l0 : Nat
 l1 : Nat
 l2 : Nat
 l3 : Nat
 l4 : Nat
 l5 : Nat
 vq : AV
 n : List (List Fd)
 s : List (List Fd)
 c : List (List Fd)
 i : List (List Fd)
 e : List (List Fd)
 l : List (List Fd)
 q : List (List Fd)
def dumpC (d : DD) : List AV := [.int .u64 (.ofNat d.ix), d.vn, d.vs, d.vc, d.vi, d.ve, d.vl, .int .u64 (.ofNat d.l0), .int .u64 (.ofNat d.l1), .int .u64 (.ofNat d.l2), .int .u64 (.ofNat d.l3), .int .u64 (.ofNat d.l4), .int .u64 (.ofNat d.l5), d.vq]
structure LAt (B : Nat → List AV) (H : HL) (v : AV) (w : Nat) (sh : List Fd → Prop) (l : List (List Fd)) : Prop where
 sl : SlIs B H v w (l.map rowC)
 ok : ∀ r, r ∈ l → sh r ∧ (∀ f, f ∈ r → f.wf) ∧ ∀ f, f ∈ r → f.at B H
 len : l.length ≤ 9223372036854775807
structure DdAt (B : Nat → List AV) (H : HL) (d : DD) : Prop where
 n : LAt B H d.vn 4 shN d.n
 s : LAt B H d.vs 7 shS d.s
 c : LAt B H d.vc 7 shC d.c
 i : LAt B H d.vi 5 shI d.i
 e : LAt B H d.ve 6 shE d.e
 l : LAt B H d.vl 4 shL d.l
 q : LAt B H d.vq 3 shQ d.q
 b : d.ix < 18446744073709551616 ∧ d.l0 < 18446744073709551616 ∧ d.l1 < 18446744073709551616 ∧ d.l2 < 18446744073709551616 ∧ d.l3 < 18446744073709551616 ∧ d.l4 < 18446744073709551616 ∧ d.l5 < 18446744073709551616
theorem fn17_r {H : HL} : WF B tab (.func 17) [] H fun r H' => H' = H ∧ r = .agg [.fn (.func 63) [] [], .fn (.func 66) [] []] := fn17_ok.mono fun _ _ h => ⟨h.2, h.1⟩
theorem fn19_r {H : HL} : WF B tab (.func 19) [] H fun r H' => H' = H ∧ r = .agg [.fn (.func 70) [] [], .fn (.func 72) [] []] := fn19_ok.mono fun _ _ h => ⟨h.2, h.1⟩
theorem fn21_r {H : HL} : WF B tab (.func 21) [] H fun r H' => H' = H ∧ r = .agg [.fn (.func 75) [] [], .fn (.func 76) [] []] := fn21_ok.mono fun _ _ h => ⟨h.2, h.1⟩
theorem fn23_r {H : HL} : WF B tab (.func 23) [] H fun r H' => H' = H ∧ r = .agg [.fn (.func 77) [] [], .fn (.func 79) [] []] := fn23_ok.mono fun _ _ h => ⟨h.2, h.1⟩
theorem fn25_r {H : HL} : WF B tab (.func 25) [] H fun r H' => H' = H ∧ r = .agg [.fn (.func 81) [] [], .fn (.func 82) [] []] := fn25_ok.mono fun _ _ h => ⟨h.2, h.1⟩
theorem fn27_r {H : HL} : WF B tab (.func 27) [] H fun r H' => H' = H ∧ r = .agg [.fn (.func 83) [] [], .fn (.func 84) [] []] := fn27_ok.mono fun _ _ h => ⟨h.2, h.1⟩
theorem fn29_r {H : HL} : WF B tab (.func 29) [] H fun r H' => H' = H ∧ r = .agg [.fn (.func 85) [] [], .fn (.func 86) [] []] := fn29_ok.mono fun _ _ h => ⟨h.2, h.1⟩
theorem LAt.cons {H : HL} {x : Nat × AObj} {v : AV} {w : Nat} {sh : List Fd → Prop} {l : List (List Fd)} (h : LAt B H v w sh l) : LAt B (x :: H) v w sh l := ⟨SlIs.cons h.sl, fun r hr => ⟨(h.ok r hr).1, (h.ok r hr).2.1, fun f hf => Fd.at_cons ((h.ok r hr).2.2 f hf)⟩, h.len⟩
theorem DdAt.cons {H : HL} {x : Nat × AObj} {d : DD} (h : DdAt B H d) : DdAt B (x :: H) d := ⟨h.n.cons, h.s.cons, h.c.cons, h.i.cons, h.e.cons, h.l.cons, h.q.cons, h.b⟩
def BAt (H : HL) (v : AV) (us : List Nat) (R : HL) : Prop := ∃ h, OwnSl v (cellsOfStr us) us.length 1 h ∧ H.Perm (h ++ R)
theorem BAt.app {H R : HL} {v : AV} {us : List Nat} (h : BAt H v us R) (X : HL) : BAt (X ++ H) v us (X ++ R) := by
 obtain ⟨hv, o, q⟩ := h
 exact ⟨hv, o, (q.append_left X).trans (permF (by intro f; simp only [AV.cells, pm] <;> omega))⟩
theorem BAt.cons {H R : HL} {v : AV} {us : List Nat} {x : Nat × AObj} (h : BAt H v us R) : BAt (x :: H) v us (x :: R) := h.app [x]
theorem BAt.less {H R R1 : HL} {v : AV} {us : List Nat} (h : BAt H v us R) (p : SubP R1 R) : ∃ H3, BAt H3 v us R1 ∧ SubP H3 H := by
 obtain ⟨hv, o, q⟩ := h
 obtain ⟨G, pg⟩ := p
 refine ⟨_, ⟨hv, o, List.Perm.refl _⟩, G, q.trans ?_⟩
 refine permF fun f => ?_
 have := sum_perm pg f
 simp only [List.map_append, List.sum_append] at this ⊢
 omega
theorem BAt.ld {H R : HL} {v : AV} {us : List Nat} {a : AA} {n : Nat} {l : List AV} (h : BAt H v us R) (k : Ld B R a n l) : Ld B H a n l := by
 obtain ⟨hv, o, q⟩ := h
 exact Ld.perm q (Ld.right k)
theorem BAt.sl {H R : HL} {v : AV} {us : List Nat} {w : AV} {n : Nat} {xs : List (List AV)} (h : BAt H v us R) (k : SlIs B R w n xs) : SlIs B H w n xs := by
 obtain ⟨hv, o, q⟩ := h
 exact SlIs.perm q (SlIs.right k)
theorem BAt.heq {H R : HL} {v : AV} {us us2 : List Nat} (h : BAt H v us R) (e : us = us2) : BAt H v us2 R := e ▸ h
theorem WD.cvU {T : Tr FnI} {t : EL} {H : HL} {HH : List (Nat × HL)} {Q : EL → HL → Prop} {os : List DOper} {k : Nat} {g : Option (Nat × Bool)} {i bs : Nat} {x : AO} {k0 : IntKind} {m : Nat} (hg : wantedL g t = some true) (hx : gl t x = some (.int k0 (.ofNat m))) (h : m < 18446744073709551616) (w : WD B T os ((k, .int .u64 (.ofNat m)) :: t) H HH Q) : WD B T (⟨⟨some k, .cvInt .u64 x, g⟩, .quiet, i, bs⟩ :: os) t H HH Q :=
 WD.pur hg (fun h' => by
  have : IntKind.u64.wrap (Int.ofNat m) = Int.ofNat m := by rw [IntKind.wrap_u64]; simp only [Int.ofNat_eq_natCast]; omega
  simp only [aopL, hx, this]) w
/-! ### Bytes asx a text -/
def byL (l : List Nat) : Prop := ∀ b, b ∈ l → b < 256
theorem byL.app {a b : List Nat} (h : byL a) (k : byL b) : byL (a ++ b) := fun x hx => (List.mem_append.1 hx).elim (h x) (k x)
def Fd.by : Fd → Prop
 | .txt s => byL s
 | .txs _ l => ∀ s, s ∈ l → byL s
 | _ => True
structure DdBy (d : DD) : Prop where
 n : ∀ r, r ∈ d.n → ∀ f, f ∈ r → f.by
 s : ∀ r, r ∈ d.s → ∀ f, f ∈ r → f.by
 c : ∀ r, r ∈ d.c → ∀ f, f ∈ r → f.by
 i : ∀ r, r ∈ d.i → ∀ f, f ∈ r → f.by
 e : ∀ r, r ∈ d.e → ∀ f, f ∈ r → f.by
 l : ∀ r, r ∈ d.l → ∀ f, f ∈ r → f.by
 q : ∀ r, r ∈ d.q → ∀ f, f ∈ r → f.by
theorem bytesOf_cells {l : List Nat} (h : byL l) : bytesOf (cellsOfStr l) = some l := by
 induction l with
 | nil => rfl
 | cons a l ih =>
  have h1 : Nat.blt a 256 = true := by rw [Nat.blt_eq]; exact h a List.mem_cons_self
  simp only [cellsOfStr, bytesOf, h1, ih fun b hb => h b (List.mem_cons_of_mem _ hb)]
theorem BAt.src {H R : HL} {v : AV} {us : List Nat} (h : BAt H v us R) : SrcIs B H v 1 us.length (cellsOfStr us) := by
 obtain ⟨hv, o, q⟩ := h
 exact SrcIs.perm q (SrcIs.left (own_src o))
theorem Fd.at_app {H : HL} {f : Fd} (h : f.at B H) (X : HL) : f.at B (X ++ H) := by
 cases f <;> first | trivial | exact SlIs.right h
theorem LAt.app {H : HL} {v : AV} {w : Nat} {sh : List Fd → Prop} {l : List (List Fd)} (h : LAt B H v w sh l) (X : HL) : LAt B (X ++ H) v w sh l := ⟨SlIs.right h.sl, fun r hr => ⟨(h.ok r hr).1, (h.ok r hr).2.1, fun f hf => Fd.at_app ((h.ok r hr).2.2 f hf) X⟩, h.len⟩
theorem DdAt.app {H : HL} {d : DD} (h : DdAt B H d) (X : HL) : DdAt B (X ++ H) d := ⟨h.n.app X, h.s.app X, h.c.app X, h.i.app X, h.e.app X, h.l.app X, h.q.app X, h.b⟩
theorem works10 {H : HL} : WF B tab (.func 10) [] H fun r H' => H' = H ∧ r = .bool true := by
 refine WF.fnR g10 rfl ?_
 exact WC.reg (WOps.pur (fun _ => rfl) (WOps.nil ⟨trivial, List.Sublist.refl _, [_], ⟨_, [], rfl, rfl, rfl⟩, rfl⟩))
/-! ### Numbers are read -/
def valB (l : List Nat) : Nat := l.foldl (fun n b => n * 256 + b) 0
theorem valB_snoc {l : List Nat} {b : Nat} : valB (l ++ [b]) = valB l * 256 + b := by simp [valB]
theorem valB_lt : ∀ {l : List Nat}, byL l → valB l < 256 ^ l.length := by
 intro l
 induction h : l.length generalizing l with
 | zero => intro _; obtain rfl := List.length_eq_zero_iff.1 h; simp [valB]
 | succ n ih =>
  intro hb
  rcases List.eq_nil_or_concat l with rfl | ⟨l', b, rfl⟩
  ·simp at h
  ·rw [List.concat_eq_append] at *
   have h1 := ih (l := l') (by simpa using h) fun x hx => hb x (List.mem_append_left _ hx)
   have h2 := hb b (by simp)
   rw [valB_snoc, Nat.pow_succ]; omega
def rdN : List Nat → Nat × Nat × Nat
 | [] => (0, 0, 30)
 | m :: r => if 8 < m then (0, 0, 40) else if 0 < m ∧ r.head? = some 0 then (0, 0, 40) else if r.length < m then (0, 0, 30) else (valB (r.take m), m + 1, 0)
theorem byL.take {l : List Nat} (h : byL l) (n : Nat) : byL (l.take n) := fun b hb => h b (List.mem_of_mem_take hb)
theorem byL.drop {l : List Nat} (h : byL l) (n : Nat) : byL (l.drop n) := fun b hb => h b (List.mem_of_mem_drop hb)
theorem pow_le8 {a : Nat} (h : a ≤ 8) : (256 : Nat) ^ a ≤ 18446744073709551616 := by
 have := Nat.pow_le_pow_right (n := 256) (by omega) h
 simpa using this
theorem rdN_8 {m : Nat} {r : List Nat} (h : 8 < m) : rdN (m :: r) = (0, 0, 40) := by simp only [rdN]; rw [if_pos h]
theorem rdN_0 {m : Nat} {r : List Nat} (h : 0 < m ∧ r.head? = some 0) : rdN (m :: r) = (0, 0, 40) := by
 simp only [rdN]
 by_cases h8 : 8 < m
 ·rw [if_pos h8]
 ·rw [if_neg h8, if_pos h]
theorem rdN_s {m : Nat} {r : List Nat} (h8 : ¬ 8 < m) (h0 : ¬ (0 < m ∧ r.head? = some 0)) (h : r.length < m) : rdN (m :: r) = (0, 0, 30) := by simp only [rdN]; rw [if_neg h8, if_neg h0, if_pos h]
theorem rdN_ok {m : Nat} {r : List Nat} (h8 : ¬ 8 < m) (h0 : ¬ (0 < m ∧ r.head? = some 0)) (h : ¬ r.length < m) : rdN (m :: r) = (valB (r.take m), m + 1, 0) := by simp only [rdN]; rw [if_neg h8, if_neg h0, if_neg h]
theorem rdN_lt {l : List Nat} (hb : byL l) : (rdN l).1 < 18446744073709551616 ∧ ((rdN l).2.2 = 0 → 1 ≤ (rdN l).2.1 ∧ (rdN l).2.1 ≤ l.length ∧ (rdN l).2.1 ≤ 9) ∧ (rdN l).2.2 ≤ 40 ∧ ((rdN l).2.2 ≠ 0 → (rdN l).1 = 0 ∧ (rdN l).2.1 = 0) := by
 cases l with
 | nil => simp [rdN]
 | cons m r =>
  by_cases h8 : 8 < m
  ·rw [rdN_8 h8]; simp
  ·by_cases h0 : 0 < m ∧ r.head? = some 0
   ·rw [rdN_0 h0]; simp
   ·by_cases hs : r.length < m
    ·rw [rdN_s h8 h0 hs]; simp
    ·rw [rdN_ok h8 h0 hs]
     refine ⟨?_, fun _ => ⟨by simp, by simp only [List.length_cons]; omega, by simp only; omega⟩, by simp, by simp⟩
     have h1 := valB_lt (l := r.take m) (byL.take (fun b h => hb b (List.mem_cons_of_mem _ h)) m)
     have h2 : (r.take m).length = m := by rw [List.length_take]; omega
     have h3 := pow_le8 (a := m) (by omega)
     rw [h2] at h1
     simp only; omega
theorem byC_at {l : List Nat} {i c : Nat} (h : l[i]? = some c) : ((cellsOfStr l).drop i).take 1 = [.int .u8 (.ofNat c)] := by
 induction l generalizing i with
 | nil => cases h
 | cons a l ih =>
  cases i with
  | zero => cases h; simp [cellsOfStr]
  | succ i => simp only [cellsOfStr, List.drop_succ_cons]; exact ih (by simpa using h)
theorem src_sl {H : HL} {v : AV} {l : List Nat} (h : SrcIs B H v 1 l.length (cellsOfStr l)) : SlIs B H v 1 (l.map byC) := by
 rcases h with ⟨rfl, h0, _⟩ | ⟨a, rfl, h0⟩
 ·obtain rfl := List.length_eq_zero_iff.1 h0
  exact .inl ⟨rfl, rfl⟩
 ·refine .inr ⟨a, by rw [List.length_map], fun i c hc => ?_⟩
  rw [List.getElem?_map] at hc
  cases hx : l[i]? with
  | none => rw [hx] at hc; cases hc
  | some x =>
   rw [hx] at hc; cases hc
   have hi : i < l.length := by have := List.getElem?_eq_some_iff.1 hx; exact this.1
   rcases h0 with ⟨h0, _⟩ | h0
   ·omega
   ·rw [Nat.mul_one] at h0
    have := h0.part i 1 (by omega)
    rw [byC_at hx] at this
    rw [Nat.mul_one]; exact this
theorem src_ptr {H : HL} {v : AV} {l : List Nat} (h : SrcIs B H v 1 l.length (cellsOfStr l)) (h0 : 0 < l.length) : ∃ a, v = .sl a l.length 1 ∧ Ld B H a l.length (cellsOfStr l) := by
 rcases h with ⟨rfl, h1, _⟩ | ⟨a, rfl, h1⟩
 ·omega
 ·rcases h1 with ⟨h1, _⟩ | h1
  ·omega
  ·exact ⟨a, rfl, by rw [Nat.mul_one] at h1; exact h1⟩
theorem cells_drop (l : List Nat) (n : Nat) : (cellsOfStr l).drop n = cellsOfStr (l.drop n) := by
 induction l generalizing n with
 | nil => cases n <;> rfl
 | cons a l ih => cases n with
  | zero => rfl
  | succ n => simp only [cellsOfStr, List.drop_succ_cons]; exact ih n
theorem cells_take (l : List Nat) (n : Nat) : (cellsOfStr l).take n = cellsOfStr (l.take n) := by
 induction l generalizing n with
 | nil => cases n <;> rfl
 | cons a l ih => cases n with
  | zero => rfl
  | succ n => simp only [cellsOfStr, List.take_succ_cons]; rw [ih n]
theorem src_part {H : HL} {a : AA} {l : List Nat} (h : Ld B H a l.length (cellsOfStr l)) (o n : Nat) (hn : o + n ≤ l.length) : SrcIs B H (.sl ⟨a.ro, a.id, a.off + o⟩ n 1) 1 ((l.drop o).take n).length (cellsOfStr ((l.drop o).take n)) := by
 have e : ((l.drop o).take n).length = n := by rw [List.length_take, List.length_drop]; omega
 refine .inr ⟨_, by rw [e], .inr ?_⟩
 rw [e, Nat.mul_one, ← cells_take, ← cells_drop]
 exact h.part o n hn
theorem WOps.bin {T : Tr FnI} {t : EL} {H : HL} {Q : EL → HL → Prop} {os : List AOper} {k : Nat} {g : Option (Nat × Bool)} {op : BinOp} {x y : AO} {a b v : AV} (hg : wantedL g t = some true) (hx : gl t x = some a) (hy : gl t y = some b) (e : aBin op a b = some v)
  (w : WOps B T os ((k, v) :: t) H Q) : WOps B T (⟨some k, .bin op x y, g⟩ :: os) t H Q := WOps.purG hg (fun h => by simp [aopL, hx, hy, e, pure1]) w
theorem wrap64 {n : Nat} (h : n < 18446744073709551616) : IntKind.u64.wrap (Int.ofNat n) = Int.ofNat n := by rw [IntKind.wrap_u64]; simp only [Int.ofNat_eq_natCast]; omega
theorem add_u {n b : Nat} (h : n + b < 18446744073709551616) : aBin .add (.int .u64 (.ofNat n)) (.int .u64 (.ofNat b)) = some (.int .u64 (.ofNat (n + b))) := by
 have := wrap64 h
 simp only [aBin, if_true]
 rw [show (Int.ofNat n + Int.ofNat b) = Int.ofNat (n + b) from rfl, this]
theorem shl_u {n : Nat} (h : n * 256 < 18446744073709551616) : aBin .shl (.int .u64 (.ofNat n)) (.int .u64 (.ofNat 8)) = some (.int .u64 (.ofNat (n * 256))) := by
 have := wrap64 h
 simp only [aBin]
 rw [if_neg (by decide), show (Int.ofNat n * 2 ^ min (Int.ofNat 8).toNat IntKind.u64.bits) = Int.ofNat (n * 256) from rfl, this]
theorem or_u {n b : Nat} (h : n * 256 + b < 18446744073709551616) (hb : b < 256) : aBin .or (.int .u64 (.ofNat (n * 256))) (.int .u64 (.ofNat b)) = some (.int .u64 (.ofNat (n * 256 + b))) := by
 have := wrap64 h
 simp only [aBin, if_true]
 have e : (BitVec.ofInt IntKind.u64.bits (Int.ofNat (n * 256)) ||| BitVec.ofInt IntKind.u64.bits (Int.ofNat b)).toNat = n * 256 + b := by
  rw [BitVec.toNat_or]
  simp only [Int.ofNat_eq_natCast, BitVec.ofInt_natCast, BitVec.toNat_ofNat]
  rw [Nat.mod_eq_of_lt (by show n * 256 < 2 ^ 64; omega), Nat.mod_eq_of_lt (by show b < 2 ^ 64; omega)]
  have := Nat.two_pow_add_eq_or_of_lt (i := 8) (b := b) hb n
  rw [show n * 256 = 2 ^ 8 * n by omega]; exact this.symm
 rw [e]
 exact congrArg (fun x => some (AV.int IntKind.u64 x)) this
theorem WOps.addU {T : Tr FnI} {t : EL} {H : HL} {Q : EL → HL → Prop} {os : List AOper} {k : Nat} {g : Option (Nat × Bool)} {x y : AO} {n b : Nat} (hg : wantedL g t = some true) (hx : gl t x = some (.int .u64 (.ofNat n))) (hy : gl t y = some (.int .u64 (.ofNat b))) (h : n + b < 18446744073709551616) (w : WOps B T os ((k, .int .u64 (.ofNat (n + b))) :: t) H Q) : WOps B T (⟨some k, .bin .add x y, g⟩ :: os) t H Q := WOps.bin hg hx hy (add_u h) w
theorem WOps.shlU {T : Tr FnI} {t : EL} {H : HL} {Q : EL → HL → Prop} {os : List AOper} {k : Nat} {g : Option (Nat × Bool)} {x y : AO} {n : Nat} (hg : wantedL g t = some true) (hx : gl t x = some (.int .u64 (.ofNat n))) (hy : gl t y = some (.int .u64 (.ofNat 8))) (h : n * 256 < 18446744073709551616) (w : WOps B T os ((k, .int .u64 (.ofNat (n * 256))) :: t) H Q) : WOps B T (⟨some k, .bin .shl x y, g⟩ :: os) t H Q := WOps.bin hg hx hy (shl_u h) w
theorem WOps.orU {T : Tr FnI} {t : EL} {H : HL} {Q : EL → HL → Prop} {os : List AOper} {k : Nat} {g : Option (Nat × Bool)} {x y : AO} {n b : Nat} (hg : wantedL g t = some true) (hx : gl t x = some (.int .u64 (.ofNat (n * 256)))) (hy : gl t y = some (.int .u64 (.ofNat b))) (h : n * 256 + b < 18446744073709551616) (hb : b < 256) (w : WOps B T os ((k, .int .u64 (.ofNat (n * 256 + b))) :: t) H Q) : WOps B T (⟨some k, .bin .or x y, g⟩ :: os) t H Q := WOps.bin hg hx hy (or_u h hb) w
theorem WOps.cT {T : Tr FnI} {t : EL} {H : HL} {Q : EL → HL → Prop} {os : List AOper} {k : Nat} {g : Option (Nat × Bool)} {op : BinOp} {x y : AO} {ki : IntKind} {a b : Int} (hc : isCmp op = true) (hg : wantedL g t = some true) (hx : gl t x = some (.int ki a)) (hy : gl t y = some (.int ki b)) (p : cmpP op a b)
  (w : WOps B T os ((k, .bool true) :: t) H Q) : WOps B T (⟨some k, .bin op x y, g⟩ :: os) t H Q := WOps.cmp hc hg hx hy fun v hv => by
 obtain rfl := hv.2 p
 exact w
theorem WOps.cF {T : Tr FnI} {t : EL} {H : HL} {Q : EL → HL → Prop} {os : List AOper} {k : Nat} {g : Option (Nat × Bool)} {op : BinOp} {x y : AO} {ki : IntKind} {a b : Int} (hc : isCmp op = true) (hg : wantedL g t = some true) (hx : gl t x = some (.int ki a)) (hy : gl t y = some (.int ki b)) (p : ¬ cmpP op a b)
  (w : WOps B T os ((k, .bool false) :: t) H Q) : WOps B T (⟨some k, .bin op x y, g⟩ :: os) t H Q := WOps.cmp hc hg hx hy fun v hv => by
 cases v with
 | true => exact absurd (hv.1 rfl) p
 | false => exact w
def numR (bs : List Nat) : AV := .tup [.int .u64 (.ofNat (rdN bs).1), .int .i64 (.ofNat (rdN bs).2.1), .int .i64 (.ofNat (rdN bs).2.2)]
theorem numR_of {bs : List Nat} {n k e : Nat} (h : rdN bs = (n, k, e)) : .tup [.int .u64 (.ofNat n), .int .i64 (.ofNat k), .int .i64 (.ofNat e)] = numR bs := by rw [numR, h]
theorem valB_step {r : List Nat} {i : Nat} (hi : i < r.length) : valB (r.take (i + 1)) = valB (r.take i) * 256 + r[i] := by rw [List.take_succ_eq_append_getElem hi, valB_snoc]
theorem valB_lt2 {r : List Nat} (hb : byL r) {i m : Nat} (hi : i < m) (h8 : ¬ 8 < m) (hl : i < r.length) : valB (r.take i) * 256 + r[i] < 18446744073709551616 ∧ r[i] < 256 := by
 have h1 := valB_lt (l := r.take (i + 1)) (hb.take _)
 have h2 : (r.take (i + 1)).length = i + 1 := by rw [List.length_take]; omega
 have h3 := pow_le8 (a := i + 1) (by omega)
 rw [h2, valB_step (by omega)] at h1
 exact ⟨by omega, hb _ (List.getElem_mem _)⟩
theorem WOps.lenV {T : Tr FnI} {t : EL} {H : HL} {Q : EL → HL → Prop} {os : List AOper} {k : Nat} {g : Option (Nat × Bool)} {x : AO} {a : AA} {n e : Nat} (hg : wantedL g t = some true) (hx : gl t x = some (.sl a n e))
  (w : WOps B T os ((k, .int .i64 (.ofNat n)) :: t) H Q) : WOps B T (⟨some k, .len false x, g⟩ :: os) t H Q := WOps.purG hg (fun h => by simp only [aopL, hx, lenSrc]) w
theorem WOps.slP {T : Tr FnI} {t : EL} {H : HL} {Q : EL → HL → Prop} {os : List AOper} {k : Nat} {g : Option (Nat × Bool)} {esz n l h m : Nat} {a : AA} {x : AO} {lo hi mx : Option AO} {lo' hi' mx' : Option AV} (hg : wantedL g t = some true) (hx : gl t x = some (.sl a n esz)) (h1 : glo t lo = some lo') (h2 : glo t hi = some hi') (h3 : glo t mx = some mx')
  (hb : bounds n lo' hi' mx' = some (l, h, m)) (w : WOps B T os ((k, .sl ⟨a.ro, a.id, a.off + l * esz⟩ (h - l) esz) :: t) H Q) : WOps B T (⟨some k, .slS esz x lo hi mx, g⟩ :: os) t H Q :=
 WOps.purG hg (fun h' => by simp only [aopL, hx, h1, h2, h3, Nat.beq_refl, hb]) w
set_option maxHeartbeats 4000000 in
theorem number100_ok {H : HL} {v : AV} {bs : List Nat} (hs : SrcIs B H v 1 bs.length (cellsOfStr bs)) (hb : byL bs) (hl : bs.length ≤ 4611686018427387904) :
  WF B tab (.func 100) [v] H fun r H' => H' = H ∧ r = numR bs := by
 refine WF.fnR g100 rfl ?_
 have sl := src_sl hs
 cases bs with
 | nil =>
  repeat' (first
   | apply WOps.nil | apply WC.seq | apply WC.reg | apply WC.ret | (apply WC.condT; rfl) | (apply WOps.cT; rfl; rfl; rfl; rfl; focus (simp only [cmpP, Int.ofNat_eq_natCast, List.length_cons, List.length_map, List.length_nil, Classical.not_not, not_true_eq_false, not_false_eq_true]; first | done | omega | decide)) | (apply WOps.lenS; rfl; rfl; exact sl) | (apply WOps.purG; rfl; (intro _; rfl)))
  exact ⟨trivial, List.Sublist.refl _, [_, _, _], ⟨_, [_, _], rfl, rfl, _, [_], rfl, rfl, _, [], rfl, rfl, rfl⟩, rfl⟩
 | cons m r =>
  obtain ⟨a, rfl, ld⟩ := src_ptr hs (by simp)
  have hm : m < 256 := hb m List.mem_cons_self
  have hr : byL r := fun b h => hb b (List.mem_cons_of_mem _ h)
  have l0 : Ld B H ⟨a.ro, a.id, a.off + 0⟩ 1 [.int .u8 (.ofNat m)] := ld.part 0 1 (by simp)
  have l1 : ∀ b (r' : List Nat), r = b :: r' → Ld B H ⟨a.ro, a.id, a.off + 1⟩ 1 [.int .u8 (.ofNat b)] := fun b r' e => by subst e; exact ld.part 1 1 (by simp)
  rw [List.length_cons] at hl
  by_cases h8 : 8 < m
  ·repeat' (first
    | apply WOps.nil | apply WC.seq | apply WC.reg | apply WC.skip | apply WC.ret | (apply WC.condT; rfl) | (apply WC.condF; rfl) | apply WC.block | (apply WOps.cT; rfl; rfl; rfl; rfl; focus (simp only [cmpP, Int.ofNat_eq_natCast, List.length_cons, List.length_map, List.length_nil, Classical.not_not, not_true_eq_false, not_false_eq_true]; first | done | omega | decide)) | (apply WOps.cF; rfl; rfl; rfl; rfl; focus (simp only [cmpP, Int.ofNat_eq_natCast, List.length_cons, List.length_map, List.length_nil, Classical.not_not, not_true_eq_false, not_false_eq_true]; first | done | omega | decide)) | (apply WOps.lenS; rfl; rfl; exact sl) | (apply WOps.ixO; rfl; rfl; rfl; exact Nat.succ_pos _) | (apply WOps.ldG; rfl; rfl; exact l0; rfl) | (apply WOps.cvI; rfl; rfl; omega) | (apply WOps.purG; rfl; (intro _; rfl)) | (apply WOps.skp; rfl))
   exact ⟨trivial, List.Sublist.refl _, [_, _, _], ⟨_, [_, _], rfl, rfl, _, [_], rfl, rfl, _, [], rfl, rfl, rfl⟩, numR_of (rdN_8 h8)⟩
  by_cases h0 : 0 < m ∧ r.head? = some 0
  ·obtain ⟨h0, h1⟩ := h0
   cases r with
   | nil => cases h1
   | cons b r =>
    simp only [List.head?_cons, Option.some.injEq] at h1
    subst h1
    have l2 := l1 _ _ rfl
    repeat' (first
     | apply WOps.nil | apply WC.seq | apply WC.reg | apply WC.skip | apply WC.ret | (apply WC.condT; rfl) | (apply WC.condF; rfl) | apply WC.block | (apply WOps.cT; rfl; rfl; rfl; rfl; focus (simp only [cmpP, Int.ofNat_eq_natCast, List.length_cons, List.length_map, List.length_nil, Classical.not_not, not_true_eq_false, not_false_eq_true]; first | done | omega | decide)) | (apply WOps.cF; rfl; rfl; rfl; rfl; focus (simp only [cmpP, Int.ofNat_eq_natCast, List.length_cons, List.length_map, List.length_nil, Classical.not_not, not_true_eq_false, not_false_eq_true]; first | done | omega | decide)) | (apply WOps.lenS; rfl; rfl; exact sl) | (apply WOps.ixO; rfl; rfl; rfl; exact Nat.succ_pos _) | (apply WOps.ixO; rfl; rfl; rfl; exact Nat.succ_lt_succ (Nat.succ_pos _)) | (apply WOps.ldG; rfl; rfl; exact l0; rfl) | (apply WOps.ldG; rfl; rfl; exact l2; rfl) | (apply WOps.cvI; rfl; rfl; omega) | (apply WOps.purG; rfl; (intro _; rfl)))
    exact ⟨trivial, List.Sublist.refl _, [_, _, _], ⟨_, [_, _], rfl, rfl, _, [_], rfl, rfl, _, [], rfl, rfl, rfl⟩, numR_of (rdN_0 ⟨h0, rfl⟩)⟩
  by_cases hsh : r.length < m
  ·have hh : m = 0 ∨ r = [] ∨ (0 < m ∧ ∃ b r', r = b :: r' ∧ 0 < b) := by
    rcases Nat.eq_zero_or_pos m with h | h
    ·exact .inl h
    ·cases r with
     | nil => exact .inr (.inl rfl)
     | cons b r' => exact .inr (.inr ⟨h, b, r', rfl, Nat.pos_of_ne_zero fun e => h0 ⟨h, by rw [e]; rfl⟩⟩)
   rcases hh with hh | hh | ⟨hh, b, r', rfl, hp⟩
   ·omega
   ·subst hh
    have hp : 0 < m := by simpa using hsh
    repeat' (first
     | apply WOps.nil | apply WC.seq | apply WC.reg | apply WC.skip | apply WC.ret | (apply WC.condT; rfl) | (apply WC.condF; rfl) | apply WC.block | (apply WOps.cT; rfl; rfl; rfl; rfl; focus (simp only [cmpP, Int.ofNat_eq_natCast, List.length_cons, List.length_map, List.length_nil, Classical.not_not, not_true_eq_false, not_false_eq_true]; first | done | omega | decide)) | (apply WOps.cF; rfl; rfl; rfl; rfl; focus (simp only [cmpP, Int.ofNat_eq_natCast, List.length_cons, List.length_map, List.length_nil, Classical.not_not, not_true_eq_false, not_false_eq_true]; first | done | omega | decide)) | (apply WOps.lenS; rfl; rfl; exact sl) | (apply WOps.ixO; rfl; rfl; rfl; exact Nat.succ_pos _) | (apply WOps.ldG; rfl; rfl; exact l0; rfl) | (apply WOps.cvI; rfl; rfl; omega) | (apply WOps.addN; rfl; rfl; rfl; omega) | (apply WOps.purG; rfl; (intro _; rfl)) | (apply WOps.skp; rfl))
    exact ⟨trivial, List.Sublist.refl _, [_, _, _], ⟨_, [_, _], rfl, rfl, _, [_], rfl, rfl, _, [], rfl, rfl, rfl⟩, numR_of (rdN_s h8 h0 hsh)⟩
   ·have l2 := l1 _ _ rfl
    have hb1 : b < 256 := hr b List.mem_cons_self
    rw [List.length_cons] at hl hsh
    repeat' (first
     | apply WOps.nil | apply WC.seq | apply WC.reg | apply WC.skip | apply WC.ret | (apply WC.condT; rfl) | (apply WC.condF; rfl) | apply WC.block | (apply WOps.cT; rfl; rfl; rfl; rfl; focus (simp only [cmpP, Int.ofNat_eq_natCast, List.length_cons, List.length_map, List.length_nil, Classical.not_not, not_true_eq_false, not_false_eq_true]; first | done | omega | decide)) | (apply WOps.cF; rfl; rfl; rfl; rfl; focus (simp only [cmpP, Int.ofNat_eq_natCast, List.length_cons, List.length_map, List.length_nil, Classical.not_not, not_true_eq_false, not_false_eq_true]; first | done | omega | decide)) | (apply WOps.lenS; rfl; rfl; exact sl) | (apply WOps.ixO; rfl; rfl; rfl; exact Nat.succ_pos _) | (apply WOps.ixO; rfl; rfl; rfl; exact Nat.succ_lt_succ (Nat.succ_pos _)) | (apply WOps.ldG; rfl; rfl; exact l0; rfl) | (apply WOps.ldG; rfl; rfl; exact l2; rfl) | (apply WOps.cvI; rfl; rfl; omega) | (apply WOps.addN; rfl; rfl; rfl; omega) | (apply WOps.purG; rfl; (intro _; rfl)))
    exact ⟨trivial, List.Sublist.refl _, [_, _, _], ⟨_, [_, _], rfl, rfl, _, [_], rfl, rfl, _, [], rfl, rfl, rfl⟩, numR_of (rdN_s h8 h0 hsh)⟩
  ·have hq : ∀ b r', r = b :: r' → 0 < m → 0 < b := fun b r' e h => Nat.pos_of_ne_zero fun e2 => h0 ⟨h, by rw [e, e2]; rfl⟩
   rcases Nat.eq_zero_or_pos m with hz | hz
   ·subst hz
    repeat' (first
     | apply WOps.nil | apply WC.seq | apply WC.reg | apply WC.skip | (apply WC.condF; rfl) | apply WC.block | (apply WOps.cF; rfl; rfl; rfl; rfl; focus (simp only [cmpP, Int.ofNat_eq_natCast, List.length_cons, List.length_map, List.length_nil, Classical.not_not, not_true_eq_false, not_false_eq_true]; first | done | omega | decide)) | (apply WOps.lenS; rfl; rfl; exact sl) | (apply WOps.ixO; rfl; rfl; rfl; exact Nat.succ_pos _) | (apply WOps.lenV; rfl; rfl) | (apply WOps.slP; rfl; rfl; rfl; rfl; rfl; exact bounds_2 (by rw [List.length_cons]; omega) (by omega)) | (apply WOps.ldG; rfl; rfl; exact l0; rfl) | (apply WOps.cvI; rfl; rfl; omega) | (apply WOps.addN; rfl; rfl; rfl; omega) | (apply WOps.purG; rfl; (intro _; rfl)) | (apply WOps.skp; rfl))
    refine WC.loop ?_
    apply WL.step
    repeat' (first
     | apply WOps.nil | apply WC.seq | apply WC.reg | apply WC.ret | apply WC.exit | (apply WC.condF; rfl) | (apply WOps.cF; rfl; rfl; rfl; rfl; focus (simp only [cmpP, Int.ofNat_eq_natCast, List.length_cons, List.length_map, List.length_nil, Classical.not_not, not_true_eq_false, not_false_eq_true]; first | done | omega | decide)) | (apply WOps.addN; rfl; rfl; rfl; omega) | (apply WOps.purG; rfl; (intro _; rfl)))
    exact ⟨trivial, List.Sublist.refl _, [_, _, _], ⟨_, [_, _], rfl, rfl, _, [_], rfl, rfl, _, [], rfl, rfl, rfl⟩, numR_of (rdN_ok h8 h0 hsh)⟩
   obtain ⟨b1, r', er, hp⟩ : ∃ b r', r = b :: r' ∧ 0 < b := by
    cases r with
    | nil => simp at hsh; omega
    | cons b r' => exact ⟨b, r', rfl, hq b r' rfl hz⟩
   have l2 := l1 _ _ er
   have hb1 : b1 < 256 := hr b1 (by rw [er]; exact List.mem_cons_self)
   have hl2 : 0 < r.length := by rw [er]; simp
   clear er
   repeat' (first
    | apply WOps.nil | apply WC.seq | apply WC.reg | apply WC.skip | (apply WC.condF; rfl) | apply WC.block | (apply WOps.cT; rfl; rfl; rfl; rfl; focus (simp only [cmpP, Int.ofNat_eq_natCast, List.length_cons, List.length_map, List.length_nil, Classical.not_not, not_true_eq_false, not_false_eq_true]; first | done | omega | decide)) | (apply WOps.cF; rfl; rfl; rfl; rfl; focus (simp only [cmpP, Int.ofNat_eq_natCast, List.length_cons, List.length_map, List.length_nil, Classical.not_not, not_true_eq_false, not_false_eq_true]; first | done | omega | decide)) | (apply WOps.lenS; rfl; rfl; exact sl) | (apply WOps.ixO; rfl; rfl; rfl; exact Nat.succ_pos _) | (apply WOps.ixO; rfl; rfl; rfl; exact Nat.succ_lt_succ hl2) | (apply WOps.lenV; rfl; rfl) | (apply WOps.slP; rfl; rfl; rfl; rfl; rfl; exact bounds_2 (by rw [List.length_cons]; omega) (by omega)) | (apply WOps.ldG; rfl; rfl; exact l0; rfl) | (apply WOps.ldG; rfl; rfl; exact l2; rfl) | (apply WOps.cvI; rfl; rfl; omega) | (apply WOps.addN; rfl; rfl; rfl; omega) | (apply WOps.purG; rfl; (intro _; rfl)))
   refine WC.loop ?_
   obtain ⟨i, hi⟩ : ∃ i : Nat, i = 0 := ⟨0, rfl⟩
   refine WL.le (t' := [(5, .int .i64 (.ofNat m)), (6, .int .u64 (.ofNat (valB (r.take i)))), (43, .sl ⟨a.ro, a.id, a.off + 1 * 1⟩ (m + 1 - 1) 1), (44, .int .i64 (.ofNat (m + 1 - 1))), (45, .int .i64 (.ofNat i))]) (by subst hi; exact Sub1.cons rfl (Sub1.cons rfl (Sub1.cons rfl (Sub1.cons rfl (Sub1.cons rfl Sub1.nil))))) ?_
   have hle : i ≤ m := by omega
   clear hi
   induction hk : m - i using Nat.strongRecOn generalizing i with | _ k ih => ?_
   apply WL.step
   by_cases hlt : i < m
   ·obtain ⟨q1, q2⟩ := valB_lt2 hr hlt h8 (by omega)
    have hlt2 : i < r.length := by omega
    have l3 : Ld B H ⟨a.ro, a.id, a.off + 1 * 1 + i * 1⟩ 1 [.int .u8 (.ofNat r[i])] := by
     have := ld.part (i + 1) 1 (by rw [List.length_cons]; omega)
     rw [byC_at (c := r[i]) (by rw [List.getElem?_cons_succ]; exact List.getElem?_eq_getElem _)] at this
     rw [show a.off + 1 * 1 + i * 1 = a.off + (i + 1) by omega]; exact this
    repeat' (first
     | apply WOps.nil | apply WC.seq | apply WC.reg | apply WC.skip | (apply WC.condT; rfl) | apply WC.block | (apply WOps.cT; rfl; rfl; rfl; rfl; focus (simp only [cmpP, Int.ofNat_eq_natCast, List.length_cons, List.length_map, List.length_nil, Classical.not_not, not_true_eq_false, not_false_eq_true]; first | done | omega | decide)) | (apply WOps.shlU; rfl; rfl; rfl; omega) | (apply WOps.ixO; rfl; rfl; rfl; (show i < m + 1 - 1; omega)) | (apply WOps.ldG; rfl; rfl; exact l3; rfl) | (apply WOps.cvU; rfl; rfl; omega) | (apply WOps.orU; rfl; rfl; rfl; omega; exact q2) | (apply WOps.addN; rfl; rfl; rfl; omega) | (apply WOps.purG; rfl; (intro _; rfl)))
    have := ih _ (by omega) (i + 1) (by omega) rfl
    rw [valB_step (by omega)] at this
    exact WL.le (Sub1.cons rfl (Sub1.cons rfl (Sub1.cons rfl (Sub1.cons rfl (Sub1.cons rfl Sub1.nil))))) this
   ·obtain rfl : i = m := by omega
    repeat' (first
     | apply WOps.nil | apply WC.seq | apply WC.reg | apply WC.ret | apply WC.exit | (apply WC.condF; rfl) | (apply WOps.cF; rfl; rfl; rfl; rfl; focus (simp only [cmpP, Int.ofNat_eq_natCast, List.length_cons, List.length_map, List.length_nil, Classical.not_not, not_true_eq_false, not_false_eq_true]; first | done | omega | decide)) | (apply WOps.addN; rfl; rfl; rfl; omega) | (apply WOps.purG; rfl; (intro _; rfl)))
    exact ⟨trivial, List.Sublist.refl _, [_, _, _], ⟨_, [_, _], rfl, rfl, _, [_], rfl, rfl, _, [], rfl, rfl, rfl⟩, numR_of (rdN_ok h8 h0 hsh)⟩
end Go.Proofs.Ytdcbglljljfleaa.DU
