/- What the functions do, shown by the logic. -/
import Derived.Test.YtgpnpcahcegadaaGreatRoA2
import Derived.Test.YtgpnpcahcegadaaGreatRoA3
import Derived.Test.YtgpnpcahcegadaaGreatRoA4
set_option linter.unusedSimpArgs false
set_option linter.unusedVariables false
set_option linter.unusedSectionVars false
set_option maxRecDepth 20000
namespace Go.Proofs.YtgpnpcahcegadaaGreat.RO
open Go.Proofs.YtgpnpcahcegadaaGreat.Abs
variable {B : Nat → List AV}
theorem WOps.cvS {T : Tr FnI} {t : EL} {H : HL} {Q : EL → HL → Prop} {os : List AOper} {k : Nat} {g : Option (Nat × Bool)} {x : AO} {a : AA} {n : Nat} {cs : List AV} {s : List Nat} (hg : wantedL g t = some true) (hx : gl t x = some (.sl a (n + 1) 1)) (hl : Ld B H a (n + 1) cs) (hb : bytesOf cs = some s)
  (w : WOps B T os ((k, .str s) :: t) H Q) : WOps B T (⟨some k, .cvStr x, g⟩ :: os) t H Q :=
 WOps.go hg (fun env h F le sp => ⟨.str s, h, H, w, sp, Ev.of fun m => by
  simp only [evOp, aop, rd_mono le hx, Nat.beq_refl, hl.cells sp, hb]⟩)
theorem digit52_ok {H : HL} {n : Nat} (hn : n < 8) : WF B tab (.func 52) [.int .i64 (.ofNat n)] H fun r H' => H' = H ∧ r = .str [48 + n] := by
  refine zY ?_
  refine WF.fn g52 rfl ?_
  rcases (by omega : n = 0 ∨ n = 1 ∨ n = 2 ∨ n = 3 ∨ n = 4 ∨ n = 5 ∨ n = 6 ∨ n = 7) with rfl | rfl | rfl | rfl | rfl | rfl | rfl | rfl
  all_goals repeat' (first
              | apply zC | apply zE | apply zD | apply zL | (apply yF; rfl; (· repeat' (first | rfl | assumption | apply ac1)); intro _) | (apply WOps.cvS; rfl; rfl; exact ld0 rfl; rfl) | (apply zB; rfl; (intro _; rfl)))
  all_goals exact ⟨trivial, [_], ⟨_, [], rfl, rfl, rfl⟩, H, ⟨rfl, rfl⟩, subF (by intro f; simp only [AV.cells, pm] <;> omega)⟩
theorem right49_ok {H : HL} (m : Int) : WF B tab (.func 49) [.int .i64 m] H fun r H' => H' = H ∧ ((r = .bool true ∧ ∃ n : Nat, n < 8 ∧ m = .ofNat n) ∨ (r = .bool false ∧ ¬ (0 ≤ m ∧ m < 8))) := by
 refine WF.fnR g49 rfl ?_
 repeat' (first
  | apply zC | apply zE | apply zD | apply zL | (apply zM; rfl; rfl; rfl; rfl; intro _ _) | (apply zB; rfl; (intro _; rfl)) | (apply zV; rfl) | (apply WOps.ask; rfl; all_goals (intro hb; first | subst hb | fail_if_success (cases hb))))
 ·rename_i v hv
  have h1 := ‹true = true ↔ cmpP BinOp.geq m _›.1 rfl
  simp only [cmpP, Int.ofNat_eq_natCast] at h1 hv
  cases v
  ·have h2 := eq_of_ff hv
   exact ⟨trivial, List.Sublist.refl _, [_], ⟨_, [], rfl, rfl, rfl⟩, .inr ⟨rfl, by omega⟩⟩
  ·have h2 := hv.1 rfl
   exact ⟨trivial, List.Sublist.refl _, [_], ⟨_, [], rfl, rfl, rfl⟩, .inl ⟨rfl, m.toNat, by omega, by simp only [Int.ofNat_eq_natCast]; omega⟩⟩
 ·have h1 := eq_of_ff ‹false = true ↔ cmpP BinOp.geq m _›
  simp only [cmpP, Int.ofNat_eq_natCast] at h1
  exact ⟨trivial, List.Sublist.refl _, [_], ⟨_, [], rfl, rfl, rfl⟩, .inr ⟨rfl, by omega⟩⟩
def keyN (n : Nat) : List Nat := [48 + n]
def keyS (n : Nat) (id : List Nat) : List Nat := (48 + n) :: 32 :: id
theorem WOps.catS {T : Tr FnI} {t : EL} {H : HL} {Q : EL → HL → Prop} {os : List AOper} {k : Nat} {g : Option (Nat × Bool)} {x y : AO} {a b : List Nat} (hg : wantedL g t = some true) (hx : gl t x = some (.str a)) (hy : gl t y = some (.str b)) (h : a.length + b.length ≤ 4611686018427387904)
  (w : WOps B T os ((k, .str (a ++ b)) :: t) H Q) : WOps B T (⟨some k, .bin .add x y, g⟩ :: os) t H Q :=
 zB hg (fun h' => by simp only [aopL, hx, hy, aBin, if_pos h, pure1]) w
theorem key48_ok {H : HL} {n : Nat} {id : List Nat} (hn : n < 8) (hid : id.length ≤ 140737488351232) : WF B tab (.func 48) [.int .i64 (.ofNat n), .str id] H fun r H' => H' = H ∧ r = .str (keyS n id) := by
 refine WF.fnR g48 rfl ?_
 repeat' (first
  | apply zC | apply zE | apply zD | apply zL | (apply WOps.clR; rfl; rfl; exact digit52_ok hn; rintro _ rfl) | (apply WOps.catS; rfl; rfl; rfl; (simp only [List.length_append, List.length_cons, List.length_nil]; omega)) | (apply zB; rfl; (intro _; rfl)))
 exact ⟨trivial, List.Sublist.refl _, [_], ⟨_, [], rfl, rfl, rfl⟩, rfl⟩
theorem find_leastN {es : List (TE NV)} {key : List Nat} {k : Nat} {r : AV} (so : Rise es) (hk : isLeast (notBelow es key) es.length k)
  (h : (∃ h : k < es.length, es[k].key = key ∧ r = .tup [.agg (rowN es[k]), .bool true]) ∨ ((¬ ∃ h : k < es.length, es[k].key = key) ∧ r = .tup [.agg (rowN zeN), .bool false])) :
  (∃ x, findE es key = some x ∧ r = .tup [.agg (rowN x), .bool true]) ∨ (findE es key = none ∧ r = .tup [.agg (rowN zeN), .bool false]) := by
 rcases find_at (sorted_of so) hk with ⟨h1, h2, h3⟩ | ⟨h1, h2⟩
 ·rcases h with ⟨_, _, h⟩ | ⟨h, _⟩
  ·exact .inl ⟨_, h3, h⟩
  ·exact absurd ⟨h1, h2⟩ h
 ·rcases h with ⟨h3, h4, _⟩ | ⟨_, h⟩
  ·exact absurd ⟨h3, h4⟩ h1
  ·exact .inr ⟨h2, h⟩
theorem find_leastS {es : List (TE SV)} {key : List Nat} {k : Nat} {r : AV} (so : Rise es) (hk : isLeast (notBelow es key) es.length k)
  (h : (∃ h : k < es.length, es[k].key = key ∧ r = .tup [.agg (rowS es[k]), .bool true]) ∨ ((¬ ∃ h : k < es.length, es[k].key = key) ∧ r = .tup [.agg (rowS zeS), .bool false])) :
  (∃ x, findE es key = some x ∧ r = .tup [.agg (rowS x), .bool true]) ∨ (findE es key = none ∧ r = .tup [.agg (rowS zeS), .bool false]) := by
 rcases find_at (sorted_of so) hk with ⟨h1, h2, h3⟩ | ⟨h1, h2⟩
 ·rcases h with ⟨_, _, h⟩ | ⟨h, _⟩
  ·exact .inl ⟨_, h3, h⟩
  ·exact absurd ⟨h1, h2⟩ h
 ·rcases h with ⟨h3, h4, _⟩ | ⟨_, h⟩
  ·exact absurd ⟨h3, h4⟩ h1
  ·exact .inr ⟨h2, h⟩
theorem getN_at {H R : HL} {a most : Nat} {last : Int} {es : List (TE NV)} {key : List Nat} (hm : 1 ≤ most) (hn : es.length ≤ 1000) (so : Rise es) (t : TbN H a most es last R) :
  WF B tab (.func 93) [.ptr ⟨false, a, 0⟩, .str key] H fun r H' => H' = H ∧ ((∃ x, findE es key = some x ∧ r = .tup [.agg (rowN x), .bool true]) ∨ (findE es key = none ∧ r = .tup [.agg (rowN zeN), .bool false])) := by
 obtain ⟨v, h0, h1, h2, h3, h4⟩ := t.rd (B := B)
 refine WF.mono (get93_ok h0 hm h1 h4 (by omega) (sorted_of so)) ?_
 rintro r _ ⟨rfl, k, h5, h6⟩
 exact ⟨rfl, find_leastN so h5 h6⟩
theorem getS_at {H R : HL} {a most : Nat} {last : Int} {es : List (TE SV)} {key : List Nat} (hm : 1 ≤ most) (hn : es.length ≤ 1000) (so : Rise es) (t : TbS H a most es last R) :
  WF B tab (.func 87) [.ptr ⟨false, a, 0⟩, .str key] H fun r H' => H' = H ∧ ((∃ x, findE es key = some x ∧ r = .tup [.agg (rowS x), .bool true]) ∨ (findE es key = none ∧ r = .tup [.agg (rowS zeS), .bool false])) := by
 obtain ⟨v, h0, h1, h2, h3, h4⟩ := t.rd (B := B)
 refine WF.mono (get87_ok h0 hm h1 h4 (by omega) (sorted_of so)) ?_
 rintro r _ ⟨rfl, k, h5, h6⟩
 exact ⟨rfl, find_leastS so h5 h6⟩
def hasN (es : List (TE NV)) (m : Int) : Prop := ∃ n : Nat, n < 8 ∧ m = .ofNat n ∧ findE es (keyN n) ≠ none
theorem there65_ok {H R : HL} {rp a most : Nat} {last m : Int} {es : List (TE NV)} (hm : 1 ≤ most) (hn : es.length ≤ 1000) (so : Rise es) (t : TbN H a most es last R) (hr : Ld B H ⟨false, rp, 0⟩ 1 [.ptr ⟨false, a, 0⟩]) :
  WF B tab (.func 65) [.ptr ⟨false, rp, 0⟩, .int .i64 m] H fun r H' => H' = H ∧ ∃ b : Bool, r = .bool b ∧ (b = true ↔ hasN es m) := by
 refine zY ?_
 refine WF.fn g65 rfl ?_
 repeat' (first
  | apply zC | apply zE | apply zD | apply zJ | apply zL | (apply zS; rfl) | (apply zO; rfl) | apply zT | apply zW | (apply WD.st; rfl; rfl; rfl; (first | exact tk0 | exact tk1 | exact tk2); rfl; (· repeat' (first | rfl | assumption | apply ac1)); rfl) | (apply WD.alc; rfl; rfl; intro _) | (apply WOps.clR; rfl; rfl; exact right49_ok m; rintro _ (⟨rfl, n, hn8, rfl⟩ | ⟨rfl, hno⟩)) | (apply WD.clR; rfl; rfl; exact digit52_ok hn8; rintro _ rfl) | (apply WD.clR; rfl; rfl; exact getN_at hm hn so t; rintro _ (⟨x, hx, rfl⟩ | ⟨hx, rfl⟩)) | (apply zI; rfl; · repeat' (first | refine at1 ?_ rfl | apply at2 | exact same0 | refine same1 ?_ rfl | apply same2 | exact rd_ld rfl (hr) rfl)) | (apply zB; rfl; (intro _; rfl)) | (apply zQ; rfl; (intro _; rfl)))
 ·exact ⟨trivial, [_], ⟨_, [], rfl, rfl, rfl⟩, H, ⟨rfl, _, rfl, ⟨fun _ => ⟨n, hn8, rfl, fun h => (by rw [show keyN n = [48 + n] from rfl, hx] at h; cases h)⟩, fun _ => rfl⟩⟩, subF (by intro f; simp only [AV.cells, pm] <;> omega)⟩
 ·refine ⟨trivial, [_], ⟨_, [], rfl, rfl, rfl⟩, H, ⟨rfl, _, rfl, ?_⟩, subF (by intro f; simp only [AV.cells, pm] <;> omega)⟩
  simp only [Bool.false_eq_true, false_iff]
  rintro ⟨n2, h2, h3, h4⟩
  have : n2 = n := by simp only [Int.ofNat_eq_natCast] at h3; omega
  subst this
  exact h4 hx
 ·refine ⟨trivial, [_], ⟨_, [], rfl, rfl, rfl⟩, H, ⟨rfl, _, rfl, ?_⟩, SubP.refl⟩
  simp only [Bool.false_eq_true, false_iff]
  rintro ⟨n2, h2, rfl, h4⟩
  exact hno ⟨Int.natCast_nonneg _, by show (n2 : Int) < 8; omega⟩
section mp
variable {V W : Type}
def TE.mp (f : V → W) (e : TE V) : TE W := ⟨e.key, f e.v, e.mke, e.ix⟩
theorem find_mp {f : V → W} {es : List (TE V)} {key : List Nat} : findE (es.map (TE.mp f)) key = (findE es key).map (TE.mp f) := by
 induction es with
 | nil => rfl
 | cons x r ih =>
  simp only [List.map_cons, findE, ih]
  show (if x.key = key then _ else _) = _
  split <;> simp
theorem put_mp {f : V → W} {es : List (TE V)} {e : TE V} : (putE es e).map (TE.mp f) = putE (es.map (TE.mp f)) (e.mp f) := by
 induction es with
 | nil => rfl
 | cons x r ih =>
  simp only [List.map_cons, putE]
  show _ = (if x.key = e.key then _ else if strLess e.key x.key = true then _ else _)
  split
  ·rfl
  ·split
   ·rfl
   ·rw [List.map_cons, ih]
theorem drop_mp {f : V → W} {es : List (TE V)} {key : List Nat} : (dropE es key).map (TE.mp f) = dropE (es.map (TE.mp f)) key := by
 induction es with
 | nil => rfl
 | cons x r ih =>
  simp only [List.map_cons, dropE]
  show _ = (if x.key = key then _ else _)
  split
  ·exact ih
  ·rw [List.map_cons, ih]
theorem rise_mp {f : V → W} {es : List (TE V)} : Rise (es.map (TE.mp f)) ↔ Rise es := by
 induction es with
 | nil => exact ⟨fun _ => .nil, fun _ => .nil⟩
 | cons x r ih =>
  constructor
  ·intro h
   cases h with
   | cons h k => exact .cons (fun y hy => h (y.mp f) (List.mem_map_of_mem hy)) (ih.1 k)
  ·intro h
   cases h with
   | cons h k =>
    refine .cons (fun y hy => ?_) (ih.2 k)
    obtain ⟨z, hz, rfl⟩ := List.mem_map.1 hy
    exact h z hz
end mp
structure KN where
 node : Int
 addr : List Nat
structure KS where
 node : Int
 id : List Nat
 name : List Nat
 tags : List (List Nat)
 port : Int
structure KC where
 node : Int
 id : List Nat
 svc : List Nat
 note : List Nat
 st : Int
def coN (v : NV) : KN := ⟨v.node, v.addr⟩
def coS (v : SV) : KS := ⟨v.node, v.id, v.name, v.tags, v.port⟩
def coC (v : CV) : KC := ⟨v.node, v.id, v.svc, v.note, v.st⟩
structure RS where
 ns : List (TE KN)
 ss : List (TE KS)
 cs : List (TE KC)
 l1 : Int
 l2 : Int
 l3 : Int
def TgIn (B : Nat → List AV) (G : HL) (a : AV) (tags : List (List Nat)) : Prop := SlIs B G a 1 (tags.map strC) ∧ SrcIs B G a 1 tags.length (tags.map strC).flatten
theorem TgIn.right {G X : HL} {a : AV} {tags : List (List Nat)} (h : TgIn B G a tags) : TgIn B (X ++ G) a tags := ⟨SlIs.right h.1, SrcIs.right h.2⟩
theorem TgIn.left {G X : HL} {a : AV} {tags : List (List Nat)} (h : TgIn B G a tags) : TgIn B (G ++ X) a tags := ⟨SlIs.left h.1, SrcIs.left h.2⟩
theorem TgIn.perm {G X : HL} {a : AV} {tags : List (List Nat)} (p : X.Perm G) (h : TgIn B G a tags) : TgIn B X a tags := ⟨SlIs.perm p h.1, SrcIs.perm p h.2⟩
theorem TgIn.cons {G : HL} {q : Nat × AObj} {a : AV} {tags : List (List Nat)} (h : TgIn B G a tags) : TgIn B (q :: G) a tags := TgIn.right (X := [q]) h
def TagsIn (B : Nat → List AV) (G : HL) (xs : List (TE SV)) : Prop := ∀ e, e ∈ xs → TgIn B G e.v.tg.a e.v.tags
def rosC (a1 a2 a3 : Nat) : List AV := [.ptr ⟨false, a1, 0⟩, .ptr ⟨false, a2, 0⟩, .ptr ⟨false, a3, 0⟩]
def RosAt (B : Nat → List AV) (H : HL) (rp a1 a2 a3 M : Nat) (s : RS) (R : HL) : Prop :=
 ∃ (xn : List (TE NV)) (xs : List (TE SV)) (xc : List (TE CV)) (v1 v2 v3 : AV) (h1 h2 h3 G : HL), xn.map (TE.mp coN) = s.ns ∧ xs.map (TE.mp coS) = s.ss ∧ xc.map (TE.mp coC) = s.cs ∧
  OwnSl v1 (xn.map rowN).flatten xn.length 7 h1 ∧ OwnSl v2 (xs.map rowS).flatten xs.length 10 h2 ∧ OwnSl v3 (xc.map rowC).flatten xc.length 10 h3 ∧ TagsIn B G xs ∧
  H.Perm ((a1, .row (tblC M v1 s.l1)) :: (a2, .row (tblC M v2 s.l2)) :: (a3, .row (tblC M v3 s.l3)) :: (rp, .row (rosC a1 a2 a3)) :: (h1 ++ (h2 ++ (h3 ++ (G ++ R)))))
theorem RosAt.permL {H H' R : HL} {rp a1 a2 a3 M : Nat} {s : RS} (h : RosAt B H rp a1 a2 a3 M s R) (p : H'.Perm H) : RosAt B H' rp a1 a2 a3 M s R := by
 obtain ⟨xn, xs, xc, v1, v2, v3, h1, h2, h3, G, e1, e2, e3, o1, o2, o3, tg, q⟩ := h
 exact ⟨xn, xs, xc, v1, v2, v3, h1, h2, h3, G, e1, e2, e3, o1, o2, o3, tg, p.trans q⟩
theorem RosAt.permR {H R R' : HL} {rp a1 a2 a3 M : Nat} {s : RS} (h : RosAt B H rp a1 a2 a3 M s R) (p : R.Perm R') : RosAt B H rp a1 a2 a3 M s R' := by
 obtain ⟨xn, xs, xc, v1, v2, v3, h1, h2, h3, G, e1, e2, e3, o1, o2, o3, tg, q⟩ := h
 refine ⟨xn, xs, xc, v1, v2, v3, h1, h2, h3, G, e1, e2, e3, o1, o2, o3, tg, q.trans ?_⟩
 exact (((((List.Perm.append_left _ p).append_left _).append_left _).append_left _).cons _ |>.cons _ |>.cons _ |>.cons _)
theorem RosAt.add {H R : HL} {rp a1 a2 a3 M : Nat} {s : RS} (h : RosAt B H rp a1 a2 a3 M s R) (X : HL) : RosAt B (X ++ H) rp a1 a2 a3 M s (X ++ R) := by
 obtain ⟨xn, xs, xc, v1, v2, v3, h1, h2, h3, G, e1, e2, e3, o1, o2, o3, tg, q⟩ := h
 refine ⟨xn, xs, xc, v1, v2, v3, h1, h2, h3, G, e1, e2, e3, o1, o2, o3, tg, (q.append_left X).trans ?_⟩
 exact permF (by intro f; simp only [pm] <;> omega)
theorem RosAt.cons {H R : HL} {rp a1 a2 a3 M : Nat} {s : RS} {x : Nat × AObj} (h : RosAt B H rp a1 a2 a3 M s R) : RosAt B (x :: H) rp a1 a2 a3 M s (x :: R) := h.add [x]
theorem RosAt.less {H R R1 : HL} {rp a1 a2 a3 M : Nat} {s : RS} (h : RosAt B H rp a1 a2 a3 M s R) (p : SubP R1 R) : ∃ H3, RosAt B H3 rp a1 a2 a3 M s R1 ∧ SubP H3 H := by
 obtain ⟨xn, xs, xc, v1, v2, v3, h1, h2, h3, G, e1, e2, e3, o1, o2, o3, tg, q⟩ := h
 obtain ⟨X, pX⟩ := p
 refine ⟨_, ⟨xn, xs, xc, v1, v2, v3, h1, h2, h3, G, e1, e2, e3, o1, o2, o3, tg, List.Perm.refl _⟩, X, q.trans ?_⟩
 have := sum_perm pX
 refine permF ?_
 intro f
 have := sum_perm pX f
 simp only [List.cons_append, List.map_cons, List.map_append, List.sum_cons, List.sum_append] at this ⊢
 omega
theorem RosAt.ld {H R : HL} {rp a1 a2 a3 M : Nat} {s : RS} {b : AA} {n : Nat} {l : List AV} (h : RosAt B H rp a1 a2 a3 M s R) (k : Ld B R b n l) : Ld B H b n l := by
 obtain ⟨xn, xs, xc, v1, v2, v3, h1, h2, h3, G, e1, e2, e3, o1, o2, o3, tg, q⟩ := h
 exact Ld.perm q k.right.right.right.right.cons.cons.cons.cons
theorem RosAt.sl {H R : HL} {rp a1 a2 a3 M : Nat} {s : RS} {w : AV} {n : Nat} {xs : List (List AV)} (h : RosAt B H rp a1 a2 a3 M s R) (k : SlIs B R w n xs) : SlIs B H w n xs := by
 obtain ⟨xn, ys, xc, v1, v2, v3, h1, h2, h3, G, e1, e2, e3, o1, o2, o3, tg, q⟩ := h
 exact SlIs.perm q (SlIs.cons (SlIs.cons (SlIs.cons (SlIs.cons (SlIs.right (SlIs.right (SlIs.right (SlIs.right k))))))))
theorem RosAt.row {H R : HL} {rp a1 a2 a3 M : Nat} {s : RS} (h : RosAt B H rp a1 a2 a3 M s R) : Ld B H ⟨false, rp, 0⟩ 3 (rosC a1 a2 a3) := by
 obtain ⟨xn, xs, xc, v1, v2, v3, h1, h2, h3, G, e1, e2, e3, o1, o2, o3, tg, q⟩ := h
 exact Ld.perm q (Ld.own (Tk.tail (Tk.tail (Tk.tail zG))) rfl)
theorem RosAt.r1 {H R : HL} {rp a1 a2 a3 M : Nat} {s : RS} (h : RosAt B H rp a1 a2 a3 M s R) : Ld B H ⟨false, rp, 0⟩ 1 [.ptr ⟨false, a1, 0⟩] := h.row.part 0 1 (by omega)
theorem RosAt.r2 {H R : HL} {rp a1 a2 a3 M : Nat} {s : RS} (h : RosAt B H rp a1 a2 a3 M s R) : Ld B H ⟨false, rp, 1⟩ 1 [.ptr ⟨false, a2, 0⟩] := h.row.part 1 1 (by omega)
theorem RosAt.r3 {H R : HL} {rp a1 a2 a3 M : Nat} {s : RS} (h : RosAt B H rp a1 a2 a3 M s R) : Ld B H ⟨false, rp, 2⟩ 1 [.ptr ⟨false, a3, 0⟩] := h.row.part 2 1 (by omega)
theorem RosAt.n {H R : HL} {rp a1 a2 a3 M : Nat} {s : RS} (h : RosAt B H rp a1 a2 a3 M s R) : ∃ (xn : List (TE NV)) (R1 : HL), xn.map (TE.mp coN) = s.ns ∧ TbN H a1 M xn s.l1 R1 ∧
  ∀ H' X xn' l', TbN H' a1 M xn' l' (X ++ R1) → RosAt B H' rp a1 a2 a3 M { s with ns := xn'.map (TE.mp coN), l1 := l' } (X ++ R) := by
 obtain ⟨xn, xs, xc, v1, v2, v3, h1, h2, h3, G, e1, e2, e3, o1, o2, o3, tg, q⟩ := h
 refine ⟨xn, (a2, .row (tblC M v2 s.l2)) :: (a3, .row (tblC M v3 s.l3)) :: (rp, .row (rosC a1 a2 a3)) :: (h2 ++ (h3 ++ (G ++ R))), e1, ⟨v1, h1, o1, q.trans ?_⟩, ?_⟩
 ·exact permF (by intro f; simp only [pm] <;> omega)
 ·rintro H' X xn' l' ⟨v, hs, o, p⟩
  refine ⟨xn', xs, xc, v, v2, v3, hs, h2, h3, G, rfl, e2, e3, o, o2, o3, tg, p.trans ?_⟩
  exact permF (by intro f; simp only [pm] <;> omega)
theorem RosAt.c {H R : HL} {rp a1 a2 a3 M : Nat} {s : RS} (h : RosAt B H rp a1 a2 a3 M s R) : ∃ (xc : List (TE CV)) (R1 : HL), xc.map (TE.mp coC) = s.cs ∧ TbC H a3 M xc s.l3 R1 ∧
  ∀ H' X xc' l', TbC H' a3 M xc' l' (X ++ R1) → RosAt B H' rp a1 a2 a3 M { s with cs := xc'.map (TE.mp coC), l3 := l' } (X ++ R) := by
 obtain ⟨xn, xs, xc, v1, v2, v3, h1, h2, h3, G, e1, e2, e3, o1, o2, o3, tg, q⟩ := h
 refine ⟨xc, (a1, .row (tblC M v1 s.l1)) :: (a2, .row (tblC M v2 s.l2)) :: (rp, .row (rosC a1 a2 a3)) :: (h1 ++ (h2 ++ (G ++ R))), e3, ⟨v3, h3, o3, q.trans ?_⟩, ?_⟩
 ·exact permF (by intro f; simp only [pm] <;> omega)
 ·rintro H' X xc' l' ⟨v, hs, o, p⟩
  refine ⟨xn, xs, xc', v1, v2, v, h1, h2, hs, G, e1, e2, rfl, o1, o2, o, tg, p.trans ?_⟩
  exact permF (by intro f; simp only [pm] <;> omega)
theorem RosAt.s {H R : HL} {rp a1 a2 a3 M : Nat} {s : RS} (h : RosAt B H rp a1 a2 a3 M s R) : ∃ (xs : List (TE SV)) (G R1 : HL), xs.map (TE.mp coS) = s.ss ∧ TagsIn B G xs ∧ TbS H a2 M xs s.l2 (G ++ R1) ∧
  ∀ H' X G' xs' l', TagsIn B G' xs' → TbS H' a2 M xs' l' (X ++ (G' ++ R1)) → RosAt B H' rp a1 a2 a3 M { s with ss := xs'.map (TE.mp coS), l2 := l' } (X ++ R) := by
 obtain ⟨xn, xs, xc, v1, v2, v3, h1, h2, h3, G, e1, e2, e3, o1, o2, o3, tg, q⟩ := h
 refine ⟨xs, G, (a1, .row (tblC M v1 s.l1)) :: (a3, .row (tblC M v3 s.l3)) :: (rp, .row (rosC a1 a2 a3)) :: (h1 ++ (h3 ++ R)), e2, tg, ⟨v2, h2, o2, q.trans ?_⟩, ?_⟩
 ·exact permF (by intro f; simp only [pm] <;> omega)
 ·rintro H' X G' xs' l' tg' ⟨v, hs, o, p⟩
  refine ⟨xn, xs', xc, v1, v, v3, h1, hs, h3, G', e1, rfl, e3, o1, o, o3, tg', p.trans ?_⟩
  exact permF (by intro f; simp only [pm] <;> omega)
/-! ### What the calls do -/
open Classical in
noncomputable def nodeS (M : Nat) (s : RS) (node : Int) (addr : List Nat) (ix : Int) : RS × Nat :=
 if ¬ (0 ≤ node ∧ node < 8) then (s, 2) else if 32 < addr.length then (s, 3) else if fullP M s.ns (keyN node.toNat) then (s, 5)
 else ({ s with ns := putE s.ns ⟨keyN node.toNat, ⟨node, addr⟩, ix, ix⟩, l1 := maxI s.l1 ix }, 0)
def thereK (ns : List (TE KN)) (m : Int) : Prop := ∃ n : Nat, n < 8 ∧ m = .ofNat n ∧ findE ns (keyN n) ≠ none
open Classical in
noncomputable def wrongS (s : RS) (x : KS) : Nat :=
 if ¬ (0 ≤ x.node ∧ x.node < 8) ∨ x.port < 0 ∨ 65535 < x.port then 2 else if ¬ (nameP x.id ∧ nameP x.name ∧ tagsP x.tags) then 10 else if ¬ thereK s.ns x.node then 4 else 0
open Classical in
noncomputable def serviceS (M : Nat) (s : RS) (x : KS) (ix : Int) : RS × Nat :=
 if wrongS s x ≠ 0 then (s, wrongS s x) else if fullP M s.ss (keyS x.node.toNat x.id) then (s, 5)
 else ({ s with ss := putE s.ss ⟨keyS x.node.toNat x.id, x, ix, ix⟩, l2 := maxI s.l2 ix }, 0)
open Classical in
noncomputable def wrongC (s : RS) (x : KC) : Nat :=
 if ¬ (0 ≤ x.node ∧ x.node < 8) ∨ x.st < 0 ∨ 3 < x.st then 2 else if ¬ (nameP x.id ∧ (x.svc = [] ∨ nameP x.svc)) then 10 else if 32 < x.note.length then 3
 else if ¬ thereK s.ns x.node then 4 else if x.svc ≠ [] ∧ findE s.ss (keyS x.node.toNat x.svc) = none then 4 else 0
open Classical in
noncomputable def checkS (M : Nat) (s : RS) (x : KC) (ix : Int) : RS × Nat :=
 if wrongC s x ≠ 0 then (s, wrongC s x) else if fullP M s.cs (keyS x.node.toNat x.id) then (s, 5)
 else ({ s with cs := putE s.cs ⟨keyS x.node.toNat x.id, x, ix, ix⟩, l3 := maxI s.l3 ix }, 0)
structure RsOk (M : Nat) (s : RS) : Prop where
 m1 : 1 ≤ M
 m2 : M ≤ 64
 n1 : s.ns.length ≤ M
 n2 : s.ss.length ≤ M
 n3 : s.cs.length ≤ M
 r1 : Rise s.ns
 r2 : Rise s.ss
 r3 : Rise s.cs
 t : ∀ e, e ∈ s.ss → e.v.tags.length ≤ 4
theorem full_mp {V W : Type} {f : V → W} {M : Nat} {es : List (TE V)} {key : List Nat} : fullP M (es.map (TE.mp f)) key ↔ fullP M es key := by
 unfold fullP
 rw [find_mp, List.length_map, Option.map_eq_none_iff]
theorem none39_ok {H : HL} {rp a : Nat} (h0 : Ld B H ⟨false, rp, 0⟩ 1 [.ptr ⟨false, a, 0⟩]) : WF B tab (.func 39) [.ptr ⟨false, rp, 0⟩] H fun r H' => H' = H ∧ r = .bool false := by
 refine WF.fnR g39 rfl ?_
 repeat' (first
  | apply zC | apply zE | apply zD | apply zL | (apply zF; rfl; rfl; exact h0; rfl) | (apply zB; rfl; (intro _; rfl)))
 exact ⟨trivial, List.Sublist.refl _, [_], ⟨_, [], rfl, rfl, rfl⟩, rfl⟩
set_option maxHeartbeats 1000000 in
theorem node25_ok {H R : HL} {rp a1 a2 a3 M : Nat} {s : RS} {node ix : Int} {addr : List Nat} (ok : RsOk M s) (h : RosAt B H rp a1 a2 a3 M s R) :
  WF B tab (.func 25) [.ptr ⟨false, rp, 0⟩, .int .i64 node, .str addr, .int .u64 ix] H fun r H' => r = .int .i64 (.ofNat (nodeS M s node addr ix).2) ∧ RosAt B H' rp a1 a2 a3 M (nodeS M s node addr ix).1 R := by
 refine zY ?_
 refine WF.fn g25 rfl ?_
 obtain ⟨xn, R1, e1, t, back⟩ := h.n
 have hl : xn.length ≤ 1000 := by
  have h1 := ok.n1
  have h2 := ok.m2
  rw [← e1, List.length_map] at h1; omega
 have so : Rise xn := (rise_mp (f := coN)).1 (by rw [e1]; exact ok.r1)
 have hr := h.r1
 have P : ∀ n, WF B tab (.func 62) [.ptr ⟨false, a1, 0⟩, .str (keyN n), .agg (valN ⟨.ofNat n, addr, .ofNat 0, .ofNat 0⟩), .int .u64 ix] H _ := fun n => put62_at (e := ⟨keyN n, ⟨.ofNat n, addr, .ofNat 0, .ofNat 0⟩, ix, ix⟩) ok.m1 hl so rfl t
 repeat' (first
  | apply zC | apply zE | apply zD | apply zJ | apply zL | (apply zS; rfl) | (apply zO; rfl) | apply zK | apply zT | apply zW | (apply WD.st; rfl; rfl; rfl; (first | exact tk0 | exact tk1 | exact tk2); rfl; (· repeat' (first | rfl | assumption | apply ac1)); rfl) | (apply WD.alc; rfl; rfl; intro _) | (apply WOps.clR; rfl; rfl; exact none39_ok hr; rintro _ rfl) | (apply WOps.clR; rfl; rfl; exact right49_ok node; rintro _ (⟨rfl, n, hn8, rfl⟩ | ⟨rfl, hno⟩)) | (apply WOps.lenT; rfl; rfl) | (apply WD.clR; rfl; rfl; exact digit52_ok hn8; rintro _ rfl) | (apply zI; rfl; · repeat' (first | refine at1 ?_ rfl | apply at2 | exact same0 | refine same1 ?_ rfl | apply same2 | exact rd_ld rfl (hr) rfl)) | (apply yI; rfl; rfl; exact P n; rintro _ H1 (⟨hf, rfl, t1⟩ | ⟨hf, e', rfl, t1⟩)) | (apply zM; rfl; rfl; rfl; rfl; intro _ _) | (apply zB; rfl; (intro _; rfl)) | (apply zQ; rfl; (intro _; rfl)) | (apply zN; rfl; all_goals (intro hb; try subst hb)))
 ·have h1 := ‹true = true ↔ cmpP BinOp.gtr _ _›.1 rfl
  simp only [cmpP, Int.ofNat_eq_natCast] at h1
  have e : nodeS M s (.ofNat n) addr ix = (s, 3) := by
   unfold nodeS
   rw [if_neg (by simp only [Int.ofNat_eq_natCast]; omega), if_pos (by omega)]
  exact ⟨trivial, [_], ⟨_, [], rfl, rfl, rfl⟩, H, ⟨by rw [e]; rfl, by rw [e]; exact h⟩, SubP.refl⟩
 ·have h1 := eq_of_ff ‹false = true ↔ cmpP BinOp.gtr _ _›
  simp only [cmpP, Int.ofNat_eq_natCast] at h1
  have e : nodeS M s (.ofNat n) addr ix = (s, 5) := by
   unfold nodeS
   rw [if_neg (by simp only [Int.ofNat_eq_natCast]; omega), if_neg (by omega), if_pos (by rw [← e1, full_mp]; exact hf)]
  have b1 := back H1 [] xn s.l1 t1
  rw [e1] at b1
  exact ⟨trivial, [_], ⟨_, [], rfl, rfl, rfl⟩, H1, ⟨by rw [e]; rfl, by rw [e]; exact b1⟩, SubP.of (List.sublist_cons_self _ _)⟩
 ·have h1 := eq_of_ff ‹false = true ↔ cmpP BinOp.gtr _ _›
  simp only [cmpP, Int.ofNat_eq_natCast] at h1
  have e : nodeS M s (.ofNat n) addr ix = ({ s with ns := putE s.ns ⟨keyN n, ⟨.ofNat n, addr⟩, ix, ix⟩, l1 := maxI s.l1 ix }, 0) := by
   unfold nodeS
   rw [if_neg (by simp only [Int.ofNat_eq_natCast]; omega), if_neg (by omega), if_neg (by rw [← e1, full_mp]; exact hf)]
   rfl
  have b1 := back H1 [] _ _ t1
  rw [put_mp, e1] at b1
  exact ⟨trivial, [_], ⟨_, [], rfl, rfl, rfl⟩, H1, ⟨by rw [e]; rfl, by rw [e]; exact b1⟩, SubP.of (List.sublist_cons_self _ _)⟩
 ·have e : nodeS M s node addr ix = (s, 2) := by
   unfold nodeS
   rw [if_pos hno]
  exact ⟨trivial, [_], ⟨_, [], rfl, rfl, rfl⟩, H, ⟨by rw [e]; rfl, by rw [e]; exact h⟩, SubP.refl⟩
theorem hasN_mp {xn : List (TE NV)} {m : Int} : hasN xn m ↔ thereK (xn.map (TE.mp coN)) m := by
 unfold hasN thereK
 simp only [find_mp, ne_eq, Option.map_eq_none_iff]
theorem there65_at {H R : HL} {rp a1 a2 a3 M : Nat} {s : RS} {m : Int} (ok : RsOk M s) (h : RosAt B H rp a1 a2 a3 M s R) :
  WF B tab (.func 65) [.ptr ⟨false, rp, 0⟩, .int .i64 m] H fun r H' => H' = H ∧ ∃ b : Bool, r = .bool b ∧ (b = true ↔ thereK s.ns m) := by
 obtain ⟨xn, R1, e1, t, back⟩ := h.n
 have hl : xn.length ≤ 1000 := by
  have h1 := ok.n1
  have h2 := ok.m2
  rw [← e1, List.length_map] at h1; omega
 have so : Rise xn := (rise_mp (f := coN)).1 (by rw [e1]; exact ok.r1)
 rw [← e1]
 exact WF.mono (there65_ok ok.m1 hl so t h.r1) fun r H' ⟨q1, b, q2, q3⟩ => ⟨q1, b, q2, q3.trans hasN_mp⟩
def svC (x : KS) (tv : AV) (jm ji : Int) : List AV := [.int .i64 x.node, .str x.id, .str x.name, tv, .int .i64 x.port, .int .u64 jm, .int .u64 ji]
structure SvIs (B : Nat → List AV) (H : HL) (x : KS) (tv : AV) : Prop where
 t : SlIs B H tv 1 (x.tags.map strC)
 u : SrcIs B H tv 1 x.tags.length (x.tags.map strC).flatten
 l : x.tags.length ≤ 8796093021952
 i : x.id.length ≤ 140737488351232
 n : x.name.length ≤ 140737488351232
 s : shortL x.tags
set_option maxHeartbeats 2000000 in
theorem wrong73_ok {H R : HL} {rp a1 a2 a3 M : Nat} {s : RS} {x : KS} {tv : AV} {jm ji : Int} (ok : RsOk M s) (h : RosAt B H rp a1 a2 a3 M s R) (hx : SvIs B H x tv) :
  WF B tab (.func 73) [.ptr ⟨false, rp, 0⟩, .agg (svC x tv jm ji)] H fun r H' => H' = H ∧ r = .int .i64 (.ofNat (wrongS s x)) := by
 refine WF.fnR g73 rfl ?_
 have ct := hx.t.cell
 have hi := hx.i
 have hn := hx.n
 repeat' (first
  | apply zC | apply zE | apply zD | apply zJ | apply zL | (apply zS; rfl) | (apply zO; rfl) | apply zK | (apply zF; rfl; rfl; (first | exact ld0 rfl | exact ld1 rfl | exact ld2 rfl); rfl) | (apply yC; rfl; rfl; (· repeat' (first | rfl | assumption | apply ac1)); intro _) | (apply WOps.clR; rfl; rfl; exact right49_ok _; rintro _ (⟨rfl, n, hn8, hnn⟩ | ⟨rfl, hno⟩)) | (apply WOps.clR; rfl; rfl; exact right86_ok _ (by omega); rintro _ ⟨bb, rfl, hbb⟩; cases bb) | (apply WOps.clR; rfl; rfl; exact tags98_ok hx.t.cons (by have := hx.l; omega) hx.s; rintro _ ⟨bb, rfl, hb3⟩; cases bb) | (apply WOps.clR; rfl; rfl; exact there65_at ok h.cons; rintro _ ⟨bb, rfl, hb4⟩; cases bb) | (apply zM; rfl; rfl; rfl; rfl; intro _ _) | (apply zB; rfl; (intro _; rfl)) | (apply zV; rfl) | (apply WOps.ask; rfl; all_goals (intro hb; first | subst hb | fail_if_success (cases hb))) | (apply zN; rfl; all_goals (intro hb; try subst hb)))
 all_goals refine ⟨trivial, List.sublist_cons_self _ _, [_], ⟨_, [], rfl, rfl, rfl⟩, congrArg (fun k => AV.int .i64 (.ofNat k)) (Eq.symm ?_)⟩
 all_goals unfold wrongS
 rotate_right 1
 ·rw [if_pos (.inl hno)]
 all_goals have hd : 0 ≤ x.node ∧ x.node < 8 := by rw [hnn]; simp only [Int.ofNat_eq_natCast]; omega
 all_goals simp only [cmpP, true_iff, Bool.false_eq_true, false_iff, Int.ofNat_eq_natCast] at *
 ·rw [if_pos (.inr (.inl (by omega)))]
 ·rw [if_pos (.inr (.inr (by omega)))]
 all_goals rw [if_neg (by omega)]
 ·rw [if_pos (fun h => hbb h.1)]
 ·rw [if_pos (fun h => hbb h.2.1)]
 ·rw [if_pos (fun h => hb3 h.2.2)]
 ·rw [if_neg (by simp_all), if_pos hb4]
 ·rw [if_neg (by simp_all), if_neg (by simp_all)]
def ckC (x : KC) (jm ji : Int) : List AV := [.int .i64 x.node, .str x.id, .str x.svc, .str x.note, .int .i64 x.st, .int .u64 jm, .int .u64 ji]
structure CkIs (x : KC) : Prop where
 i : x.id.length ≤ 140737488351232
 s : x.svc.length ≤ 140737488351232
 n : x.note.length ≤ 140737488351232
theorem hasS_none {xs : List (TE SV)} {key : List Nat} : findE (xs.map (TE.mp coS)) key = none ↔ findE xs key = none := by rw [find_mp, Option.map_eq_none_iff]
set_option maxHeartbeats 4000000 in
theorem wrong46_ok {H R : HL} {rp a1 a2 a3 M : Nat} {s : RS} {x : KC} {jm ji : Int} (ok : RsOk M s) (h : RosAt B H rp a1 a2 a3 M s R) (hx : CkIs x) :
  WF B tab (.func 46) [.ptr ⟨false, rp, 0⟩, .agg (ckC x jm ji)] H fun r H' => H' = H ∧ r = .int .i64 (.ofNat (wrongC s x)) := by
 refine zY ?_
 refine WF.fn g46 rfl ?_
 have hi := hx.i
 have hn := hx.n
 have hs := hx.s
 obtain ⟨node, id, svc, note, st⟩ := x
 simp only at hi hn hs
 obtain ⟨xs, G, R1, e1, tg, t, back⟩ := h.s
 have hl : xs.length ≤ 1000 := by
  have h1 := ok.n2
  have h2 := ok.m2
  rw [← e1, List.length_map] at h1; omega
 have so : Rise xs := (rise_mp (f := coS)).1 (by rw [e1]; exact ok.r2)
 have hr := h.r2
 have fin : ∀ (k : Nat) (H2 : HL), wrongC s ⟨node, id, svc, note, st⟩ = k → SubP H H2 → (∃ H3, (H3 = H ∧ AV.int IntKind.i64 (Int.ofNat k) = .int .i64 (.ofNat (wrongC s ⟨node, id, svc, note, st⟩))) ∧ SubP H3 H2) := fun k H2 e p => ⟨H, ⟨rfl, by rw [e]⟩, p⟩
 repeat' (first
  | apply zC | apply zE | apply zD | apply zJ | apply zL | (apply zS; rfl) | (apply zO; rfl) | apply zK | apply zT | apply zW | (apply zF; rfl; rfl; (first | exact ld0 rfl | exact ld1 rfl | exact ld2 rfl); rfl) | (apply yC; rfl; rfl; (· repeat' (first | rfl | assumption | apply ac1)); intro _) | (apply WD.st; rfl; rfl; rfl; (first | exact tk0 | exact tk1 | exact tk2); rfl; (· repeat' (first | rfl | assumption | apply ac1)); rfl) | (apply WD.alc; rfl; rfl; intro _) | (apply WOps.clR; rfl; rfl; exact right49_ok _; rintro _ (⟨rfl, n, hn8, rfl⟩ | ⟨rfl, hno⟩)) | (apply WOps.clR; rfl; rfl; exact right86_ok id (by omega); rintro _ ⟨bb, rfl, hbb⟩; cases bb) | (apply WOps.clR; rfl; rfl; exact right86_ok svc (by omega); rintro _ ⟨bb, rfl, hb2⟩; cases bb) | (apply WOps.lenT; rfl; rfl) | (apply WOps.clR; rfl; rfl; exact there65_at ok h.cons; rintro _ ⟨bb, rfl, hb4⟩; cases bb) | (apply WD.clR; rfl; rfl; exact key48_ok hn8 hs; rintro _ rfl) | (apply WD.clR; rfl; rfl; exact getS_at ok.m1 hl so t.cons; rintro _ (⟨x2, hx2, rfl⟩ | ⟨hx2, rfl⟩) <;> (try have htg := x2.v.tg.c)) | (apply zI; rfl; · repeat' (first | refine at1 ?_ rfl | apply at2 | exact same0 | refine same1 ?_ rfl | apply same2 | exact rd_ld rfl (hr.cons) rfl)) | (apply zM; rfl; rfl; rfl; rfl; intro _ _) | (apply yH; rfl; rfl; rfl; rfl; intro _ _) | (apply zB; rfl; (intro _; rfl)) | (apply zV; rfl) | (apply zI; rfl; · repeat' (first | refine at1 ?_ rfl | apply at2 | exact same0 | refine same1 ?_ rfl | apply same2 | (first | exact rd0 rfl rfl rfl | exact rd1 rfl rfl rfl | exact rd2 rfl rfl rfl))) | (apply zQ; rfl; (intro _; rfl)) | (apply WOps.ask; rfl; all_goals (intro hb; first | subst hb | fail_if_success (cases hb))) | (apply zN; rfl; all_goals (intro hb; try subst hb)))
 all_goals first | refine ⟨trivial, [_], ⟨_, [], rfl, rfl, rfl⟩, fin _ _ ?_ (subF (by intro f; simp only [AV.cells, pm] <;> omega))⟩ | (trace_state; sorry)
 all_goals unfold wrongC
 all_goals simp only
 rotate_right 1
 ·rw [if_pos (.inl hno)]
 all_goals have hd : 0 ≤ (Int.ofNat n) ∧ Int.ofNat n < 8 := ⟨Int.natCast_nonneg _, by show (n : Int) < 8; omega⟩
 all_goals simp only [cmpP, cmpS, true_iff, Bool.false_eq_true, false_iff] at *
 ·rw [if_pos (.inr (.inl (by assumption)))]
 ·rw [if_pos (.inr (.inr (by assumption)))]
 all_goals (rw [if_neg (by rintro (h | h | h); exact h hd; exact absurd h (by assumption); exact absurd h (by assumption))])
 all_goals have hq : findE s.ss (keyS n svc) = none ↔ findE xs (keyS n svc) = none := by rw [← e1]; exact hasS_none
 all_goals rw [show (Int.ofNat n).toNat = n from rfl]
 all_goals clear e1 back ok h t so hr fin tg hl hd
 all_goals simp only [Int.ofNat_eq_natCast, Int.ofNat_lt] at *
 all_goals generalize thereK s.ns _ = P at *
 all_goals simp_all
theorem SubP.add {A H : HL} {x : Nat × AObj} (h : SubP A H) : SubP A (x :: H) := by
 obtain ⟨G, p⟩ := h
 exact ⟨x :: G, (p.cons x).trans List.perm_middle.symm⟩
theorem TbS.add {H R : HL} {a most : Nat} {es : List (TE SV)} {last : Int} (h : TbS H a most es last R) (X : HL) : TbS (X ++ H) a most es last (X ++ R) := by
 obtain ⟨v, hs, o, p⟩ := h
 refine ⟨v, hs, o, (p.append_left X).trans ?_⟩
 exact permF (by intro f; simp only [pm] <;> omega)
theorem strs_len : ∀ (l : List (List Nat)), (l.map strC).flatten.length = l.length * 1 := by
 intro l
 induction l with
 | nil => rfl
 | cons x l ih => rw [List.map_cons, List.flatten_cons, List.length_append, ih, List.length_cons]; simp only [strC, List.length_cons, List.length_nil]; omega
theorem strs_cell (l : List (List Nat)) : allCell (l.map strC).flatten = true := by
 rw [allCell_iff]
 intro v hv
 simp only [List.mem_flatten, List.mem_map] at hv
 obtain ⟨_, ⟨e, _, rfl⟩, hv⟩ := hv
 simp only [strC, List.mem_singleton] at hv
 subst hv; rfl
theorem strs_sl {v : AV} {l : List (List Nat)} {h : HL} (o : OwnSl v (l.map strC).flatten l.length 1 h) : SlIs B h v 1 (l.map strC) := by
 have o2 : OwnSl v (l.map strC).flatten (l.map strC).length 1 h := by simpa using o
 exact OwnSl.sl o2 (by intro c hc; simp only [List.mem_map] at hc; obtain ⟨e, _, rfl⟩ := hc; rfl)
theorem strs_in {v : AV} {l : List (List Nat)} {h : HL} (o : OwnSl v (l.map strC).flatten l.length 1 h) : TgIn B h v l := ⟨strs_sl o, o.src⟩
theorem wrongS_zero {s : RS} {x : KS} (h : wrongS s x = 0) : (∃ n : Nat, n < 8 ∧ x.node = .ofNat n) ∧ nameP x.id ∧ tagsP x.tags := by
 unfold wrongS at h
 split at h
 ·cases h
 ·rename_i h1
  split at h
  ·cases h
  ·rename_i h2
   have h2 := Classical.not_not.1 h2
   simp only [not_or, Decidable.not_not] at h1
   refine ⟨⟨x.node.toNat, by omega, by simp only [Int.ofNat_eq_natCast]; omega⟩, h2.1, h2.2.2⟩
set_option maxHeartbeats 4000000 in
theorem service29_ok {H R : HL} {rp a1 a2 a3 M : Nat} {s : RS} {x : KS} {tv : AV} {jm ji ix : Int} (ok : RsOk M s) (h : RosAt B H rp a1 a2 a3 M s R) (hx : SvIs B H x tv) :
  WF B tab (.func 29) [.ptr ⟨false, rp, 0⟩, .agg (svC x tv jm ji), .int .u64 ix] H fun r H' => r = .int .i64 (.ofNat (serviceS M s x ix).2) ∧ RosAt B H' rp a1 a2 a3 M (serviceS M s x ix).1 R := by
 refine zY ?_
 refine WF.fn g29 rfl ?_
 have ct := hx.t.cell
 have hx1 : ∀ {q : Nat × AObj}, SvIs B (q :: H) x tv := ⟨hx.t.cons, hx.u.cons, hx.l, hx.i, hx.n, hx.s⟩
 repeat' (first
  | apply zC | apply zE | apply zD | apply zJ | apply zL | (apply zO; rfl) | (apply zF; rfl; rfl; (first | exact ld0 rfl | exact ld1 rfl | exact ld2 rfl); rfl) | (apply yC; rfl; rfl; (· repeat' (first | rfl | assumption | apply ac1)); intro _) | (apply yF; rfl; (· repeat' (first | rfl | assumption | apply ac1)); intro _) | (apply WOps.clR; rfl; rfl; exact none39_ok h.r1.cons; rintro _ rfl) | (apply WOps.clR; rfl; rfl; exact wrong73_ok ok h.cons hx1; rintro _ rfl) | (apply zM; rfl; rfl; rfl; rfl; intro _ _) | (apply zB; rfl; (intro _; rfl)) | (apply zN; rfl; all_goals (intro hb; try subst hb)))
 ·have h1 := ‹true = true ↔ cmpP BinOp.neq _ _›.1 rfl
  simp only [cmpP, Int.ofNat_eq_natCast] at h1
  have e : serviceS M s x ix = (s, wrongS s x) := by unfold serviceS; rw [if_pos (by omega)]
  exact ⟨trivial, [_], ⟨_, [], rfl, rfl, rfl⟩, H, ⟨by rw [e]; rfl, by rw [e]; exact h⟩, SubP.of (List.sublist_cons_self _ _)⟩
 have h1 := eq_of_ff ‹false = true ↔ cmpP BinOp.neq _ _›
 simp only [cmpP, Int.ofNat_eq_natCast] at h1
 have hw : wrongS s x = 0 := by omega
 obtain ⟨⟨n, hn8, hnn⟩, hid, htg⟩ := wrongS_zero hw
 have hl := hx.l
 have hi := hx.i
 have hu := hx.u
 obtain ⟨node, id, name, tags, port⟩ := x
 simp only at hnn hl hi hu hid htg
 subst hnn
 obtain ⟨xs, G, R1, e1, tg, t, back⟩ := h.s
 have hlx : xs.length ≤ 1000 := by
  have h1 := ok.n2
  have h2 := ok.m2
  rw [← e1, List.length_map] at h1; omega
 have so : Rise xs := (rise_mp (f := coS)).1 (by rw [e1]; exact ok.r2)
 rename_i p4 q _
 refine yD (h := [(q, .row [])]) (cells := []) (n := 0) rfl rfl rfl (.inr ⟨q, rfl, rfl, rfl⟩) (List.Perm.refl _) (src_cons (src_cons hu)) rfl (strs_cell _) (strs_len _) (by omega) ?_
 intro v2 h2 o2
 have o3 : OwnSl v2 (tags.map strC).flatten tags.length 1 h2 := by simpa using o2
 repeat' (first
  | (apply zB; rfl; (intro _; rfl)))
 refine zP (cs' := svC ⟨.ofNat n, id, name, tags, port⟩ v2 jm ji) rfl rfl List.perm_middle (by rw [o3.cells]; rfl) (by rw [o3.cells]; exact allCell_cons o3.cell allCell_nil) (by rw [o3.cells]; rfl) ?_
 have c2 := o3.cell
 have t2 := (t.add h2).cons (x := (p4, .row (svC ⟨.ofNat n, id, name, tags, port⟩ v2 jm ji)))
 have P := put74_at (B := B) (e := ⟨keyS n id, ⟨.ofNat n, id, name, tags, ⟨v2, c2⟩, port, jm, ji⟩, ix, ix⟩) ok.m1 hlx so rfl t2
 have hr : ∀ {z : Nat × AObj}, Ld B (z :: (h2 ++ H)) ⟨false, rp, 1⟩ 1 [.ptr ⟨false, a2, 0⟩] := (Ld.right h.r2).cons
 repeat' (first
  | apply zC | apply zE | apply zD | apply zL | apply zT | apply zW | (apply WD.st; rfl; rfl; rfl; (first | exact tk0 | exact tk1 | exact tk2); rfl; (· repeat' (first | rfl | assumption | apply ac1)); rfl) | (apply WD.alc; rfl; rfl; intro _) | (apply WD.clR; rfl; rfl; exact key48_ok hn8 hi; rintro _ rfl) | (apply zI; rfl; · repeat' (first | refine at1 ?_ rfl | apply at2 | exact same0 | refine same1 ?_ rfl | apply same2 | exact rd_ld rfl (hr) rfl)) | (apply zI; rfl; · repeat' (first | refine at1 ?_ rfl | apply at2 | exact same0 | refine same1 ?_ rfl | apply same2 | (first | exact rd0 rfl rfl rfl | exact rd1 rfl rfl rfl | exact rd2 rfl rfl rfl | exact rd_ld rfl (ld2 rfl).cons rfl | exact rd_ld rfl (ld2 rfl).cons.cons rfl | exact rd_ld rfl (ld2 rfl).cons.cons.cons rfl))) | (apply yI; rfl; rfl; exact P; rintro _ H1 (⟨hf, rfl, t1⟩ | ⟨hf, e', rfl, t1⟩) <;> (try have htg2 := e'.v.tg.c)) | (apply zB; rfl; (intro _; rfl)) | (apply zQ; rfl; (intro _; rfl)))
 ·have e : serviceS M s ⟨.ofNat n, id, name, tags, port⟩ ix = (s, 5) := by
   unfold serviceS
   rw [if_neg (by rw [hw]; simp), if_pos (by rw [← e1, full_mp]; exact hf)]
  have b1 := back H1 [(p4, .row (svC ⟨.ofNat n, id, name, tags, port⟩ v2 jm ji))] (h2 ++ G) xs s.l2 (fun y hy => TgIn.right (tg y hy)) (t1.permR (List.Perm.of_eq (by simp)))
  rw [e1] at b1
  obtain ⟨H3, b2, s3⟩ := b1.less (R1 := R) (subF (by intro f; simp only [AV.cells, pm] <;> omega))
  exact ⟨trivial, [_], ⟨_, [], rfl, rfl, rfl⟩, H3, ⟨by rw [e]; rfl, by rw [e]; exact b2⟩, SubP.add s3⟩
 ·have e : serviceS M s ⟨.ofNat n, id, name, tags, port⟩ ix = ({ s with ss := putE s.ss ⟨keyS n id, ⟨.ofNat n, id, name, tags, port⟩, ix, ix⟩, l2 := maxI s.l2 ix }, 0) := by
   unfold serviceS
   rw [if_neg (by rw [hw]; simp), if_neg (by rw [← e1, full_mp]; exact hf)]
   rfl
  have b1 := back H1 [(p4, .row (svC ⟨.ofNat n, id, name, tags, port⟩ v2 jm ji))] (h2 ++ G) _ _ (fun y hy => by
   rcases mem_put hy with hy | ⟨_, hv⟩
   ·exact TgIn.right (tg y hy)
   ·rw [hv]; exact TgIn.left (strs_in o3)) (t1.permR (List.Perm.of_eq (by simp)))
  rw [put_mp, e1] at b1
  obtain ⟨H3, b2, s3⟩ := b1.less (R1 := R) (subF (by intro f; simp only [AV.cells, pm] <;> omega))
  exact ⟨trivial, [_], ⟨_, [], rfl, rfl, rfl⟩, H3, ⟨by rw [e]; rfl, by rw [e]; exact b2⟩, SubP.add s3⟩
theorem wrongC_zero {s : RS} {x : KC} (h : wrongC s x = 0) : (∃ n : Nat, n < 8 ∧ x.node = .ofNat n) ∧ nameP x.id := by
 unfold wrongC at h
 split at h
 ·cases h
 ·rename_i h1
  split at h
  ·cases h
  ·rename_i h2
   have h2 := Classical.not_not.1 h2
   simp only [not_or, Decidable.not_not] at h1
   exact ⟨⟨x.node.toNat, by omega, by simp only [Int.ofNat_eq_natCast]; omega⟩, h2.1⟩
set_option maxHeartbeats 4000000 in
theorem check18_ok {H R : HL} {rp a1 a2 a3 M : Nat} {s : RS} {x : KC} {jm ji ix : Int} (ok : RsOk M s) (h : RosAt B H rp a1 a2 a3 M s R) (hx : CkIs x) :
  WF B tab (.func 18) [.ptr ⟨false, rp, 0⟩, .agg (ckC x jm ji), .int .u64 ix] H fun r H' => r = .int .i64 (.ofNat (checkS M s x ix).2) ∧ RosAt B H' rp a1 a2 a3 M (checkS M s x ix).1 R := by
 refine zY ?_
 refine WF.fn g18 rfl ?_
 repeat' (first
  | apply zC | apply zE | apply zD | apply zJ | apply zL | (apply zO; rfl) | apply zT | (apply zF; rfl; rfl; (first | exact ld0 rfl | exact ld1 rfl | exact ld2 rfl); rfl) | (apply yC; rfl; rfl; (· repeat' (first | rfl | assumption | apply ac1)); intro _) | (apply WOps.clR; rfl; rfl; exact none39_ok h.r1.cons; rintro _ rfl) | (apply WOps.clR; rfl; rfl; exact wrong46_ok ok h.cons hx; rintro _ rfl) | (apply zM; rfl; rfl; rfl; rfl; intro _ _) | (apply zB; rfl; (intro _; rfl)) | (apply zI; rfl; · repeat' (first | refine at1 ?_ rfl | apply at2 | exact same0 | refine same1 ?_ rfl | apply same2 | (first | exact rd0 rfl rfl rfl | exact rd1 rfl rfl rfl | exact rd2 rfl rfl rfl))) | (apply zQ; rfl; (intro _; rfl)) | (apply zN; rfl; all_goals (intro hb; try subst hb)))
 ·have h1 := ‹true = true ↔ cmpP BinOp.neq _ _›.1 rfl
  simp only [cmpP, Int.ofNat_eq_natCast] at h1
  have e : checkS M s x ix = (s, wrongC s x) := by unfold checkS; rw [if_pos (by omega)]
  exact ⟨trivial, [_], ⟨_, [], rfl, rfl, rfl⟩, H, ⟨by rw [e]; rfl, by rw [e]; exact h⟩, SubP.of (List.sublist_cons_self _ _)⟩
 have h1 := eq_of_ff ‹false = true ↔ cmpP BinOp.neq _ _›
 simp only [cmpP, Int.ofNat_eq_natCast] at h1
 have hw : wrongC s x = 0 := by omega
 obtain ⟨⟨n, hn8, hnn⟩, hid⟩ := wrongC_zero hw
 have hi := hx.i
 obtain ⟨node, id, svc, note, st⟩ := x
 simp only at hnn hi hid
 subst hnn
 obtain ⟨xc, R1, e1, t, back⟩ := h.c
 have hlx : xc.length ≤ 1000 := by
  have h1 := ok.n3
  have h2 := ok.m2
  rw [← e1, List.length_map] at h1; omega
 have so : Rise xc := (rise_mp (f := coC)).1 (by rw [e1]; exact ok.r3)
 rename_i p4 _
 have t2 := t.cons (x := (p4, .row (ckC ⟨.ofNat n, id, svc, note, st⟩ jm ji)))
 have P := put47_at (B := B) (e := ⟨keyS n id, ⟨.ofNat n, id, svc, note, st, jm, ji⟩, ix, ix⟩) ok.m1 hlx so rfl t2
 have hr := h.r3
 repeat' (first
  | apply zC | apply zE | apply zD | apply zL | apply zW | (apply WD.st; rfl; rfl; rfl; (first | exact tk0 | exact tk1 | exact tk2); rfl; (· repeat' (first | rfl | assumption | apply ac1)); rfl) | (apply WD.alc; rfl; rfl; intro _) | (apply WD.clR; rfl; rfl; exact key48_ok hn8 hi; rintro _ rfl) | (apply zI; rfl; · repeat' (first | refine at1 ?_ rfl | apply at2 | exact same0 | refine same1 ?_ rfl | apply same2 | exact rd_ld rfl (hr.cons) rfl)) | (apply zI; rfl; · repeat' (first | refine at1 ?_ rfl | apply at2 | exact same0 | refine same1 ?_ rfl | apply same2 | (first | exact rd0 rfl rfl rfl | exact rd1 rfl rfl rfl | exact rd2 rfl rfl rfl | exact rd_ld rfl (ld2 rfl).cons rfl | exact rd_ld rfl (ld2 rfl).cons.cons rfl | exact rd_ld rfl (ld2 rfl).cons.cons.cons rfl))) | (apply yI; rfl; rfl; exact P; rintro _ H1 (⟨hf, rfl, t1⟩ | ⟨hf, e', rfl, t1⟩)) | (apply zB; rfl; (intro _; rfl)) | (apply zQ; rfl; (intro _; rfl)))
 ·have e : checkS M s ⟨.ofNat n, id, svc, note, st⟩ ix = (s, 5) := by
   unfold checkS
   rw [if_neg (by rw [hw]; simp), if_pos (by rw [← e1, full_mp]; exact hf)]
  have b1 := back H1 [(p4, _)] xc s.l3 t1
  rw [e1] at b1
  obtain ⟨H3, b2, s3⟩ := b1.less (R1 := R) (subF (by intro f; simp only [AV.cells, pm] <;> omega))
  exact ⟨trivial, [_], ⟨_, [], rfl, rfl, rfl⟩, H3, ⟨by rw [e]; rfl, by rw [e]; exact b2⟩, SubP.add s3⟩
 ·have e : checkS M s ⟨.ofNat n, id, svc, note, st⟩ ix = ({ s with cs := putE s.cs ⟨keyS n id, ⟨.ofNat n, id, svc, note, st⟩, ix, ix⟩, l3 := maxI s.l3 ix }, 0) := by
   unfold checkS
   rw [if_neg (by rw [hw]; simp), if_neg (by rw [← e1, full_mp]; exact hf)]
   rfl
  have b1 := back H1 [(p4, _)] _ _ t1
  rw [put_mp, e1] at b1
  obtain ⟨H3, b2, s3⟩ := b1.less (R1 := R) (subF (by intro f; simp only [AV.cells, pm] <;> omega))
  exact ⟨trivial, [_], ⟨_, [], rfl, rfl, rfl⟩, H3, ⟨by rw [e]; rfl, by rw [e]; exact b2⟩, SubP.add s3⟩
end Go.Proofs.YtgpnpcahcegadaaGreat.RO
