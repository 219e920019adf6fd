/- What the functions do, shown by the logic. -/
import Derived.Test.YtgpnpcahcegadaaRoA
set_option linter.unusedSimpArgs false
set_option linter.unusedVariables false
set_option maxRecDepth 20000
namespace Go.Proofs.Ytgpnpcahcegadaa.RO
open Go.Proofs.Ytgpnpcahcegadaa.Abs
variable {B : Nat → List AV}
section mp
variable {V W : Type}
def TE.mp (f : V → W) (e : TE V) : TE W := ⟨e.key, f e.v, e.mke, e.ix⟩
theorem find_mp {f : V → W} {es : List (TE V)} {key : List Nat} : findE (es.map (TE.mp f)) key = (findE es key).map (TE.mp f) := by
  induction es with
  | nil => rfl
  | cons x r ih =>
    simp only [List.map_cons, findE, ih]
    show (if x.key = key then _ else _) = _
    split <;> simp
theorem put_mp {f : V → W} {es : List (TE V)} {e : TE V} : (putE es e).map (TE.mp f) = putE (es.map (TE.mp f)) (e.mp f) := by
  induction es with
  | nil => rfl
  | cons x r ih =>
    simp only [List.map_cons, putE]
    show _ = (if x.key = e.key then _ else if strLess e.key x.key = true then _ else _)
    split
    · rfl
    · split
      · rfl
      · rw [List.map_cons, ih]
theorem drop_mp {f : V → W} {es : List (TE V)} {key : List Nat} : (dropE es key).map (TE.mp f) = dropE (es.map (TE.mp f)) key := by
  induction es with
  | nil => rfl
  | cons x r ih =>
    simp only [List.map_cons, dropE]
    show _ = (if x.key = key then _ else _)
    split
    · exact ih
    · rw [List.map_cons, ih]
theorem rise_mp {f : V → W} {es : List (TE V)} : Rise (es.map (TE.mp f)) ↔ Rise es := by
  induction es with
  | nil => exact ⟨fun _ => .nil, fun _ => .nil⟩
  | cons x r ih =>
    constructor
    · intro h
      cases h with
      | cons h k => exact .cons (fun y hy => h (y.mp f) (List.mem_map_of_mem hy)) (ih.1 k)
    · intro h
      cases h with
      | cons h k =>
        refine .cons (fun y hy => ?_) (ih.2 k)
        obtain ⟨z, hz, rfl⟩ := List.mem_map.1 hy
        exact h z hz
end mp
/-- What is told of a node, a service, a check. -/
structure KN where
  node : Int
  addr : List Nat
structure KS where
  node : Int
  id : List Nat
  name : List Nat
  tags : List (List Nat)
  port : Int
structure KC where
  node : Int
  id : List Nat
  svc : List Nat
  note : List Nat
  st : Int
def coN (v : NV) : KN := ⟨v.node, v.addr⟩
def coS (v : SV) : KS := ⟨v.node, v.id, v.name, v.tags, v.port⟩
def coC (v : CV) : KC := ⟨v.node, v.id, v.svc, v.note, v.st⟩
/-- Nodes, services, checks, the last indexes. -/
structure RS where
  ns : List (TE KN)
  ss : List (TE KS)
  cs : List (TE KC)
  l1 : Int
  l2 : Int
  l3 : Int
/-- A slice of texts, to be read and to be copied. -/
def TgIn (B : Nat → List AV) (G : HL) (a : AV) (tags : List (List Nat)) : Prop := SlIs B G a 1 (tags.map strC) ∧ SrcIs B G a 1 tags.length (tags.map strC).flatten
theorem TgIn.right {G X : HL} {a : AV} {tags : List (List Nat)} (h : TgIn B G a tags) : TgIn B (X ++ G) a tags := ⟨SlIs.right h.1, SrcIs.right h.2⟩
theorem TgIn.left {G X : HL} {a : AV} {tags : List (List Nat)} (h : TgIn B G a tags) : TgIn B (G ++ X) a tags := ⟨SlIs.left h.1, SrcIs.left h.2⟩
theorem TgIn.perm {G X : HL} {a : AV} {tags : List (List Nat)} (p : X.Perm G) (h : TgIn B G a tags) : TgIn B X a tags := ⟨SlIs.perm p h.1, SrcIs.perm p h.2⟩
theorem TgIn.cons {G : HL} {q : Nat × AObj} {a : AV} {tags : List (List Nat)} (h : TgIn B G a tags) : TgIn B (q :: G) a tags := TgIn.right (X := [q]) h
def TagsIn (B : Nat → List AV) (G : HL) (xs : List (TE SV)) : Prop := ∀ e, e ∈ xs → TgIn B G e.v.tg.a e.v.tags
def rosC (a1 a2 a3 : Nat) : List AV := [.ptr ⟨false, a1, 0⟩, .ptr ⟨false, a2, 0⟩, .ptr ⟨false, a3, 0⟩]
/-- The roster stands in the heap, beside R. -/
def RosAt (B : Nat → List AV) (H : HL) (rp a1 a2 a3 M : Nat) (s : RS) (R : HL) : Prop :=
  ∃ (xn : List (TE NV)) (xs : List (TE SV)) (xc : List (TE CV)) (v1 v2 v3 : AV) (h1 h2 h3 G : HL), xn.map (TE.mp coN) = s.ns ∧ xs.map (TE.mp coS) = s.ss ∧ xc.map (TE.mp coC) = s.cs ∧
    OwnSl v1 (xn.map rowN).flatten xn.length 7 h1 ∧ OwnSl v2 (xs.map rowS).flatten xs.length 10 h2 ∧ OwnSl v3 (xc.map rowC).flatten xc.length 10 h3 ∧ TagsIn B G xs ∧
    H.Perm ((a1, .row (tblC M v1 s.l1)) :: (a2, .row (tblC M v2 s.l2)) :: (a3, .row (tblC M v3 s.l3)) :: (rp, .row (rosC a1 a2 a3)) :: (h1 ++ (h2 ++ (h3 ++ (G ++ R)))))
theorem RosAt.permL {H H' R : HL} {rp a1 a2 a3 M : Nat} {s : RS} (h : RosAt B H rp a1 a2 a3 M s R) (p : H'.Perm H) : RosAt B H' rp a1 a2 a3 M s R := by
  obtain ⟨xn, xs, xc, v1, v2, v3, h1, h2, h3, G, e1, e2, e3, o1, o2, o3, tg, q⟩ := h
  exact ⟨xn, xs, xc, v1, v2, v3, h1, h2, h3, G, e1, e2, e3, o1, o2, o3, tg, p.trans q⟩
theorem RosAt.permR {H R R' : HL} {rp a1 a2 a3 M : Nat} {s : RS} (h : RosAt B H rp a1 a2 a3 M s R) (p : R.Perm R') : RosAt B H rp a1 a2 a3 M s R' := by
  obtain ⟨xn, xs, xc, v1, v2, v3, h1, h2, h3, G, e1, e2, e3, o1, o2, o3, tg, q⟩ := h
  refine ⟨xn, xs, xc, v1, v2, v3, h1, h2, h3, G, e1, e2, e3, o1, o2, o3, tg, q.trans ?_⟩
  exact (((((List.Perm.append_left _ p).append_left _).append_left _).append_left _).cons _ |>.cons _ |>.cons _ |>.cons _)
theorem RosAt.add {H R : HL} {rp a1 a2 a3 M : Nat} {s : RS} (h : RosAt B H rp a1 a2 a3 M s R) (X : HL) : RosAt B (X ++ H) rp a1 a2 a3 M s (X ++ R) := by
  obtain ⟨xn, xs, xc, v1, v2, v3, h1, h2, h3, G, e1, e2, e3, o1, o2, o3, tg, q⟩ := h
  refine ⟨xn, xs, xc, v1, v2, v3, h1, h2, h3, G, e1, e2, e3, o1, o2, o3, tg, (q.append_left X).trans ?_⟩
  exact permF (by intro f; simp only [List.map_cons, List.map_append, List.sum_cons, List.sum_append]; omega)
theorem RosAt.cons {H R : HL} {rp a1 a2 a3 M : Nat} {s : RS} {x : Nat × AObj} (h : RosAt B H rp a1 a2 a3 M s R) : RosAt B (x :: H) rp a1 a2 a3 M s (x :: R) := h.add [x]
/-- What else is there is forgotten. -/
theorem RosAt.less {H R R1 : HL} {rp a1 a2 a3 M : Nat} {s : RS} (h : RosAt B H rp a1 a2 a3 M s R) (p : SubP R1 R) : ∃ H3, RosAt B H3 rp a1 a2 a3 M s R1 ∧ SubP H3 H := by
  obtain ⟨xn, xs, xc, v1, v2, v3, h1, h2, h3, G, e1, e2, e3, o1, o2, o3, tg, q⟩ := h
  obtain ⟨X, pX⟩ := p
  refine ⟨_, ⟨xn, xs, xc, v1, v2, v3, h1, h2, h3, G, e1, e2, e3, o1, o2, o3, tg, List.Perm.refl _⟩, X, q.trans ?_⟩
  have := sum_perm pX
  refine permF ?_
  intro f
  have := sum_perm pX f
  simp only [List.cons_append, List.map_cons, List.map_append, List.sum_cons, List.sum_append] at this ⊢
  omega
theorem RosAt.ld {H R : HL} {rp a1 a2 a3 M : Nat} {s : RS} {b : AA} {n : Nat} {l : List AV} (h : RosAt B H rp a1 a2 a3 M s R) (k : Ld B R b n l) : Ld B H b n l := by
  obtain ⟨xn, xs, xc, v1, v2, v3, h1, h2, h3, G, e1, e2, e3, o1, o2, o3, tg, q⟩ := h
  exact Ld.perm q k.right.right.right.right.cons.cons.cons.cons
theorem RosAt.sl {H R : HL} {rp a1 a2 a3 M : Nat} {s : RS} {w : AV} {n : Nat} {xs : List (List AV)} (h : RosAt B H rp a1 a2 a3 M s R) (k : SlIs B R w n xs) : SlIs B H w n xs := by
  obtain ⟨xn, ys, xc, v1, v2, v3, h1, h2, h3, G, e1, e2, e3, o1, o2, o3, tg, q⟩ := h
  exact SlIs.perm q (SlIs.cons (SlIs.cons (SlIs.cons (SlIs.cons (SlIs.right (SlIs.right (SlIs.right (SlIs.right k))))))))
theorem RosAt.row {H R : HL} {rp a1 a2 a3 M : Nat} {s : RS} (h : RosAt B H rp a1 a2 a3 M s R) : Ld B H ⟨false, rp, 0⟩ 3 (rosC a1 a2 a3) := by
  obtain ⟨xn, xs, xc, v1, v2, v3, h1, h2, h3, G, e1, e2, e3, o1, o2, o3, tg, q⟩ := h
  exact Ld.perm q (Ld.own (Tk.tail (Tk.tail (Tk.tail Tk.head))) rfl)
theorem RosAt.r1 {H R : HL} {rp a1 a2 a3 M : Nat} {s : RS} (h : RosAt B H rp a1 a2 a3 M s R) : Ld B H ⟨false, rp, 0⟩ 1 [.ptr ⟨false, a1, 0⟩] := h.row.part 0 1 (by omega)
theorem RosAt.r2 {H R : HL} {rp a1 a2 a3 M : Nat} {s : RS} (h : RosAt B H rp a1 a2 a3 M s R) : Ld B H ⟨false, rp, 1⟩ 1 [.ptr ⟨false, a2, 0⟩] := h.row.part 1 1 (by omega)
theorem RosAt.r3 {H R : HL} {rp a1 a2 a3 M : Nat} {s : RS} (h : RosAt B H rp a1 a2 a3 M s R) : Ld B H ⟨false, rp, 2⟩ 1 [.ptr ⟨false, a3, 0⟩] := h.row.part 2 1 (by omega)
/-- The roster as its nodes' table and the rest. -/
theorem RosAt.n {H R : HL} {rp a1 a2 a3 M : Nat} {s : RS} (h : RosAt B H rp a1 a2 a3 M s R) : ∃ (xn : List (TE NV)) (R1 : HL), xn.map (TE.mp coN) = s.ns ∧ TbN H a1 M xn s.l1 R1 ∧
    ∀ H' X xn' l', TbN H' a1 M xn' l' (X ++ R1) → RosAt B H' rp a1 a2 a3 M { s with ns := xn'.map (TE.mp coN), l1 := l' } (X ++ R) := by
  obtain ⟨xn, xs, xc, v1, v2, v3, h1, h2, h3, G, e1, e2, e3, o1, o2, o3, tg, q⟩ := h
  refine ⟨xn, (a2, .row (tblC M v2 s.l2)) :: (a3, .row (tblC M v3 s.l3)) :: (rp, .row (rosC a1 a2 a3)) :: (h2 ++ (h3 ++ (G ++ R))), e1, ⟨v1, h1, o1, q.trans ?_⟩, ?_⟩
  · exact permF (by intro f; simp only [List.map_cons, List.map_append, List.sum_cons, List.sum_append]; omega)
  · rintro H' X xn' l' ⟨v, hs, o, p⟩
    refine ⟨xn', xs, xc, v, v2, v3, hs, h2, h3, G, rfl, e2, e3, o, o2, o3, tg, p.trans ?_⟩
    exact permF (by intro f; simp only [List.map_cons, List.map_append, List.sum_cons, List.sum_append]; omega)
theorem RosAt.c {H R : HL} {rp a1 a2 a3 M : Nat} {s : RS} (h : RosAt B H rp a1 a2 a3 M s R) : ∃ (xc : List (TE CV)) (R1 : HL), xc.map (TE.mp coC) = s.cs ∧ TbC H a3 M xc s.l3 R1 ∧
    ∀ H' X xc' l', TbC H' a3 M xc' l' (X ++ R1) → RosAt B H' rp a1 a2 a3 M { s with cs := xc'.map (TE.mp coC), l3 := l' } (X ++ R) := by
  obtain ⟨xn, xs, xc, v1, v2, v3, h1, h2, h3, G, e1, e2, e3, o1, o2, o3, tg, q⟩ := h
  refine ⟨xc, (a1, .row (tblC M v1 s.l1)) :: (a2, .row (tblC M v2 s.l2)) :: (rp, .row (rosC a1 a2 a3)) :: (h1 ++ (h2 ++ (G ++ R))), e3, ⟨v3, h3, o3, q.trans ?_⟩, ?_⟩
  · exact permF (by intro f; simp only [List.map_cons, List.map_append, List.sum_cons, List.sum_append]; omega)
  · rintro H' X xc' l' ⟨v, hs, o, p⟩
    refine ⟨xn, xs, xc', v1, v2, v, h1, h2, hs, G, e1, e2, rfl, o1, o2, o, tg, p.trans ?_⟩
    exact permF (by intro f; simp only [List.map_cons, List.map_append, List.sum_cons, List.sum_append]; omega)
/-- As its services' table: the tags' rows may grow. -/
theorem RosAt.s {H R : HL} {rp a1 a2 a3 M : Nat} {s : RS} (h : RosAt B H rp a1 a2 a3 M s R) : ∃ (xs : List (TE SV)) (G R1 : HL), xs.map (TE.mp coS) = s.ss ∧ TagsIn B G xs ∧ TbS H a2 M xs s.l2 (G ++ R1) ∧
    ∀ H' X G' xs' l', TagsIn B G' xs' → TbS H' a2 M xs' l' (X ++ (G' ++ R1)) → RosAt B H' rp a1 a2 a3 M { s with ss := xs'.map (TE.mp coS), l2 := l' } (X ++ R) := by
  obtain ⟨xn, xs, xc, v1, v2, v3, h1, h2, h3, G, e1, e2, e3, o1, o2, o3, tg, q⟩ := h
  refine ⟨xs, G, (a1, .row (tblC M v1 s.l1)) :: (a3, .row (tblC M v3 s.l3)) :: (rp, .row (rosC a1 a2 a3)) :: (h1 ++ (h3 ++ R)), e2, tg, ⟨v2, h2, o2, q.trans ?_⟩, ?_⟩
  · exact permF (by intro f; simp only [List.map_cons, List.map_append, List.sum_cons, List.sum_append]; omega)
  · rintro H' X G' xs' l' tg' ⟨v, hs, o, p⟩
    refine ⟨xn, xs', xc, v1, v, v3, h1, hs, h3, G', e1, rfl, e3, o1, o, o3, tg', p.trans ?_⟩
    exact permF (by intro f; simp only [List.map_cons, List.map_append, List.sum_cons, List.sum_append]; omega)
/-! ### What the calls do -/
open Classical in
noncomputable def nodeS (M : Nat) (s : RS) (node : Int) (addr : List Nat) (ix : Int) : RS × Nat :=
  if ¬ (0 ≤ node ∧ node < 8) then (s, 2) else if 32 < addr.length then (s, 3) else if fullP M s.ns (keyN node.toNat) then (s, 5)
  else ({ s with ns := putE s.ns ⟨keyN node.toNat, ⟨node, addr⟩, ix, ix⟩, l1 := maxI s.l1 ix }, 0)
def thereK (ns : List (TE KN)) (m : Int) : Prop := ∃ n : Nat, n < 8 ∧ m = .ofNat n ∧ findE ns (keyN n) ≠ none
open Classical in
noncomputable def wrongS (s : RS) (x : KS) : Nat :=
  if ¬ (0 ≤ x.node ∧ x.node < 8) ∨ x.port < 0 ∨ 65535 < x.port then 2 else if ¬ (nameP x.id ∧ nameP x.name ∧ tagsP x.tags) then 10 else if ¬ thereK s.ns x.node then 4 else 0
open Classical in
noncomputable def serviceS (M : Nat) (s : RS) (x : KS) (ix : Int) : RS × Nat :=
  if wrongS s x ≠ 0 then (s, wrongS s x) else if fullP M s.ss (keyS x.node.toNat x.id) then (s, 5)
  else ({ s with ss := putE s.ss ⟨keyS x.node.toNat x.id, x, ix, ix⟩, l2 := maxI s.l2 ix }, 0)
open Classical in
noncomputable def wrongC (s : RS) (x : KC) : Nat :=
  if ¬ (0 ≤ x.node ∧ x.node < 8) ∨ x.st < 0 ∨ 3 < x.st then 2 else if ¬ (nameP x.id ∧ (x.svc = [] ∨ nameP x.svc)) then 10 else if 32 < x.note.length then 3
  else if ¬ thereK s.ns x.node then 4 else if x.svc ≠ [] ∧ findE s.ss (keyS x.node.toNat x.svc) = none then 4 else 0
open Classical in
noncomputable def checkS (M : Nat) (s : RS) (x : KC) (ix : Int) : RS × Nat :=
  if wrongC s x ≠ 0 then (s, wrongC s x) else if fullP M s.cs (keyS x.node.toNat x.id) then (s, 5)
  else ({ s with cs := putE s.cs ⟨keyS x.node.toNat x.id, x, ix, ix⟩, l3 := maxI s.l3 ix }, 0)
/-- A state that can be. -/
structure RsOk (M : Nat) (s : RS) : Prop where
  m1 : 1 ≤ M
  m2 : M ≤ 64
  n1 : s.ns.length ≤ M
  n2 : s.ss.length ≤ M
  n3 : s.cs.length ≤ M
  r1 : Rise s.ns
  r2 : Rise s.ss
  r3 : Rise s.cs
  t : ∀ e, e ∈ s.ss → e.v.tags.length ≤ 4
theorem full_mp {V W : Type} {f : V → W} {M : Nat} {es : List (TE V)} {key : List Nat} : fullP M (es.map (TE.mp f)) key ↔ fullP M es key := by
  unfold fullP
  rw [find_mp, List.length_map, Option.map_eq_none_iff]
theorem none34_ok {H : HL} {rp a : Nat} (h0 : Ld B H ⟨false, rp, 0⟩ 1 [.ptr ⟨false, a, 0⟩]) : WF B tab (.func 34) [.ptr ⟨false, rp, 0⟩] H fun r H' => H' = H ∧ r = .bool false := by
  refine WF.fnR g34 rfl ?_
  repeat' (first
    | apply WOps.nil | apply WC.seq | apply WC.reg | apply WC.ret | (apply WOps.ldG; rfl; rfl; exact h0; rfl) | (apply WOps.purG; rfl; (intro _; rfl)))
  exact ⟨trivial, List.Sublist.refl _, [_], ⟨_, [], rfl, rfl, rfl⟩, rfl⟩
set_option maxHeartbeats 1000000 in
theorem node19_ok {H R : HL} {rp a1 a2 a3 M : Nat} {s : RS} {node ix : Int} {addr : List Nat} (ok : RsOk M s) (h : RosAt B H rp a1 a2 a3 M s R) :
    WF B tab (.func 19) [.ptr ⟨false, rp, 0⟩, .int .i64 node, .str addr, .int .u64 ix] H fun r H' => r = .int .i64 (.ofNat (nodeS M s node addr ix).2) ∧ RosAt B H' rp a1 a2 a3 M (nodeS M s node addr ix).1 R := by
  refine WF.lessP ?_
  refine WF.fn g19 rfl ?_
  obtain ⟨xn, R1, e1, t, back⟩ := h.n
  have hl : xn.length ≤ 1000 := by
    have h1 := ok.n1
    have h2 := ok.m2
    rw [← e1, List.length_map] at h1; omega
  have so : Rise xn := (rise_mp (f := coN)).1 (by rw [e1]; exact ok.r1)
  have hr := h.r1
  have P : ∀ n, WF B tab (.func 45) [.ptr ⟨false, a1, 0⟩, .str (keyN n), .agg (valN ⟨.ofNat n, addr, .ofNat 0, .ofNat 0⟩), .int .u64 ix] H _ := fun n => put45_at (e := ⟨keyN n, ⟨.ofNat n, addr, .ofNat 0, .ofNat 0⟩, ix, ix⟩) ok.m1 hl so rfl t
  repeat' (first
    | apply WOps.nil | apply WC.seq | apply WC.reg | apply WC.skip | apply WC.ret | (apply WC.condT; rfl) | (apply WC.condF; rfl) | apply WC.block | apply WC.dreg | apply WD.nil | (apply WD.st; rfl; rfl; rfl; (first | exact tk0 | exact tk1 | exact tk2); rfl; (first | rfl | ((repeat' (first | exact ac0 | apply ac1)) <;> (first | rfl | assumption))); rfl) | (apply WD.alc; rfl; rfl; intro _) | (apply WOps.clR; rfl; rfl; exact none34_ok hr; rintro _ rfl) | (apply WOps.clR; rfl; rfl; exact right15_ok node; rintro _ (⟨rfl, n, hn8, rfl⟩ | ⟨rfl, hno⟩)) | (apply WOps.lenT; rfl; rfl) | (apply WD.clR; rfl; rfl; exact digit17_ok hn8; rintro _ rfl) | (apply WD.load; rfl; (first | (apply at1; exact rd_ld rfl (hr) rfl; rfl) | (apply at2; exact rd_ld rfl (hr) rfl; repeat' (first | exact same0 | (apply same1; exact rd_ld rfl (hr) rfl; rfl) | (apply same2; exact rd_ld rfl (hr) rfl))))) | (apply WD.clA; rfl; rfl; exact P n; rintro _ H1 (⟨hf, rfl, t1⟩ | ⟨hf, e', rfl, t1⟩)) | (apply WOps.cmp; rfl; rfl; rfl; rfl; intro _ _) | (apply WOps.purG; rfl; (intro _; rfl)) | (apply WD.pur; rfl; (intro _; rfl)) | (apply WC.condA; rfl; all_goals (intro hb; try subst hb)))
  · have h1 := ‹true = true ↔ cmpP BinOp.gtr _ _›.1 rfl
    simp only [cmpP, Int.ofNat_eq_natCast] at h1
    have e : nodeS M s (.ofNat n) addr ix = (s, 3) := by
      unfold nodeS
      rw [if_neg (by simp only [Int.ofNat_eq_natCast]; omega), if_pos (by omega)]
    exact ⟨trivial, [_], ⟨_, [], rfl, rfl, rfl⟩, H, ⟨by rw [e]; rfl, by rw [e]; exact h⟩, SubP.refl⟩
  · have h1 := eq_of_ff ‹false = true ↔ cmpP BinOp.gtr _ _›
    simp only [cmpP, Int.ofNat_eq_natCast] at h1
    have e : nodeS M s (.ofNat n) addr ix = (s, 5) := by
      unfold nodeS
      rw [if_neg (by simp only [Int.ofNat_eq_natCast]; omega), if_neg (by omega), if_pos (by rw [← e1, full_mp]; exact hf)]
    have b1 := back H1 [] xn s.l1 t1
    rw [e1] at b1
    exact ⟨trivial, [_], ⟨_, [], rfl, rfl, rfl⟩, H1, ⟨by rw [e]; rfl, by rw [e]; exact b1⟩, SubP.of (List.sublist_cons_self _ _)⟩
  · have h1 := eq_of_ff ‹false = true ↔ cmpP BinOp.gtr _ _›
    simp only [cmpP, Int.ofNat_eq_natCast] at h1
    have e : nodeS M s (.ofNat n) addr ix = ({ s with ns := putE s.ns ⟨keyN n, ⟨.ofNat n, addr⟩, ix, ix⟩, l1 := maxI s.l1 ix }, 0) := by
      unfold nodeS
      rw [if_neg (by simp only [Int.ofNat_eq_natCast]; omega), if_neg (by omega), if_neg (by rw [← e1, full_mp]; exact hf)]
      rfl
    have b1 := back H1 [] _ _ t1
    rw [put_mp, e1] at b1
    exact ⟨trivial, [_], ⟨_, [], rfl, rfl, rfl⟩, H1, ⟨by rw [e]; rfl, by rw [e]; exact b1⟩, SubP.of (List.sublist_cons_self _ _)⟩
  · have e : nodeS M s node addr ix = (s, 2) := by
      unfold nodeS
      rw [if_pos hno]
    exact ⟨trivial, [_], ⟨_, [], rfl, rfl, rfl⟩, H, ⟨by rw [e]; rfl, by rw [e]; exact h⟩, SubP.refl⟩
theorem hasN_mp {xn : List (TE NV)} {m : Int} : hasN xn m ↔ thereK (xn.map (TE.mp coN)) m := by
  unfold hasN thereK
  simp only [find_mp, ne_eq, Option.map_eq_none_iff]
theorem there68_at {H R : HL} {rp a1 a2 a3 M : Nat} {s : RS} {m : Int} (ok : RsOk M s) (h : RosAt B H rp a1 a2 a3 M s R) :
    WF B tab (.func 68) [.ptr ⟨false, rp, 0⟩, .int .i64 m] H fun r H' => H' = H ∧ ∃ b : Bool, r = .bool b ∧ (b = true ↔ thereK s.ns m) := by
  obtain ⟨xn, R1, e1, t, back⟩ := h.n
  have hl : xn.length ≤ 1000 := by
    have h1 := ok.n1
    have h2 := ok.m2
    rw [← e1, List.length_map] at h1; omega
  have so : Rise xn := (rise_mp (f := coN)).1 (by rw [e1]; exact ok.r1)
  rw [← e1]
  exact WF.mono (there68_ok ok.m1 hl so t h.r1) fun r H' ⟨q1, b, q2, q3⟩ => ⟨q1, b, q2, q3.trans hasN_mp⟩
/-- A service as it is handed in. -/
def svC (x : KS) (tv : AV) (jm ji : Int) : List AV := [.int .i64 x.node, .str x.id, .str x.name, tv, .int .i64 x.port, .int .u64 jm, .int .u64 ji]
structure SvIs (B : Nat → List AV) (H : HL) (x : KS) (tv : AV) : Prop where
  t : SlIs B H tv 1 (x.tags.map strC)
  u : SrcIs B H tv 1 x.tags.length (x.tags.map strC).flatten
  l : x.tags.length ≤ 8796093021952
  i : x.id.length ≤ 140737488351232
  n : x.name.length ≤ 140737488351232
  s : shortL x.tags
set_option maxHeartbeats 2000000 in
theorem wrong46_ok {H R : HL} {rp a1 a2 a3 M : Nat} {s : RS} {x : KS} {tv : AV} {jm ji : Int} (ok : RsOk M s) (h : RosAt B H rp a1 a2 a3 M s R) (hx : SvIs B H x tv) :
    WF B tab (.func 46) [.ptr ⟨false, rp, 0⟩, .agg (svC x tv jm ji)] H fun r H' => H' = H ∧ r = .int .i64 (.ofNat (wrongS s x)) := by
  refine WF.fnR g46 rfl ?_
  have ct := hx.t.cell
  have hi := hx.i
  have hn := hx.n
  repeat' (first
    | apply WOps.nil | apply WC.seq | apply WC.reg | apply WC.skip | apply WC.ret | (apply WC.condT; rfl) | (apply WC.condF; rfl) | apply WC.block | (apply WOps.ldG; rfl; rfl; (first | exact ld0 rfl | exact ld1 rfl | exact ld2 rfl); rfl) | (apply WOps.bx; rfl; rfl; (first | rfl | ((repeat' (first | exact ac0 | apply ac1)) <;> (first | rfl | assumption))); intro _) | (apply WOps.clR; rfl; rfl; exact right15_ok _; rintro _ (⟨rfl, n, hn8, hnn⟩ | ⟨rfl, hno⟩)) | (apply WOps.clR; rfl; rfl; exact right66_ok _ (by omega); rintro _ ⟨bb, rfl, hbb⟩; cases bb) | (apply WOps.clR; rfl; rfl; exact tags67_ok hx.t.cons (by have := hx.l; omega) hx.s; rintro _ ⟨bb, rfl, hb3⟩; cases bb) | (apply WOps.clR; rfl; rfl; exact there68_at ok h.cons; rintro _ ⟨bb, rfl, hb4⟩; cases bb) | (apply WOps.cmp; rfl; rfl; rfl; rfl; intro _ _) | (apply WOps.purG; rfl; (intro _; rfl)) | (apply WOps.skp; rfl) | (apply WOps.ask; rfl; all_goals (intro hb; first | subst hb | fail_if_success (cases hb))) | (apply WC.condA; rfl; all_goals (intro hb; try subst hb)))
  all_goals refine ⟨trivial, List.sublist_cons_self _ _, [_], ⟨_, [], rfl, rfl, rfl⟩, congrArg (fun k => AV.int .i64 (.ofNat k)) (Eq.symm ?_)⟩
  all_goals unfold wrongS
  rotate_right 1
  · rw [if_pos (.inl hno)]
  all_goals have hd : 0 ≤ x.node ∧ x.node < 8 := by rw [hnn]; simp only [Int.ofNat_eq_natCast]; omega
  all_goals simp only [cmpP, true_iff, Bool.false_eq_true, false_iff, Int.ofNat_eq_natCast] at *
  · rw [if_pos (.inr (.inl (by omega)))]
  · rw [if_pos (.inr (.inr (by omega)))]
  all_goals rw [if_neg (by omega)]
  · rw [if_pos (fun h => hbb h.1)]
  · rw [if_pos (fun h => hbb h.2.1)]
  · rw [if_pos (fun h => hb3 h.2.2)]
  · rw [if_neg (by simp_all), if_pos hb4]
  · rw [if_neg (by simp_all), if_neg (by simp_all)]
/-- A check as it is handed in. -/
def ckC (x : KC) (jm ji : Int) : List AV := [.int .i64 x.node, .str x.id, .str x.svc, .str x.note, .int .i64 x.st, .int .u64 jm, .int .u64 ji]
structure CkIs (x : KC) : Prop where
  i : x.id.length ≤ 140737488351232
  s : x.svc.length ≤ 140737488351232
  n : x.note.length ≤ 140737488351232
theorem hasS_none {xs : List (TE SV)} {key : List Nat} : findE (xs.map (TE.mp coS)) key = none ↔ findE xs key = none := by rw [find_mp, Option.map_eq_none_iff]
set_option maxHeartbeats 4000000 in
theorem wrong48_ok {H R : HL} {rp a1 a2 a3 M : Nat} {s : RS} {x : KC} {jm ji : Int} (ok : RsOk M s) (h : RosAt B H rp a1 a2 a3 M s R) (hx : CkIs x) :
    WF B tab (.func 48) [.ptr ⟨false, rp, 0⟩, .agg (ckC x jm ji)] H fun r H' => H' = H ∧ r = .int .i64 (.ofNat (wrongC s x)) := by
  refine WF.lessP ?_
  refine WF.fn g48 rfl ?_
  have hi := hx.i
  have hn := hx.n
  have hs := hx.s
  obtain ⟨node, id, svc, note, st⟩ := x
  simp only at hi hn hs
  obtain ⟨xs, G, R1, e1, tg, t, back⟩ := h.s
  have hl : xs.length ≤ 1000 := by
    have h1 := ok.n2
    have h2 := ok.m2
    rw [← e1, List.length_map] at h1; omega
  have so : Rise xs := (rise_mp (f := coS)).1 (by rw [e1]; exact ok.r2)
  have hr := h.r2
  have fin : ∀ (k : Nat) (H2 : HL), wrongC s ⟨node, id, svc, note, st⟩ = k → SubP H H2 → (∃ H3, (H3 = H ∧ AV.int IntKind.i64 (Int.ofNat k) = .int .i64 (.ofNat (wrongC s ⟨node, id, svc, note, st⟩))) ∧ SubP H3 H2) := fun k H2 e p => ⟨H, ⟨rfl, by rw [e]⟩, p⟩
  repeat' (first
    | apply WOps.nil | apply WC.seq | apply WC.reg | apply WC.skip | apply WC.ret | (apply WC.condT; rfl) | (apply WC.condF; rfl) | apply WC.block | apply WC.dreg | apply WD.nil | (apply WOps.ldG; rfl; rfl; (first | exact ld0 rfl | exact ld1 rfl | exact ld2 rfl); rfl) | (apply WOps.bx; rfl; rfl; (first | rfl | ((repeat' (first | exact ac0 | apply ac1)) <;> (first | rfl | assumption))); intro _) | (apply WD.st; rfl; rfl; rfl; (first | exact tk0 | exact tk1 | exact tk2); rfl; (first | rfl | ((repeat' (first | exact ac0 | apply ac1)) <;> (first | rfl | assumption))); rfl) | (apply WD.alc; rfl; rfl; intro _) | (apply WOps.clR; rfl; rfl; exact right15_ok _; rintro _ (⟨rfl, n, hn8, rfl⟩ | ⟨rfl, hno⟩)) | (apply WOps.clR; rfl; rfl; exact right66_ok id (by omega); rintro _ ⟨bb, rfl, hbb⟩; cases bb) | (apply WOps.clR; rfl; rfl; exact right66_ok svc (by omega); rintro _ ⟨bb, rfl, hb2⟩; cases bb) | (apply WOps.lenT; rfl; rfl) | (apply WOps.clR; rfl; rfl; exact there68_at ok h.cons; rintro _ ⟨bb, rfl, hb4⟩; cases bb) | (apply WD.clR; rfl; rfl; exact key20_ok hn8 hs; rintro _ rfl) | (apply WD.clR; rfl; rfl; exact getS_at ok.m1 hl so t.cons; rintro _ (⟨x2, hx2, rfl⟩ | ⟨hx2, rfl⟩) <;> (try have htg := x2.v.tg.c)) | (apply WD.load; rfl; (first | (apply at1; exact rd_ld rfl (hr.cons) rfl; rfl) | (apply at2; exact rd_ld rfl (hr.cons) rfl; repeat' (first | exact same0 | (apply same1; exact rd_ld rfl (hr.cons) rfl; rfl) | (apply same2; exact rd_ld rfl (hr.cons) rfl))))) | (apply WOps.cmp; rfl; rfl; rfl; rfl; intro _ _) | (apply WOps.cmpT; rfl; rfl; rfl; rfl; intro _ _) | (apply WOps.purG; rfl; (intro _; rfl)) | (apply WOps.skp; rfl) | (apply WD.load; rfl; (first | (apply at1; (first | exact rd0 rfl rfl rfl | exact rd1 rfl rfl rfl | exact rd2 rfl rfl rfl); rfl) | (apply at2; (first | exact rd0 rfl rfl rfl | exact rd1 rfl rfl rfl | exact rd2 rfl rfl rfl); repeat' (first | exact same0 | (apply same1; (first | exact rd0 rfl rfl rfl | exact rd1 rfl rfl rfl | exact rd2 rfl rfl rfl); rfl) | (apply same2; (first | exact rd0 rfl rfl rfl | exact rd1 rfl rfl rfl | exact rd2 rfl rfl rfl)))))) | (apply WD.pur; rfl; (intro _; rfl)) | (apply WOps.ask; rfl; all_goals (intro hb; first | subst hb | fail_if_success (cases hb))) | (apply WC.condA; rfl; all_goals (intro hb; try subst hb)))
  all_goals first | refine ⟨trivial, [_], ⟨_, [], rfl, rfl, rfl⟩, fin _ _ ?_ (subF (by intro f; simp only [AV.cells, List.append_eq, List.map_cons, List.map_nil, List.sum_nil, List.map_append, List.sum_cons, List.sum_append, List.cons_append, List.nil_append, List.append_assoc, List.append_nil]; omega))⟩ | (trace_state; sorry)
  all_goals unfold wrongC
  all_goals simp only
  rotate_right 1
  · rw [if_pos (.inl hno)]
  all_goals have hd : 0 ≤ (Int.ofNat n) ∧ Int.ofNat n < 8 := ⟨Int.natCast_nonneg _, by show (n : Int) < 8; omega⟩
  all_goals simp only [cmpP, cmpS, true_iff, Bool.false_eq_true, false_iff] at *
  · rw [if_pos (.inr (.inl (by assumption)))]
  · rw [if_pos (.inr (.inr (by assumption)))]
  all_goals (rw [if_neg (by rintro (h | h | h); exact h hd; exact absurd h (by assumption); exact absurd h (by assumption))])
  all_goals have hq : findE s.ss (keyS n svc) = none ↔ findE xs (keyS n svc) = none := by rw [← e1]; exact hasS_none
  all_goals rw [show (Int.ofNat n).toNat = n from rfl]
  all_goals clear e1 back ok h t so hr fin tg hl hd
  all_goals simp only [Int.ofNat_eq_natCast, Int.ofNat_lt] at *
  all_goals generalize thereK s.ns _ = P at *
  all_goals simp_all
theorem SubP.add {A H : HL} {x : Nat × AObj} (h : SubP A H) : SubP A (x :: H) := by
  obtain ⟨G, p⟩ := h
  exact ⟨x :: G, (p.cons x).trans List.perm_middle.symm⟩
theorem TbS.add {H R : HL} {a most : Nat} {es : List (TE SV)} {last : Int} (h : TbS H a most es last R) (X : HL) : TbS (X ++ H) a most es last (X ++ R) := by
  obtain ⟨v, hs, o, p⟩ := h
  refine ⟨v, hs, o, (p.append_left X).trans ?_⟩
  exact permF (by intro f; simp only [List.map_cons, List.map_append, List.sum_cons, List.sum_append]; omega)
theorem strs_len : ∀ (l : List (List Nat)), (l.map strC).flatten.length = l.length * 1 := by
  intro l
  induction l with
  | nil => rfl
  | cons x l ih => rw [List.map_cons, List.flatten_cons, List.length_append, ih, List.length_cons]; simp only [strC, List.length_cons, List.length_nil]; omega
theorem strs_cell (l : List (List Nat)) : allCell (l.map strC).flatten = true := by
  rw [allCell_iff]
  intro v hv
  simp only [List.mem_flatten, List.mem_map] at hv
  obtain ⟨_, ⟨e, _, rfl⟩, hv⟩ := hv
  simp only [strC, List.mem_singleton] at hv
  subst hv; rfl
theorem strs_sl {v : AV} {l : List (List Nat)} {h : HL} (o : OwnSl v (l.map strC).flatten l.length 1 h) : SlIs B h v 1 (l.map strC) := by
  have o2 : OwnSl v (l.map strC).flatten (l.map strC).length 1 h := by simpa using o
  exact OwnSl.sl o2 (by intro c hc; simp only [List.mem_map] at hc; obtain ⟨e, _, rfl⟩ := hc; rfl)
theorem strs_in {v : AV} {l : List (List Nat)} {h : HL} (o : OwnSl v (l.map strC).flatten l.length 1 h) : TgIn B h v l := ⟨strs_sl o, o.src⟩
theorem wrongS_zero {s : RS} {x : KS} (h : wrongS s x = 0) : (∃ n : Nat, n < 8 ∧ x.node = .ofNat n) ∧ nameP x.id ∧ tagsP x.tags := by
  unfold wrongS at h
  split at h
  · cases h
  · rename_i h1
    split at h
    · cases h
    · rename_i h2
      have h2 := Classical.not_not.1 h2
      simp only [not_or, Decidable.not_not] at h1
      refine ⟨⟨x.node.toNat, by omega, by simp only [Int.ofNat_eq_natCast]; omega⟩, h2.1, h2.2.2⟩
set_option maxHeartbeats 4000000 in
theorem service22_ok {H R : HL} {rp a1 a2 a3 M : Nat} {s : RS} {x : KS} {tv : AV} {jm ji ix : Int} (ok : RsOk M s) (h : RosAt B H rp a1 a2 a3 M s R) (hx : SvIs B H x tv) :
    WF B tab (.func 22) [.ptr ⟨false, rp, 0⟩, .agg (svC x tv jm ji), .int .u64 ix] H fun r H' => r = .int .i64 (.ofNat (serviceS M s x ix).2) ∧ RosAt B H' rp a1 a2 a3 M (serviceS M s x ix).1 R := by
  refine WF.lessP ?_
  refine WF.fn g22 rfl ?_
  have ct := hx.t.cell
  have hx1 : ∀ {q : Nat × AObj}, SvIs B (q :: H) x tv := ⟨hx.t.cons, hx.u.cons, hx.l, hx.i, hx.n, hx.s⟩
  repeat' (first
    | apply WOps.nil | apply WC.seq | apply WC.reg | apply WC.skip | apply WC.ret | (apply WC.condF; rfl) | (apply WOps.ldG; rfl; rfl; (first | exact ld0 rfl | exact ld1 rfl | exact ld2 rfl); rfl) | (apply WOps.bx; rfl; rfl; (first | rfl | ((repeat' (first | exact ac0 | apply ac1)) <;> (first | rfl | assumption))); intro _) | (apply WOps.bsl; rfl; (first | rfl | ((repeat' (first | exact ac0 | apply ac1)) <;> (first | rfl | assumption))); intro _) | (apply WOps.clR; rfl; rfl; exact none34_ok h.r1.cons; rintro _ rfl) | (apply WOps.clR; rfl; rfl; exact wrong46_ok ok h.cons hx1; rintro _ rfl) | (apply WOps.cmp; rfl; rfl; rfl; rfl; intro _ _) | (apply WOps.purG; rfl; (intro _; rfl)) | (apply WC.condA; rfl; all_goals (intro hb; try subst hb)))
  · have h1 := ‹true = true ↔ cmpP BinOp.neq _ _›.1 rfl
    simp only [cmpP, Int.ofNat_eq_natCast] at h1
    have e : serviceS M s x ix = (s, wrongS s x) := by unfold serviceS; rw [if_pos (by omega)]
    exact ⟨trivial, [_], ⟨_, [], rfl, rfl, rfl⟩, H, ⟨by rw [e]; rfl, by rw [e]; exact h⟩, SubP.of (List.sublist_cons_self _ _)⟩
  have h1 := eq_of_ff ‹false = true ↔ cmpP BinOp.neq _ _›
  simp only [cmpP, Int.ofNat_eq_natCast] at h1
  have hw : wrongS s x = 0 := by omega
  obtain ⟨⟨n, hn8, hnn⟩, hid, htg⟩ := wrongS_zero hw
  have hl := hx.l
  have hi := hx.i
  have hu := hx.u
  obtain ⟨node, id, name, tags, port⟩ := x
  simp only at hnn hl hi hu hid htg
  subst hnn
  obtain ⟨xs, G, R1, e1, tg, t, back⟩ := h.s
  have hlx : xs.length ≤ 1000 := by
    have h1 := ok.n2
    have h2 := ok.m2
    rw [← e1, List.length_map] at h1; omega
  have so : Rise xs := (rise_mp (f := coS)).1 (by rw [e1]; exact ok.r2)
  rename_i p4 q _
  refine WOps.app (h := [(q, .row [])]) (cells := []) (n := 0) rfl rfl rfl (.inr ⟨q, rfl, rfl, rfl⟩) (List.Perm.refl _) (src_cons (src_cons hu)) rfl (strs_cell _) (strs_len _) (by omega) ?_
  intro v2 h2 o2
  have o3 : OwnSl v2 (tags.map strC).flatten tags.length 1 h2 := by simpa using o2
  repeat' (first
    | (apply WOps.purG; rfl; (intro _; rfl)))
  refine WOps.st (cs' := svC ⟨.ofNat n, id, name, tags, port⟩ v2 jm ji) rfl rfl List.perm_middle (by rw [o3.cells]; rfl) (by rw [o3.cells]; exact allCell_cons o3.cell allCell_nil) (by rw [o3.cells]; rfl) ?_
  have c2 := o3.cell
  have t2 := (t.add h2).cons (x := (p4, .row (svC ⟨.ofNat n, id, name, tags, port⟩ v2 jm ji)))
  have P := put47_at (B := B) (e := ⟨keyS n id, ⟨.ofNat n, id, name, tags, ⟨v2, c2⟩, port, jm, ji⟩, ix, ix⟩) ok.m1 hlx so rfl t2
  have hr : ∀ {z : Nat × AObj}, Ld B (z :: (h2 ++ H)) ⟨false, rp, 1⟩ 1 [.ptr ⟨false, a2, 0⟩] := (Ld.right h.r2).cons
  repeat' (first
    | apply WOps.nil | apply WC.seq | apply WC.reg | apply WC.ret | apply WC.dreg | apply WD.nil | (apply WD.st; rfl; rfl; rfl; (first | exact tk0 | exact tk1 | exact tk2); rfl; (first | rfl | ((repeat' (first | exact ac0 | apply ac1)) <;> (first | rfl | assumption))); rfl) | (apply WD.alc; rfl; rfl; intro _) | (apply WD.clR; rfl; rfl; exact key20_ok hn8 hi; rintro _ rfl) | (apply WD.load; rfl; (first | (apply at1; exact rd_ld rfl (hr) rfl; rfl) | (apply at2; exact rd_ld rfl (hr) rfl; repeat' (first | exact same0 | (apply same1; exact rd_ld rfl (hr) rfl; rfl) | (apply same2; exact rd_ld rfl (hr) rfl))))) | (apply WD.load; rfl; (first | (apply at1; (first | exact rd0 rfl rfl rfl | exact rd1 rfl rfl rfl | exact rd2 rfl rfl rfl | exact rd_ld rfl (ld2 rfl).cons rfl | exact rd_ld rfl (ld2 rfl).cons.cons rfl | exact rd_ld rfl (ld2 rfl).cons.cons.cons rfl); rfl) | (apply at2; (first | exact rd0 rfl rfl rfl | exact rd1 rfl rfl rfl | exact rd2 rfl rfl rfl | exact rd_ld rfl (ld2 rfl).cons rfl | exact rd_ld rfl (ld2 rfl).cons.cons rfl | exact rd_ld rfl (ld2 rfl).cons.cons.cons rfl); repeat' (first | exact same0 | (apply same1; (first | exact rd0 rfl rfl rfl | exact rd1 rfl rfl rfl | exact rd2 rfl rfl rfl | exact rd_ld rfl (ld2 rfl).cons rfl | exact rd_ld rfl (ld2 rfl).cons.cons rfl | exact rd_ld rfl (ld2 rfl).cons.cons.cons rfl); rfl) | (apply same2; (first | exact rd0 rfl rfl rfl | exact rd1 rfl rfl rfl | exact rd2 rfl rfl rfl | exact rd_ld rfl (ld2 rfl).cons rfl | exact rd_ld rfl (ld2 rfl).cons.cons rfl | exact rd_ld rfl (ld2 rfl).cons.cons.cons rfl)))))) | (apply WD.clA; rfl; rfl; exact P; rintro _ H1 (⟨hf, rfl, t1⟩ | ⟨hf, e', rfl, t1⟩) <;> (try have htg2 := e'.v.tg.c)) | (apply WOps.purG; rfl; (intro _; rfl)) | (apply WD.pur; rfl; (intro _; rfl)))
  · have e : serviceS M s ⟨.ofNat n, id, name, tags, port⟩ ix = (s, 5) := by
      unfold serviceS
      rw [if_neg (by rw [hw]; simp), if_pos (by rw [← e1, full_mp]; exact hf)]
    have b1 := back H1 [(p4, .row (svC ⟨.ofNat n, id, name, tags, port⟩ v2 jm ji))] (h2 ++ G) xs s.l2 (fun y hy => TgIn.right (tg y hy)) (t1.permR (List.Perm.of_eq (by simp)))
    rw [e1] at b1
    obtain ⟨H3, b2, s3⟩ := b1.less (R1 := R) (subF (by intro f; simp only [AV.cells, List.append_eq, List.map_cons, List.map_nil, List.sum_nil, List.map_append, List.sum_cons, List.sum_append, List.cons_append, List.nil_append, List.append_assoc, List.append_nil]; omega))
    exact ⟨trivial, [_], ⟨_, [], rfl, rfl, rfl⟩, H3, ⟨by rw [e]; rfl, by rw [e]; exact b2⟩, SubP.add s3⟩
  · have e : serviceS M s ⟨.ofNat n, id, name, tags, port⟩ ix = ({ s with ss := putE s.ss ⟨keyS n id, ⟨.ofNat n, id, name, tags, port⟩, ix, ix⟩, l2 := maxI s.l2 ix }, 0) := by
      unfold serviceS
      rw [if_neg (by rw [hw]; simp), if_neg (by rw [← e1, full_mp]; exact hf)]
      rfl
    have b1 := back H1 [(p4, .row (svC ⟨.ofNat n, id, name, tags, port⟩ v2 jm ji))] (h2 ++ G) _ _ (fun y hy => by
      rcases mem_put hy with hy | ⟨_, hv⟩
      · exact TgIn.right (tg y hy)
      · rw [hv]; exact TgIn.left (strs_in o3)) (t1.permR (List.Perm.of_eq (by simp)))
    rw [put_mp, e1] at b1
    obtain ⟨H3, b2, s3⟩ := b1.less (R1 := R) (subF (by intro f; simp only [AV.cells, List.append_eq, List.map_cons, List.map_nil, List.sum_nil, List.map_append, List.sum_cons, List.sum_append, List.cons_append, List.nil_append, List.append_assoc, List.append_nil]; omega))
    exact ⟨trivial, [_], ⟨_, [], rfl, rfl, rfl⟩, H3, ⟨by rw [e]; rfl, by rw [e]; exact b2⟩, SubP.add s3⟩
theorem wrongC_zero {s : RS} {x : KC} (h : wrongC s x = 0) : (∃ n : Nat, n < 8 ∧ x.node = .ofNat n) ∧ nameP x.id := by
  unfold wrongC at h
  split at h
  · cases h
  · rename_i h1
    split at h
    · cases h
    · rename_i h2
      have h2 := Classical.not_not.1 h2
      simp only [not_or, Decidable.not_not] at h1
      exact ⟨⟨x.node.toNat, by omega, by simp only [Int.ofNat_eq_natCast]; omega⟩, h2.1⟩
set_option maxHeartbeats 4000000 in
theorem check24_ok {H R : HL} {rp a1 a2 a3 M : Nat} {s : RS} {x : KC} {jm ji ix : Int} (ok : RsOk M s) (h : RosAt B H rp a1 a2 a3 M s R) (hx : CkIs x) :
    WF B tab (.func 24) [.ptr ⟨false, rp, 0⟩, .agg (ckC x jm ji), .int .u64 ix] H fun r H' => r = .int .i64 (.ofNat (checkS M s x ix).2) ∧ RosAt B H' rp a1 a2 a3 M (checkS M s x ix).1 R := by
  refine WF.lessP ?_
  refine WF.fn g24 rfl ?_
  repeat' (first
    | apply WOps.nil | apply WC.seq | apply WC.reg | apply WC.skip | apply WC.ret | (apply WC.condF; rfl) | apply WC.dreg | (apply WOps.ldG; rfl; rfl; (first | exact ld0 rfl | exact ld1 rfl | exact ld2 rfl); rfl) | (apply WOps.bx; rfl; rfl; (first | rfl | ((repeat' (first | exact ac0 | apply ac1)) <;> (first | rfl | assumption))); intro _) | (apply WOps.clR; rfl; rfl; exact none34_ok h.r1.cons; rintro _ rfl) | (apply WOps.clR; rfl; rfl; exact wrong48_ok ok h.cons hx; rintro _ rfl) | (apply WOps.cmp; rfl; rfl; rfl; rfl; intro _ _) | (apply WOps.purG; rfl; (intro _; rfl)) | (apply WD.load; rfl; (first | (apply at1; (first | exact rd0 rfl rfl rfl | exact rd1 rfl rfl rfl | exact rd2 rfl rfl rfl); rfl) | (apply at2; (first | exact rd0 rfl rfl rfl | exact rd1 rfl rfl rfl | exact rd2 rfl rfl rfl); repeat' (first | exact same0 | (apply same1; (first | exact rd0 rfl rfl rfl | exact rd1 rfl rfl rfl | exact rd2 rfl rfl rfl); rfl) | (apply same2; (first | exact rd0 rfl rfl rfl | exact rd1 rfl rfl rfl | exact rd2 rfl rfl rfl)))))) | (apply WD.pur; rfl; (intro _; rfl)) | (apply WC.condA; rfl; all_goals (intro hb; try subst hb)))
  · have h1 := ‹true = true ↔ cmpP BinOp.neq _ _›.1 rfl
    simp only [cmpP, Int.ofNat_eq_natCast] at h1
    have e : checkS M s x ix = (s, wrongC s x) := by unfold checkS; rw [if_pos (by omega)]
    exact ⟨trivial, [_], ⟨_, [], rfl, rfl, rfl⟩, H, ⟨by rw [e]; rfl, by rw [e]; exact h⟩, SubP.of (List.sublist_cons_self _ _)⟩
  have h1 := eq_of_ff ‹false = true ↔ cmpP BinOp.neq _ _›
  simp only [cmpP, Int.ofNat_eq_natCast] at h1
  have hw : wrongC s x = 0 := by omega
  obtain ⟨⟨n, hn8, hnn⟩, hid⟩ := wrongC_zero hw
  have hi := hx.i
  obtain ⟨node, id, svc, note, st⟩ := x
  simp only at hnn hi hid
  subst hnn
  obtain ⟨xc, R1, e1, t, back⟩ := h.c
  have hlx : xc.length ≤ 1000 := by
    have h1 := ok.n3
    have h2 := ok.m2
    rw [← e1, List.length_map] at h1; omega
  have so : Rise xc := (rise_mp (f := coC)).1 (by rw [e1]; exact ok.r3)
  rename_i p4 _
  have t2 := t.cons (x := (p4, .row (ckC ⟨.ofNat n, id, svc, note, st⟩ jm ji)))
  have P := put49_at (B := B) (e := ⟨keyS n id, ⟨.ofNat n, id, svc, note, st, jm, ji⟩, ix, ix⟩) ok.m1 hlx so rfl t2
  have hr := h.r3
  repeat' (first
    | apply WOps.nil | apply WC.seq | apply WC.reg | apply WC.ret | apply WD.nil | (apply WD.st; rfl; rfl; rfl; (first | exact tk0 | exact tk1 | exact tk2); rfl; (first | rfl | ((repeat' (first | exact ac0 | apply ac1)) <;> (first | rfl | assumption))); rfl) | (apply WD.alc; rfl; rfl; intro _) | (apply WD.clR; rfl; rfl; exact key20_ok hn8 hi; rintro _ rfl) | (apply WD.load; rfl; (first | (apply at1; exact rd_ld rfl (hr.cons) rfl; rfl) | (apply at2; exact rd_ld rfl (hr.cons) rfl; repeat' (first | exact same0 | (apply same1; exact rd_ld rfl (hr.cons) rfl; rfl) | (apply same2; exact rd_ld rfl (hr.cons) rfl))))) | (apply WD.load; rfl; (first | (apply at1; (first | exact rd0 rfl rfl rfl | exact rd1 rfl rfl rfl | exact rd2 rfl rfl rfl | exact rd_ld rfl (ld2 rfl).cons rfl | exact rd_ld rfl (ld2 rfl).cons.cons rfl | exact rd_ld rfl (ld2 rfl).cons.cons.cons rfl); rfl) | (apply at2; (first | exact rd0 rfl rfl rfl | exact rd1 rfl rfl rfl | exact rd2 rfl rfl rfl | exact rd_ld rfl (ld2 rfl).cons rfl | exact rd_ld rfl (ld2 rfl).cons.cons rfl | exact rd_ld rfl (ld2 rfl).cons.cons.cons rfl); repeat' (first | exact same0 | (apply same1; (first | exact rd0 rfl rfl rfl | exact rd1 rfl rfl rfl | exact rd2 rfl rfl rfl | exact rd_ld rfl (ld2 rfl).cons rfl | exact rd_ld rfl (ld2 rfl).cons.cons rfl | exact rd_ld rfl (ld2 rfl).cons.cons.cons rfl); rfl) | (apply same2; (first | exact rd0 rfl rfl rfl | exact rd1 rfl rfl rfl | exact rd2 rfl rfl rfl | exact rd_ld rfl (ld2 rfl).cons rfl | exact rd_ld rfl (ld2 rfl).cons.cons rfl | exact rd_ld rfl (ld2 rfl).cons.cons.cons rfl)))))) | (apply WD.clA; rfl; rfl; exact P; rintro _ H1 (⟨hf, rfl, t1⟩ | ⟨hf, e', rfl, t1⟩)) | (apply WOps.purG; rfl; (intro _; rfl)) | (apply WD.pur; rfl; (intro _; rfl)))
  · have e : checkS M s ⟨.ofNat n, id, svc, note, st⟩ ix = (s, 5) := by
      unfold checkS
      rw [if_neg (by rw [hw]; simp), if_pos (by rw [← e1, full_mp]; exact hf)]
    have b1 := back H1 [(p4, _)] xc s.l3 t1
    rw [e1] at b1
    obtain ⟨H3, b2, s3⟩ := b1.less (R1 := R) (subF (by intro f; simp only [AV.cells, List.append_eq, List.map_cons, List.map_nil, List.sum_nil, List.map_append, List.sum_cons, List.sum_append, List.cons_append, List.nil_append, List.append_assoc, List.append_nil]; omega))
    exact ⟨trivial, [_], ⟨_, [], rfl, rfl, rfl⟩, H3, ⟨by rw [e]; rfl, by rw [e]; exact b2⟩, SubP.add s3⟩
  · have e : checkS M s ⟨.ofNat n, id, svc, note, st⟩ ix = ({ s with cs := putE s.cs ⟨keyS n id, ⟨.ofNat n, id, svc, note, st⟩, ix, ix⟩, l3 := maxI s.l3 ix }, 0) := by
      unfold checkS
      rw [if_neg (by rw [hw]; simp), if_neg (by rw [← e1, full_mp]; exact hf)]
      rfl
    have b1 := back H1 [(p4, _)] _ _ t1
    rw [put_mp, e1] at b1
    obtain ⟨H3, b2, s3⟩ := b1.less (R1 := R) (subF (by intro f; simp only [AV.cells, List.append_eq, List.map_cons, List.map_nil, List.sum_nil, List.map_append, List.sum_cons, List.sum_append, List.cons_append, List.nil_append, List.append_assoc, List.append_nil]; omega))
    exact ⟨trivial, [_], ⟨_, [], rfl, rfl, rfl⟩, H3, ⟨by rw [e]; rfl, by rw [e]; exact b2⟩, SubP.add s3⟩
def rs0 : RS := ⟨[], [], [], .ofNat 0, .ofNat 0, .ofNat 0⟩
theorem new14_ok {H : HL} (m : Int) : WF B tab (.func 14) [.int .i64 m] H fun r H' => ∃ rp a1 a2 a3, r = .ptr ⟨false, rp, 0⟩ ∧ RosAt B H' rp a1 a2 a3 (mostOf m) rs0 H := by
  refine WF.fn g14 rfl ?_
  repeat' (first
    | apply WOps.nil | apply WC.seq | apply WC.reg | apply WC.ret | (apply WOps.bx; rfl; rfl; (first | rfl | ((repeat' (first | exact ac0 | apply ac1)) <;> (first | rfl | assumption))); intro _) | (apply WOps.clA; rfl; rfl; exact new42_ok _; rintro _ _ ⟨a1, rfl, rfl⟩) | (apply WOps.clA; rfl; rfl; exact new43_ok _; rintro _ _ ⟨a2, rfl, rfl⟩) | (apply WOps.clA; rfl; rfl; exact new44_ok _; rintro _ _ ⟨a3, rfl, rfl⟩) | (apply WOps.purG; rfl; (intro _; rfl)))
  rename_i rp
  refine ⟨trivial, [_], ⟨_, [], rfl, rfl, rfl⟩, rp, a1, a2, a3, rfl, [], [], [], .nilsl, .nilsl, .nilsl, [], [], [], [], rfl, rfl, rfl, .inl ⟨rfl, rfl, rfl, rfl⟩, .inl ⟨rfl, rfl, rfl, rfl⟩, .inl ⟨rfl, rfl, rfl, rfl⟩, (by intro e he; cases he), ?_⟩
  exact permF (by intro f; simp only [List.map_cons, List.map_append, List.sum_cons, List.sum_append, List.map_nil, List.sum_nil, AV.cells, tblC, rosC, rs0]; omega)
def lastC (s : RS) : List AV := [.int .u64 s.l1, .int .u64 s.l2, .int .u64 s.l3]
theorem last33_ok {H R : HL} {rp a1 a2 a3 M : Nat} {s : RS} (ok : RsOk M s) (h : RosAt B H rp a1 a2 a3 M s R) : WF B tab (.func 33) [.ptr ⟨false, rp, 0⟩] H fun r H' => H' = H ∧ r = .agg (lastC s) := by
  refine WF.lessP ?_
  refine WF.fn g33 rfl ?_
  obtain ⟨xn, R1, e1, t1, _⟩ := h.n
  obtain ⟨xs, G, R2, e2, tg, t2, _⟩ := h.s
  obtain ⟨xc, R3, e3, t3, _⟩ := h.c
  obtain ⟨v1, p0, p1, p2, _⟩ := t1.rd (B := B)
  obtain ⟨v2, q0, q1, q2, _⟩ := t2.rd (B := B)
  obtain ⟨v3, r0, r1, r2, _⟩ := t3.rd (B := B)
  have f1 := h.r1
  have f2 := h.r2
  have f3 := h.r3
  repeat' (first
    | apply WOps.nil | apply WC.seq | apply WC.reg | apply WC.skip | apply WC.ret | (apply WC.condF; rfl) | apply WC.dreg | apply WD.nil | (apply WOps.alc; rfl; intro _) | (apply WD.st; rfl; rfl; rfl; (first | exact tk0 | exact tk1 | exact tk2); rfl; (first | rfl | ((repeat' (first | exact ac0 | apply ac1)) <;> (first | rfl | assumption))); rfl) | (apply WOps.clR; rfl; rfl; exact none34_ok f1.cons; rintro _ rfl) | (apply WD.load; rfl; (first | (apply at1; exact rd_ld rfl (f1.cons) rfl; rfl) | (apply at2; exact rd_ld rfl (f1.cons) rfl; repeat' (first | exact same0 | (apply same1; exact rd_ld rfl (f1.cons) rfl; rfl) | (apply same2; exact rd_ld rfl (f1.cons) rfl))))) | (apply WD.load; rfl; (first | (apply at1; exact rd_ld rfl (f2.cons) rfl; rfl) | (apply at2; exact rd_ld rfl (f2.cons) rfl; repeat' (first | exact same0 | (apply same1; exact rd_ld rfl (f2.cons) rfl; rfl) | (apply same2; exact rd_ld rfl (f2.cons) rfl))))) | (apply WD.load; rfl; (first | (apply at1; exact rd_ld rfl (f3.cons) rfl; rfl) | (apply at2; exact rd_ld rfl (f3.cons) rfl; repeat' (first | exact same0 | (apply same1; exact rd_ld rfl (f3.cons) rfl; rfl) | (apply same2; exact rd_ld rfl (f3.cons) rfl))))) | (apply WD.clR; rfl; rfl; exact last59_ok p0.cons ok.m1 p2.cons; rintro _ rfl) | (apply WD.clR; rfl; rfl; exact last60_ok q0.cons ok.m1 q2.cons; rintro _ rfl) | (apply WD.clR; rfl; rfl; exact last61_ok r0.cons ok.m1 r2.cons; rintro _ rfl) | (apply WOps.purG; rfl; (intro _; rfl)) | (apply WD.pur; rfl; (intro _; rfl)))
  exact ⟨trivial, [_], ⟨_, [], rfl, ⟨_, _, rfl, Ld.own Tk.head rfl, rfl⟩, rfl⟩, H, ⟨rfl, rfl⟩, SubP.of (List.sublist_cons_self _ _)⟩
/-- Told: a node, a service, a check. -/
def entN (e : TE KN) : List AV := [.int .i64 e.v.node, .str e.v.addr, .int .u64 e.mke, .int .u64 e.ix]
def entS (e : TE KS) (tv : AV) : List AV := svC e.v tv e.mke e.ix
def entC (e : TE KC) : List AV := ckC e.v e.mke e.ix
theorem told36_ok {H : HL} {v : NV} {mk ix : Int} : WF B tab (.func 36) [.agg (valN v), .int .u64 mk, .int .u64 ix] H fun r H' => H' = H ∧ r = .agg (entN ⟨[], coN v, mk, ix⟩) := by
  refine WF.fnR g36 rfl ?_
  repeat' (first
    | apply WOps.nil | apply WC.seq | apply WC.reg | apply WC.ret | (apply WOps.ldG; rfl; rfl; (first | exact ld0 rfl | exact ld1 rfl | exact ld2 rfl); rfl) | (apply WOps.st; rfl; rfl; (first | exact tk0 | exact tk1 | exact tk2); rfl; (first | rfl | ((repeat' (first | exact ac0 | apply ac1)) <;> (first | rfl | assumption))); rfl) | (apply WOps.alc; rfl; intro _) | (apply WOps.bx; rfl; rfl; (first | rfl | ((repeat' (first | exact ac0 | apply ac1)) <;> (first | rfl | assumption))); intro _) | (apply WOps.purG; rfl; (intro _; rfl)))
  exact ⟨trivial, (List.sublist_cons_self _ _).trans (List.sublist_cons_self _ _), [_], ⟨_, [], rfl, ⟨_, _, rfl, Ld.own Tk.head rfl, rfl⟩, rfl⟩, rfl⟩
theorem told41_ok {H : HL} {v : CV} {mk ix : Int} : WF B tab (.func 41) [.agg (valC v), .int .u64 mk, .int .u64 ix] H fun r H' => H' = H ∧ r = .agg (entC ⟨[], coC v, mk, ix⟩) := by
  refine WF.fnR g41 rfl ?_
  repeat' (first
    | apply WOps.nil | apply WC.seq | apply WC.reg | apply WC.ret | (apply WOps.ldG; rfl; rfl; (first | exact ld0 rfl | exact ld1 rfl | exact ld2 rfl); rfl) | (apply WOps.st; rfl; rfl; (first | exact tk0 | exact tk1 | exact tk2); rfl; (first | rfl | ((repeat' (first | exact ac0 | apply ac1)) <;> (first | rfl | assumption))); rfl) | (apply WOps.alc; rfl; intro _) | (apply WOps.bx; rfl; rfl; (first | rfl | ((repeat' (first | exact ac0 | apply ac1)) <;> (first | rfl | assumption))); intro _) | (apply WOps.purG; rfl; (intro _; rfl)))
  exact ⟨trivial, (List.sublist_cons_self _ _).trans (List.sublist_cons_self _ _), [_], ⟨_, [], rfl, ⟨_, _, rfl, Ld.own Tk.head rfl, rfl⟩, rfl⟩, rfl⟩
theorem entsN_len : ∀ (es : List (TE KN)), (es.map entN).flatten.length = es.length * 4 := by
  intro es
  induction es with
  | nil => rfl
  | cons e es ih => rw [List.map_cons, List.flatten_cons, List.length_append, ih, List.length_cons, show (entN e).length = 4 from rfl]; omega
theorem entsN_cell : ∀ (es : List (TE KN)), allCell (es.map entN).flatten = true := by
  intro es
  rw [allCell_iff]
  intro v hv
  simp only [List.mem_flatten, List.mem_map] at hv
  obtain ⟨_, ⟨e, _, rfl⟩, hv⟩ := hv
  exact (allCell_iff (entN e)).1 rfl v hv
theorem entsN_sl {v : AV} {es : List (TE KN)} {h : HL} (o : OwnSl v (es.map entN).flatten es.length 4 h) : SlIs B h v 4 (es.map entN) := by
  have o2 : OwnSl v (es.map entN).flatten (es.map entN).length 4 h := by simpa using o
  exact OwnSl.sl o2 (by intro c hc; simp only [List.mem_map] at hc; obtain ⟨e, _, rfl⟩ := hc; rfl)
set_option maxHeartbeats 1000000 in
theorem all35_ok {H R : HL} {a M : Nat} {last : Int} {us : List (TE NV)} (hm : 1 ≤ M) (hn : us.length ≤ 1000) (t : TbN H a M us last R) :
    WF B tab (.func 35) [.ptr ⟨false, a, 0⟩, .agg [.fn (.func 36) [] []]] H fun r H' => ∃ h', OwnSl r ((us.map (TE.mp coN)).map entN).flatten us.length 4 h' ∧ H' = h' ++ H := by
  obtain ⟨v, h0, h1, h2, h3, h4⟩ := t.rd (B := B)
  refine WF.lessP ?_
  refine WF.fn g35 rfl ?_
  repeat' (first
    | apply WOps.nil | apply WC.seq | apply WC.reg | apply WC.block | (apply WOps.bx; rfl; rfl; (first | rfl | ((repeat' (first | exact ac0 | apply ac1)) <;> (first | rfl | assumption))); intro _) | (apply WOps.clA; rfl; rfl; exact list62_ok h0.cons hm h1.cons h3.cons hn; rintro r _ ⟨h', o', rfl⟩) | (apply WOps.lenO; rfl; rfl; exact o') | (apply WOps.purG; rfl; (intro _; rfl)))
  rename_i p3
  refine WC.loop ?_
  obtain ⟨i, hi⟩ : ∃ i : Nat, i = 0 := ⟨0, rfl⟩
  obtain ⟨w5, hw5⟩ : ∃ v, v = AV.nilsl := ⟨_, rfl⟩
  obtain ⟨hw, hhw⟩ : ∃ h : HL, h = [] := ⟨_, rfl⟩
  refine WL.le (t' := [(3, .ptr ⟨false, p3, 0⟩), (5, w5), (9, r), (10, .int .i64 (.ofNat us.length)), (11, .int .i64 (.ofNat i))]) (by subst hi; subst hw5; exact Sub1.cons rfl (Sub1.cons rfl (Sub1.cons rfl (Sub1.cons rfl (Sub1.cons rfl Sub1.nil))))) ?_
  refine WL.lessP (H1 := (p3, .row [.fn (.func 36) [] []]) :: (hw ++ (h' ++ H))) (by subst hhw; exact subF (by intro f; simp only [AV.cells, List.map_cons, List.map_append, List.sum_cons, List.sum_append, List.map_nil, List.sum_nil]; omega)) ?_
  have o5 : OwnSl w5 (((us.take i).map (TE.mp coN)).map entN).flatten i 4 hw := by subst hi; exact .inl ⟨hw5, rfl, rfl, hhw⟩
  have hle : i ≤ us.length := by omega
  clear hi hw5 hhw
  induction hk : us.length - i using Nat.strongRecOn generalizing i w5 hw with | _ k ih => ?_
  apply WL.step
  repeat' (first
    | apply WOps.nil | apply WC.seq | apply WC.reg | apply WC.skip | apply WC.ret | apply WC.exit | apply WC.block | (apply WOps.cmp; rfl; rfl; rfl; rfl; intro _ _) | (apply WOps.purG; rfl; (intro _; rfl)) | (apply WC.condA; rfl; all_goals (intro hb; try subst hb)))
  · have hlt : i < us.length := by
      have h0 := ‹true = true ↔ cmpP BinOp.lss (Int.ofNat i) (Int.ofNat us.length)›
      simp [cmpP] at h0; omega
    have hcm : (us.map rowN)[i]? = some (rowN us[i]) := by rw [List.getElem?_map, List.getElem?_eq_getElem hlt]; rfl
    repeat' (first
      | apply WOps.nil | apply WC.reg | (apply WOps.ldG; rfl; rfl; (first | exact ld0 rfl | exact ld1 rfl | exact ld2 rfl); rfl) | (apply WOps.st; rfl; rfl; (first | exact tk0 | exact tk1 | exact tk2); rfl; (first | rfl | ((repeat' (first | exact ac0 | apply ac1)) <;> (first | rfl | assumption))); rfl) | (apply WOps.alc; rfl; intro _) | (apply WOps.bsl; rfl; (first | rfl | ((repeat' (first | exact ac0 | apply ac1)) <;> (first | rfl | assumption))); intro _) | (apply WOps.ixSl; rfl; rfl; rfl; exact SlIs.cons (SlIs.right (SlIs.left (rows_slN o'))); exact hcm; intro ax hax) | (apply WOps.ldG; rfl; rfl; exact hax; rfl) | (apply WOps.cvR; rfl; rfl; rfl; exact told36_ok; rintro _ rfl) | (apply WOps.purG; rfl; (intro _; rfl)))
    rename_i p7 q
    refine WOps.app (n := i) rfl rfl rfl o5 (List.perm_append_comm_assoc [_, _, _] hw (h' ++ H)) (src_one Tk.head rfl) (entsN_cell _) rfl rfl (by omega) ?_
    intro v2 h2 o2
    repeat' (first
      | apply WOps.nil | apply WC.reg | (apply WOps.addN; rfl; rfl; rfl; omega) | (apply WOps.purG; rfl; (intro _; rfl)))
    refine WL.le (t' := [(3, .ptr ⟨false, p3, 0⟩), (5, v2), (9, r), (10, .int .i64 (.ofNat us.length)), (11, .int .i64 (.ofNat (i + 1)))]) (Sub1.cons rfl (Sub1.cons rfl (Sub1.cons rfl (Sub1.cons rfl (Sub1.cons rfl Sub1.nil))))) ?_
    refine WL.lessP (H1 := (p3, .row [.fn (.func 36) [] []]) :: (h2 ++ (h' ++ H))) (subF (by intro f; simp only [AV.cells, List.append_eq, List.map_cons, List.map_nil, List.sum_nil, List.map_append, List.sum_cons, List.sum_append, List.cons_append, List.nil_append, List.append_assoc, List.append_nil]; omega)) ?_
    refine ih _ (by omega) (i + 1) v2 h2 ?_ (by omega) rfl
    rw [List.take_succ_eq_append_getElem hlt, List.map_append, List.map_append, List.flatten_append]
    exact o2
  · have hge : ¬ i < us.length := by
      have h0 := ‹false = true ↔ cmpP BinOp.lss (Int.ofNat i) (Int.ofNat us.length)›
      simp [cmpP] at h0; omega
    obtain rfl : i = us.length := by omega
    rw [List.take_length] at o5
    exact ⟨trivial, [_], ⟨_, [], rfl, rfl, rfl⟩, _, ⟨hw, o5, rfl⟩, subF (by intro f; simp only [AV.cells, List.append_eq, List.map_cons, List.map_nil, List.sum_nil, List.map_append, List.sum_cons, List.sum_append, List.cons_append, List.nil_append, List.append_assoc, List.append_nil]; omega)⟩
theorem entsC_len : ∀ (es : List (TE KC)), (es.map entC).flatten.length = es.length * 7 := by
  intro es
  induction es with
  | nil => rfl
  | cons e es ih => rw [List.map_cons, List.flatten_cons, List.length_append, ih, List.length_cons, show (entC e).length = 7 from rfl]; omega
theorem entsC_cell : ∀ (es : List (TE KC)), allCell (es.map entC).flatten = true := by
  intro es
  rw [allCell_iff]
  intro v hv
  simp only [List.mem_flatten, List.mem_map] at hv
  obtain ⟨_, ⟨e, _, rfl⟩, hv⟩ := hv
  exact (allCell_iff (entC e)).1 rfl v hv
theorem entsC_sl {v : AV} {es : List (TE KC)} {h : HL} (o : OwnSl v (es.map entC).flatten es.length 7 h) : SlIs B h v 7 (es.map entC) := by
  have o2 : OwnSl v (es.map entC).flatten (es.map entC).length 7 h := by simpa using o
  exact OwnSl.sl o2 (by intro c hc; simp only [List.mem_map] at hc; obtain ⟨e, _, rfl⟩ := hc; rfl)
set_option maxHeartbeats 1000000 in
theorem all40_ok {H R : HL} {a M : Nat} {last : Int} {us : List (TE CV)} (hm : 1 ≤ M) (hn : us.length ≤ 1000) (t : TbC H a M us last R) :
    WF B tab (.func 40) [.ptr ⟨false, a, 0⟩, .agg [.fn (.func 41) [] []]] H fun r H' => ∃ h', OwnSl r ((us.map (TE.mp coC)).map entC).flatten us.length 7 h' ∧ H' = h' ++ H := by
  obtain ⟨v, h0, h1, h2, h3, h4⟩ := t.rd (B := B)
  refine WF.lessP ?_
  refine WF.fn g40 rfl ?_
  repeat' (first
    | apply WOps.nil | apply WC.seq | apply WC.reg | apply WC.block | (apply WOps.bx; rfl; rfl; (first | rfl | ((repeat' (first | exact ac0 | apply ac1)) <;> (first | rfl | assumption))); intro _) | (apply WOps.clA; rfl; rfl; exact list64_ok h0.cons hm h1.cons h3.cons hn; rintro r _ ⟨h', o', rfl⟩) | (apply WOps.lenO; rfl; rfl; exact o') | (apply WOps.purG; rfl; (intro _; rfl)))
  rename_i p3
  refine WC.loop ?_
  obtain ⟨i, hi⟩ : ∃ i : Nat, i = 0 := ⟨0, rfl⟩
  obtain ⟨w5, hw5⟩ : ∃ v, v = AV.nilsl := ⟨_, rfl⟩
  obtain ⟨hw, hhw⟩ : ∃ h : HL, h = [] := ⟨_, rfl⟩
  refine WL.le (t' := [(3, .ptr ⟨false, p3, 0⟩), (5, w5), (9, r), (10, .int .i64 (.ofNat us.length)), (11, .int .i64 (.ofNat i))]) (by subst hi; subst hw5; exact Sub1.cons rfl (Sub1.cons rfl (Sub1.cons rfl (Sub1.cons rfl (Sub1.cons rfl Sub1.nil))))) ?_
  refine WL.lessP (H1 := (p3, .row [.fn (.func 41) [] []]) :: (hw ++ (h' ++ H))) (by subst hhw; exact subF (by intro f; simp only [AV.cells, List.map_cons, List.map_append, List.sum_cons, List.sum_append, List.map_nil, List.sum_nil]; omega)) ?_
  have o5 : OwnSl w5 (((us.take i).map (TE.mp coC)).map entC).flatten i 7 hw := by subst hi; exact .inl ⟨hw5, rfl, rfl, hhw⟩
  have hle : i ≤ us.length := by omega
  clear hi hw5 hhw
  induction hk : us.length - i using Nat.strongRecOn generalizing i w5 hw with | _ k ih => ?_
  apply WL.step
  repeat' (first
    | apply WOps.nil | apply WC.seq | apply WC.reg | apply WC.skip | apply WC.ret | apply WC.exit | apply WC.block | (apply WOps.cmp; rfl; rfl; rfl; rfl; intro _ _) | (apply WOps.purG; rfl; (intro _; rfl)) | (apply WC.condA; rfl; all_goals (intro hb; try subst hb)))
  · have hlt : i < us.length := by
      have h0 := ‹true = true ↔ cmpP BinOp.lss (Int.ofNat i) (Int.ofNat us.length)›
      simp [cmpP] at h0; omega
    have hcm : (us.map rowC)[i]? = some (rowC us[i]) := by rw [List.getElem?_map, List.getElem?_eq_getElem hlt]; rfl
    repeat' (first
      | apply WOps.nil | apply WC.reg | (apply WOps.ldG; rfl; rfl; (first | exact ld0 rfl | exact ld1 rfl | exact ld2 rfl); rfl) | (apply WOps.st; rfl; rfl; (first | exact tk0 | exact tk1 | exact tk2); rfl; (first | rfl | ((repeat' (first | exact ac0 | apply ac1)) <;> (first | rfl | assumption))); rfl) | (apply WOps.alc; rfl; intro _) | (apply WOps.bsl; rfl; (first | rfl | ((repeat' (first | exact ac0 | apply ac1)) <;> (first | rfl | assumption))); intro _) | (apply WOps.ixSl; rfl; rfl; rfl; exact SlIs.cons (SlIs.right (SlIs.left (rows_slC o'))); exact hcm; intro ax hax) | (apply WOps.ldG; rfl; rfl; exact hax; rfl) | (apply WOps.cvR; rfl; rfl; rfl; exact told41_ok; rintro _ rfl) | (apply WOps.purG; rfl; (intro _; rfl)))
    rename_i p7 q
    refine WOps.app (n := i) rfl rfl rfl o5 (List.perm_append_comm_assoc [_, _, _] hw (h' ++ H)) (src_one Tk.head rfl) (entsC_cell _) rfl rfl (by omega) ?_
    intro v2 h2 o2
    repeat' (first
      | apply WOps.nil | apply WC.reg | (apply WOps.addN; rfl; rfl; rfl; omega) | (apply WOps.purG; rfl; (intro _; rfl)))
    refine WL.le (t' := [(3, .ptr ⟨false, p3, 0⟩), (5, v2), (9, r), (10, .int .i64 (.ofNat us.length)), (11, .int .i64 (.ofNat (i + 1)))]) (Sub1.cons rfl (Sub1.cons rfl (Sub1.cons rfl (Sub1.cons rfl (Sub1.cons rfl Sub1.nil))))) ?_
    refine WL.lessP (H1 := (p3, .row [.fn (.func 41) [] []]) :: (h2 ++ (h' ++ H))) (subF (by intro f; simp only [AV.cells, List.append_eq, List.map_cons, List.map_nil, List.sum_nil, List.map_append, List.sum_cons, List.sum_append, List.cons_append, List.nil_append, List.append_assoc, List.append_nil]; omega)) ?_
    refine ih _ (by omega) (i + 1) v2 h2 ?_ (by omega) rfl
    rw [List.take_succ_eq_append_getElem hlt, List.map_append, List.map_append, List.flatten_append]
    exact o2
  · have hge : ¬ i < us.length := by
      have h0 := ‹false = true ↔ cmpP BinOp.lss (Int.ofNat i) (Int.ofNat us.length)›
      simp [cmpP] at h0; omega
    obtain rfl : i = us.length := by omega
    rw [List.take_length] at o5
    exact ⟨trivial, [_], ⟨_, [], rfl, rfl, rfl⟩, _, ⟨hw, o5, rfl⟩, subF (by intro f; simp only [AV.cells, List.append_eq, List.map_cons, List.map_nil, List.sum_nil, List.map_append, List.sum_cons, List.sum_append, List.cons_append, List.nil_append, List.append_assoc, List.append_nil]; omega)⟩
theorem told9_at {H R : HL} {rp a1 a2 a3 M : Nat} {s : RS} (ok : RsOk M s) (h : RosAt B H rp a1 a2 a3 M s R) :
    WF B tab (.func 9) [.ptr ⟨false, rp, 0⟩] H fun r H' => ∃ h', OwnSl r (s.ns.map entN).flatten s.ns.length 4 h' ∧ H' = h' ++ H := by
  obtain ⟨us, R1, e1, t, back⟩ := h.n
  have hl : us.length ≤ 1000 := by
    have h1 := ok.n1
    have h2 := ok.m2
    rw [← e1, List.length_map] at h1; omega
  refine WF.fn g9 rfl ?_
  repeat' (first
    | apply WOps.nil | apply WC.seq | apply WC.reg | apply WC.skip | apply WC.ret | (apply WC.condF; rfl) | (apply WOps.clR; rfl; rfl; exact none34_ok h.r1; rintro _ rfl) | (apply WOps.ldG; rfl; rfl; exact h.r1; rfl) | (apply WOps.clA; rfl; rfl; exact all35_ok ok.m1 hl t; rintro r _ ⟨h', o', rfl⟩) | (apply WOps.purG; rfl; (intro _; rfl)))
  exact ⟨trivial, [_], ⟨_, [], rfl, rfl, rfl⟩, h', by rw [← e1, List.length_map]; exact o', rfl⟩
theorem told13_at {H R : HL} {rp a1 a2 a3 M : Nat} {s : RS} (ok : RsOk M s) (h : RosAt B H rp a1 a2 a3 M s R) :
    WF B tab (.func 13) [.ptr ⟨false, rp, 0⟩] H fun r H' => ∃ h', OwnSl r (s.cs.map entC).flatten s.cs.length 7 h' ∧ H' = h' ++ H := by
  obtain ⟨us, R1, e1, t, back⟩ := h.c
  have hl : us.length ≤ 1000 := by
    have h1 := ok.n3
    have h2 := ok.m2
    rw [← e1, List.length_map] at h1; omega
  refine WF.fn g13 rfl ?_
  repeat' (first
    | apply WOps.nil | apply WC.seq | apply WC.reg | apply WC.skip | apply WC.ret | (apply WC.condF; rfl) | (apply WOps.clR; rfl; rfl; exact none34_ok h.r1; rintro _ rfl) | (apply WOps.ldG; rfl; rfl; exact h.r3; rfl) | (apply WOps.clA; rfl; rfl; exact all40_ok ok.m1 hl t; rintro r _ ⟨h', o', rfl⟩) | (apply WOps.purG; rfl; (intro _; rfl)))
  exact ⟨trivial, [_], ⟨_, [], rfl, rfl, rfl⟩, h', by rw [← e1, List.length_map]; exact o', rfl⟩
theorem perm_back2 {h2 H : HL} {a b : Nat × AObj} : (h2 ++ (a :: b :: H)).Perm (b :: a :: (h2 ++ H)) :=
  permF (by intro f; simp only [List.map_cons, List.map_append, List.sum_cons, List.sum_append]; omega)
theorem perm_mid3 {h2 hw X : HL} {q a b : Nat × AObj} : (q :: (h2 ++ (a :: b :: (hw ++ X)))).Perm (hw ++ (q :: (h2 ++ (a :: b :: X)))) :=
  permF (by intro f; simp only [List.map_cons, List.map_append, List.sum_cons, List.sum_append]; omega)
theorem told39_ok {H : HL} {v : SV} {mk ix : Int} (hu : SrcIs B H v.tg.a 1 v.tags.length (v.tags.map strC).flatten) (hl : v.tags.length ≤ 8796093021952) :
    WF B tab (.func 39) [.agg (valS v), .int .u64 mk, .int .u64 ix] H fun r H' => ∃ tv h2, r = .agg (svC (coS v) tv mk ix) ∧ OwnSl tv (v.tags.map strC).flatten v.tags.length 1 h2 ∧ H' = h2 ++ H := by
  refine WF.lessP ?_
  refine WF.fn g39 rfl ?_
  have ct := v.tg.c
  repeat' (first
    | apply WOps.nil | apply WC.seq | apply WC.reg | (apply WOps.ldG; rfl; rfl; (first | exact ld0 rfl | exact ld1 rfl | exact ld2 rfl); rfl) | (apply WOps.st; rfl; rfl; (first | exact tk0 | exact tk1 | exact tk2); rfl; (first | rfl | ((repeat' (first | exact ac0 | apply ac1)) <;> (first | rfl | assumption))); rfl) | (apply WOps.alc; rfl; intro _) | (apply WOps.bx; rfl; rfl; (first | rfl | ((repeat' (first | exact ac0 | apply ac1)) <;> (first | rfl | assumption))); intro _) | (apply WOps.bsl; rfl; (first | rfl | ((repeat' (first | exact ac0 | apply ac1)) <;> (first | rfl | assumption))); intro _) | (apply WOps.purG; rfl; (intro _; rfl)))
  rename_i p3 p6 q
  refine WOps.app (h := [(q, .row [])]) (cells := []) (n := 0) rfl rfl rfl (.inr ⟨q, rfl, rfl, rfl⟩) (List.Perm.refl _) (src_cons (src_cons (src_cons hu))) rfl (strs_cell _) (strs_len _) (by omega) ?_
  intro v2 h2 o2
  have o3 : OwnSl v2 (v.tags.map strC).flatten v.tags.length 1 h2 := by simpa using o2
  have c2 := o3.cell
  repeat' (first
    | (apply WOps.purG; rfl; (intro _; rfl)))
  refine WOps.st (cs := svC (coS v) v.tg.a mk ix) (cs' := svC (coS v) v2 mk ix) rfl rfl List.perm_middle (by rw [o3.cells]; rfl) (by rw [o3.cells]; exact allCell_cons o3.cell allCell_nil) (by rw [o3.cells]; rfl) ?_
  repeat' (first
    | apply WOps.nil | apply WC.seq | apply WC.reg | (apply WOps.ldG; rfl; rfl; (first | exact ld0 rfl | exact ld1 rfl | exact ld2 rfl); rfl))
  refine WOps.st (v := .agg (svC (coS v) v2 mk ix)) (cs' := svC (coS v) v2 mk ix) rfl rfl (Tk.tail List.perm_middle) rfl ?_ rfl ?_
  · repeat' (first | exact ac0 | apply ac1)
    all_goals first | rfl | assumption
  repeat' (first
    | apply WOps.nil | apply WC.ret)
  refine ⟨trivial, [_], ⟨_, [], rfl, ⟨_, _, rfl, Ld.own Tk.head rfl, rfl⟩, rfl⟩, h2 ++ H, ⟨v2, h2, rfl, o3, rfl⟩, ?_⟩
  exact SubP.of ((List.sublist_cons_self _ _).trans (List.sublist_cons_self _ _))
/-- Cells of services that are told. -/
def entP (ps : List (TE KS × AV)) : List AV := (ps.map fun p => entS p.1 p.2).flatten
def PsIn (B : Nat → List AV) (G : HL) (ps : List (TE KS × AV)) : Prop := ∀ p, p ∈ ps → TgIn B G p.2 p.1.v.tags
theorem entP_len (ps : List (TE KS × AV)) : (entP ps).length = ps.length * 7 := by
  induction ps with
  | nil => rfl
  | cons e es ih =>
    unfold entP at *
    rw [List.map_cons, List.flatten_cons, List.length_append, ih, List.length_cons, show (entS e.1 e.2).length = 7 from rfl]; omega
theorem entP_cell {G : HL} {ps : List (TE KS × AV)} (h : PsIn B G ps) : allCell (entP ps) = true := by
  rw [allCell_iff]
  intro v hv
  simp only [entP, List.mem_flatten, List.mem_map] at hv
  obtain ⟨_, ⟨e, he, rfl⟩, hv⟩ := hv
  have c := (h e he).1.cell
  simp only [entS, svC, List.mem_cons, List.not_mem_nil, or_false] at hv
  rcases hv with rfl | rfl | rfl | rfl | rfl | rfl | rfl
  all_goals first | rfl | exact c
theorem entP_sl {v : AV} {ps : List (TE KS × AV)} {h : HL} (o : OwnSl v (entP ps) ps.length 7 h) : SlIs B h v 7 (ps.map fun p => entS p.1 p.2) := by
  refine OwnSl.sl (xs := ps.map fun p => entS p.1 p.2) (by rw [List.length_map]; exact o) ?_
  intro c hc
  obtain ⟨p, _, rfl⟩ := List.mem_map.1 hc
  rfl
theorem entP_app {ps : List (TE KS × AV)} {p : TE KS × AV} : entP (ps ++ [p]) = entP ps ++ entS p.1 p.2 := by simp [entP]
theorem PsIn.right {G X : HL} {ps : List (TE KS × AV)} (h : PsIn B G ps) : PsIn B (X ++ G) ps := fun p hp => (h p hp).right
set_option maxHeartbeats 2000000 in
theorem all38_ok {H R G : HL} {a M : Nat} {last : Int} {us : List (TE SV)} (hm : 1 ≤ M) (hn : us.length ≤ 1000) (t : TbS H a M us last R) (tg : TagsIn B G us) (tR : ∀ a l, TgIn B G a l → TgIn B H a l) (hl : ∀ e, e ∈ us → e.v.tags.length ≤ 4) :
    WF B tab (.func 38) [.ptr ⟨false, a, 0⟩, .agg [.fn (.func 39) [] []]] H fun r H' => ∃ h' G' ps, ps.map (·.1) = us.map (fun e => (⟨[], coS e.v, e.mke, e.ix⟩ : TE KS)) ∧ OwnSl r (entP ps) ps.length 7 h' ∧ PsIn B G' ps ∧ H' = h' ++ (G' ++ H) := by
  obtain ⟨v, h0, h1, h2, h3, h4⟩ := t.rd (B := B)
  refine WF.lessP ?_
  refine WF.fn g38 rfl ?_
  repeat' (first
    | apply WOps.nil | apply WC.seq | apply WC.reg | apply WC.block | (apply WOps.bx; rfl; rfl; (first | rfl | ((repeat' (first | exact ac0 | apply ac1)) <;> (first | rfl | assumption))); intro _) | (apply WOps.clA; rfl; rfl; exact list63_ok h0.cons hm h1.cons h3.cons hn; rintro r _ ⟨h', o', rfl⟩) | (apply WOps.lenO; rfl; rfl; exact o') | (apply WOps.purG; rfl; (intro _; rfl)))
  rename_i p3
  refine WC.loop ?_
  obtain ⟨ps, hps⟩ : ∃ ps : List (TE KS × AV), ps = [] := ⟨[], rfl⟩
  obtain ⟨w5, hw5⟩ : ∃ v, v = AV.nilsl := ⟨_, rfl⟩
  obtain ⟨hw, hhw⟩ : ∃ h : HL, h = [] := ⟨_, rfl⟩
  obtain ⟨G2, hG2⟩ : ∃ h : HL, h = [] := ⟨_, rfl⟩
  refine WL.le (t' := [(3, .ptr ⟨false, p3, 0⟩), (5, w5), (9, r), (10, .int .i64 (.ofNat us.length)), (11, .int .i64 (.ofNat ps.length))]) (by subst hps; subst hw5; exact Sub1.cons rfl (Sub1.cons rfl (Sub1.cons rfl (Sub1.cons rfl (Sub1.cons rfl Sub1.nil))))) ?_
  refine WL.lessP (H1 := (p3, .row [.fn (.func 39) [] []]) :: (hw ++ (G2 ++ (h' ++ H)))) (by subst hhw hG2; exact subF (by intro f; simp only [AV.cells, List.map_cons, List.map_append, List.sum_cons, List.sum_append, List.map_nil, List.sum_nil]; omega)) ?_
  have o5 : OwnSl w5 (entP ps) ps.length 7 hw := by subst hps; exact .inl ⟨hw5, rfl, rfl, hhw⟩
  have hin : PsIn B G2 ps := by subst hps; intro p hp; cases hp
  have hle : ps.length ≤ us.length := by subst hps; simp
  have hmap : ps.map (·.1) = (us.take ps.length).map (fun e => (⟨[], coS e.v, e.mke, e.ix⟩ : TE KS)) := by subst hps; rfl
  clear hps hw5 hhw hG2
  induction hk : us.length - ps.length using Nat.strongRecOn generalizing ps w5 hw G2 with | _ k ih => ?_
  apply WL.step
  repeat' (first
    | apply WOps.nil | apply WC.seq | apply WC.reg | apply WC.skip | apply WC.ret | apply WC.exit | apply WC.block | (apply WOps.cmp; rfl; rfl; rfl; rfl; intro _ _) | (apply WOps.purG; rfl; (intro _; rfl)) | (apply WC.condA; rfl; all_goals (intro hb; try subst hb)))
  · have hlt : ps.length < us.length := by
      have h0 := ‹true = true ↔ cmpP BinOp.lss (Int.ofNat ps.length) (Int.ofNat us.length)›
      simp [cmpP] at h0; omega
    have hcm : (us.map rowS)[ps.length]? = some (rowS us[ps.length]) := by rw [List.getElem?_map, List.getElem?_eq_getElem hlt]; rfl
    have ct := us[ps.length].v.tg.c
    have hu := tR _ _ (tg _ (List.getElem_mem hlt))
    have hu4 := hl _ (List.getElem_mem hlt)
    have ht2 : ∀ {z : Nat × AObj}, SrcIs B (z :: (p3, .row [.fn (.func 39) [] []]) :: (hw ++ (G2 ++ (h' ++ H)))) us[ps.length].v.tg.a 1 us[ps.length].v.tags.length (us[ps.length].v.tags.map strC).flatten := src_cons (src_cons (SrcIs.right (SrcIs.right (SrcIs.right hu.2))))
    repeat' (first
      | apply WOps.nil | apply WC.reg | (apply WOps.ldG; rfl; rfl; (first | exact ld0 rfl | exact ld1 rfl | exact ld2 rfl); rfl) | (apply WOps.st; rfl; rfl; (first | exact tk0 | exact tk1 | exact tk2); rfl; (first | rfl | ((repeat' (first | exact ac0 | apply ac1)) <;> (first | rfl | assumption))); rfl) | (apply WOps.alc; rfl; intro _) | (apply WOps.bsl; rfl; (first | rfl | ((repeat' (first | exact ac0 | apply ac1)) <;> (first | rfl | assumption))); intro _) | (apply WOps.ixSl; rfl; rfl; rfl; exact SlIs.cons (SlIs.right (SlIs.right (SlIs.left (rows_slS o')))); exact hcm; intro ax hax) | (apply WOps.ldG; rfl; rfl; exact hax; rfl) | (apply WOps.cvA; rfl; rfl; rfl; exact told39_ok ht2 (by omega); rintro _ _ ⟨tv, h2, rfl, o2, rfl⟩; have c2 := o2.cell) | (apply WOps.purG; rfl; (intro _; rfl)))
    rename_i p7 q
    refine WOps.app (n := ps.length) rfl rfl rfl o5 perm_mid3 (src_one Tk.head rfl) (entP_cell hin) ?_ rfl (by omega) ?_
    · repeat' (first | exact ac0 | apply ac1)
      all_goals first | rfl | assumption
    intro v2 h3 o3
    repeat' (first
      | apply WOps.nil | apply WC.reg | (apply WOps.addN; rfl; rfl; rfl; omega) | (apply WOps.purG; rfl; (intro _; rfl)))
    have ol : (ps ++ [((⟨[], coS us[ps.length].v, us[ps.length].mke, us[ps.length].ix⟩ : TE KS), tv)]).length = ps.length + 1 := by simp
    refine WL.le (t' := [(3, .ptr ⟨false, p3, 0⟩), (5, v2), (9, r), (10, .int .i64 (.ofNat us.length)), (11, .int .i64 (.ofNat (ps ++ [((⟨[], coS us[ps.length].v, us[ps.length].mke, us[ps.length].ix⟩ : TE KS), tv)]).length))]) (by rw [ol]; exact Sub1.cons rfl (Sub1.cons rfl (Sub1.cons rfl (Sub1.cons rfl (Sub1.cons rfl Sub1.nil))))) ?_
    refine WL.lessP (H1 := (p3, .row [.fn (.func 39) [] []]) :: (h3 ++ ((h2 ++ G2) ++ (h' ++ H)))) (subF (by intro f; simp only [AV.cells, List.append_eq, List.map_cons, List.map_nil, List.sum_nil, List.map_append, List.sum_cons, List.sum_append, List.cons_append, List.nil_append, List.append_assoc, List.append_nil]; omega)) ?_
    refine ih _ (by rw [ol]; omega) (ps ++ [_]) v2 h3 (h2 ++ G2) ?_ ?_ (by rw [ol]; omega) ?_ rfl
    · rw [ol, entP_app]; exact o3
    · intro p hp
      rcases List.mem_append.1 hp with hp | hp
      · exact (hin p hp).right
      · simp at hp; subst hp; exact (strs_in o2).left
    · rw [ol, List.map_append, hmap, List.take_succ_eq_append_getElem hlt, List.map_append]; rfl
  · have hge : ¬ ps.length < us.length := by
      have h0 := ‹false = true ↔ cmpP BinOp.lss (Int.ofNat ps.length) (Int.ofNat us.length)›
      simp [cmpP] at h0; omega
    have e : ps.length = us.length := by omega
    rw [e, List.take_length] at hmap
    exact ⟨trivial, [_], ⟨_, [], rfl, rfl, rfl⟩, _, ⟨hw, G2, ps, hmap, o5, hin, rfl⟩, subF (by intro f; simp only [AV.cells, List.append_eq, List.map_cons, List.map_nil, List.sum_nil, List.map_append, List.sum_cons, List.sum_append, List.cons_append, List.nil_append, List.append_assoc, List.append_nil]; omega)⟩
theorem told11_at {H R : HL} {rp a1 a2 a3 M : Nat} {s : RS} (ok : RsOk M s) (h : RosAt B H rp a1 a2 a3 M s R) :
    WF B tab (.func 11) [.ptr ⟨false, rp, 0⟩] H fun r H' => ∃ h' G' ps, ps.map (·.1) = s.ss.map (fun e => (⟨[], e.v, e.mke, e.ix⟩ : TE KS)) ∧ OwnSl r (entP ps) ps.length 7 h' ∧ PsIn B G' ps ∧ H' = h' ++ (G' ++ H) := by
  obtain ⟨us, G, R1, e1, tg, t, back⟩ := h.s
  have hl : us.length ≤ 1000 := by
    have h1 := ok.n2
    have h2 := ok.m2
    rw [← e1, List.length_map] at h1; omega
  have hl4 : ∀ e, e ∈ us → e.v.tags.length ≤ 4 := fun e he => ok.t (e.mp coS) (by rw [← e1]; exact List.mem_map_of_mem he)
  have tR : ∀ a l, TgIn B G a l → TgIn B H a l := fun a l q => by
    obtain ⟨v, hs, o, p⟩ := t
    exact TgIn.perm p (TgIn.cons (TgIn.right (TgIn.left q)))
  refine WF.fn g11 rfl ?_
  repeat' (first
    | apply WOps.nil | apply WC.seq | apply WC.reg | apply WC.skip | apply WC.ret | (apply WC.condF; rfl) | (apply WOps.clR; rfl; rfl; exact none34_ok h.r1; rintro _ rfl) | (apply WOps.ldG; rfl; rfl; exact h.r2; rfl) | (apply WOps.clA; rfl; rfl; exact all38_ok ok.m1 hl t tg tR hl4; rintro r _ ⟨h', G', ps, hp, o', hin, rfl⟩) | (apply WOps.purG; rfl; (intro _; rfl)))
  refine ⟨trivial, [_], ⟨_, [], rfl, rfl, rfl⟩, h', G', ps, ?_, o', hin, rfl⟩
  rw [hp, ← e1, List.map_map]
  rfl
end Go.Proofs.Ytgpnpcahcegadaa.RO
