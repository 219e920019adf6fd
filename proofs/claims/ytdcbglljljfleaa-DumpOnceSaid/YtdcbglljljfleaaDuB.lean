/- What the functions do, shown by the logic. -/
import Derived.Test.YtdcbglljljfleaaDuA
set_option linter.unusedSimpArgs false
set_option linter.unusedVariables false
set_option linter.unusedSectionVars false
set_option maxRecDepth 20000
namespace Go.Proofs.Ytdcbglljljfleaa.DU
open Go.Proofs.Ytdcbglljljfleaa.Abs
variable {B : Nat → List AV}
/-! ### Readers: the bytes that are left, and what was wrong first -/
abbrev St := List Nat × Nat
def StOk (s : St) : Prop := byL s.1 ∧ s.1.length ≤ 4611686018427387904
def rrow : Bool → AV → Nat → List AV
 | true, v, e => [.bool true, v, .int .i64 (.ofNat e)]
 | false, v, e => [v, .int .i64 (.ofNat e)]
def RdAt (B : Nat → List AV) (k : Bool) (H : HL) (p : Nat) (s : St) (Y R : HL) : Prop := ∃ v, SrcIs B Y v 1 s.1.length (cellsOfStr s.1) ∧ StOk s ∧ H.Perm ((p, .row (rrow k v s.2)) :: (Y ++ R))
theorem RdAt.ok {k : Bool} {H Y R : HL} {p : Nat} {s : St} (h : RdAt B k H p s Y R) : StOk s := by
 obtain ⟨v, _, o, _⟩ := h; exact o
theorem RdAt.permR {k : Bool} {H Y R R' : HL} {p : Nat} {s : St} (h : RdAt B k H p s Y R) (q : R.Perm R') : RdAt B k H p s Y R' := by
 obtain ⟨v, a, o, r⟩ := h
 exact ⟨v, a, o, r.trans ((q.append_left Y).cons _)⟩
theorem RdAt.app {k : Bool} {H Y R : HL} {p : Nat} {s : St} (h : RdAt B k H p s Y R) (X : HL) : RdAt B k (X ++ H) p s Y (X ++ R) := by
 obtain ⟨v, a, o, r⟩ := h
 exact ⟨v, a, o, (r.append_left X).trans (permF (by intro f; simp only [AV.cells, pm] <;> omega))⟩
theorem RdAt.cons {k : Bool} {H Y R : HL} {p : Nat} {s : St} {x : Nat × AObj} (h : RdAt B k H p s Y R) : RdAt B k (x :: H) p s Y (x :: R) := h.app [x]
theorem RdAt.less {k : Bool} {H Y R R1 : HL} {p : Nat} {s : St} (h : RdAt B k H p s Y R) (q : SubP R1 R) : ∃ H3, RdAt B k H3 p s Y R1 ∧ SubP H3 H := by
 obtain ⟨v, a, o, r⟩ := h
 obtain ⟨G, pg⟩ := q
 refine ⟨_, ⟨v, a, o, List.Perm.refl _⟩, G, r.trans ?_⟩
 refine permF fun f => ?_
 have := sum_perm pg f
 simp only [List.cons_append, List.map_cons, List.map_append, List.sum_cons, List.sum_append] at this ⊢
 omega
theorem RdAt.ld {k : Bool} {H Y R : HL} {p n : Nat} {s : St} {a : AA} {l : List AV} (h : RdAt B k H p s Y R) (q : Ld B R a n l) : Ld B H a n l := by
 obtain ⟨v, _, o, r⟩ := h
 exact Ld.perm r (Ld.right q).cons
theorem RdAt.ldE {H Y R : HL} {p : Nat} {s : St} (h : RdAt B true H p s Y R) : Ld B H ⟨false, p, 2⟩ 1 [.int .i64 (.ofNat s.2)] := by
 obtain ⟨v, _, o, r⟩ := h
 exact Ld.perm r (Ld.own Tk.head rfl)
theorem RdAt.heq {k : Bool} {H Y R : HL} {p : Nat} {s s' : St} (h : RdAt B k H p s Y R) (e : s = s') : RdAt B k H p s' Y R := e ▸ h
/-! What is read. -/
def numS (most : Nat) (s : St) : Nat × St :=
 if s.2 = 0 then if (rdN s.1).2.2 = 0 then if (rdN s.1).1 ≤ most then ((rdN s.1).1, (s.1.drop (rdN s.1).2.1, 0)) else (0, (s.1, 3)) else (0, (s.1, (rdN s.1).2.2)) else (0, s)
theorem numS_a {most : Nat} {s : St} (h : s.2 ≠ 0) : numS most s = (0, s) := by rw [numS, if_neg h]
theorem numS_b {most n k e : Nat} {bs : List Nat} (h : rdN bs = (n, k, e)) (he : e ≠ 0) : numS most (bs, 0) = (0, (bs, e)) := by
 rw [numS, if_pos rfl]; simp only [h]; rw [if_neg he]
theorem numS_c {most n k : Nat} {bs : List Nat} (h : rdN bs = (n, k, 0)) (he : most < n) : numS most (bs, 0) = (0, (bs, 3)) := by
 rw [numS, if_pos rfl]; simp only [h]; rw [if_pos trivial, if_neg (by omega)]
theorem numS_d {most n k : Nat} {bs : List Nat} (h : rdN bs = (n, k, 0)) (he : n ≤ most) : numS most (bs, 0) = (n, (bs.drop k, 0)) := by
 rw [numS, if_pos rfl]; simp only [h]; rw [if_pos trivial, if_pos he]
theorem StOk.drop {bs : List Nat} {e e' : Nat} (h : StOk (bs, e)) (n : Nat) : StOk (bs.drop n, e') := ⟨h.1.drop n, by have := h.2; simp only [List.length_drop] at *; omega⟩
theorem StOk.err {bs : List Nat} {e e' : Nat} (h : StOk (bs, e)) : StOk (bs, e') := h
theorem numS_ok {most : Nat} {s : St} (h : StOk s) : StOk (numS most s).2 ∧ (numS most s).1 ≤ most ∧ (numS most s).1 < 18446744073709551616 := by
 obtain ⟨bs, e⟩ := s
 have := (rdN_lt (l := bs) h.1).1
 unfold numS
 split
 ·split
  ·split
   ·exact ⟨h.drop _, by simp only; assumption, this⟩
   ·exact ⟨h, by simp, by simp⟩
  ·exact ⟨h, by simp, by simp⟩
 ·exact ⟨h, by simp, by simp⟩
theorem src_cell {H : HL} {v : AV} {n m : Nat} {l : List AV} (h : SrcIs B H v n m l) : v.isCell = true := by
 rcases h with ⟨rfl, _⟩ | ⟨a, rfl, _⟩ <;> rfl
theorem cells1 {v : AV} (h : v.isCell = true) : v.cells = [v] := by cases v <;> first | rfl | cases h
theorem src_drop {H : HL} {a : AA} {l : List Nat} (h : Ld B H a l.length (cellsOfStr l)) (k : Nat) (hk : k ≤ l.length) : SrcIs B H (.sl ⟨a.ro, a.id, a.off + k * 1⟩ (l.length - k) 1) 1 (l.drop k).length (cellsOfStr (l.drop k)) := by
 have := src_part h k (l.length - k) (by omega)
 rw [List.take_of_length_le (by rw [List.length_drop]; omega)] at this
 rw [Nat.mul_one]; exact this
theorem num100 {H : HL} {v : AV} {bs : List Nat} {n k e : Nat} (hs : SrcIs B H v 1 bs.length (cellsOfStr bs)) (ok : StOk (bs, e)) {e' : Nat} (hr : rdN bs = (n, k, e')) :
  WF B tab (.func 100) [v] H fun r H' => H' = H ∧ r = .tup [.int .u64 (.ofNat n), .int .i64 (.ofNat k), .int .i64 (.ofNat e')] := (number100_ok hs ok.1 ok.2).mono fun r _ h => ⟨h.1, by rw [h.2, numR_of hr]⟩
theorem stands97_no {p e : Nat} {v : AV} {R : HL} (he : e ≠ 0) : WF B tab (.func 97) [.ptr ⟨false, p, 0⟩] ((p, .row (rrow true v e)) :: R) fun r H' => H' = (p, .row (rrow true v e)) :: R ∧ r = .bool false := by
 refine WF.fnR g97 rfl ?_
 repeat' (first
  | apply WOps.nil | apply WC.seq | apply WC.reg | apply WC.ret | (apply WOps.ldG; rfl; rfl; (first | exact ld0 rfl | exact ld1 rfl | exact ld2 rfl); rfl) | (apply WOps.cF; rfl; rfl; rfl; rfl; focus (simp only [cmpP, Int.ofNat_eq_natCast, List.length_cons, List.length_map, List.length_nil, Classical.not_not, not_true_eq_false, not_false_eq_true]; first | done | omega | decide)) | (apply WOps.purG; rfl; (intro _; rfl)))
 exact ⟨trivial, List.Sublist.refl _, [_], ⟨_, _, rfl, rfl, rfl⟩, rfl⟩
theorem stands97_ok {p : Nat} {v : AV} {R : HL} : WF B tab (.func 97) [.ptr ⟨false, p, 0⟩] ((p, .row (rrow true v 0)) :: R) fun r H' => H' = (p, .row (rrow true v 0)) :: R ∧ r = .bool true := by
 refine WF.fnR g97 rfl ?_
 repeat' (first
  | apply WOps.nil | apply WC.seq | apply WC.reg | apply WC.ret | (apply WOps.ldG; rfl; rfl; (first | exact ld0 rfl | exact ld1 rfl | exact ld2 rfl); rfl) | (apply WOps.cT; rfl; rfl; rfl; rfl; focus (simp only [cmpP, Int.ofNat_eq_natCast, List.length_cons, List.length_map, List.length_nil, Classical.not_not, not_true_eq_false, not_false_eq_true]; first | done | omega | decide)) | (apply WOps.purG; rfl; (intro _; rfl)))
 exact ⟨trivial, List.Sublist.refl _, [_], ⟨_, _, rfl, rfl, rfl⟩, rfl⟩
theorem fail101_ok {p e e' : Nat} {v : AV} {R : HL} : WF B tab (.func 101) [.ptr ⟨false, p, 0⟩, .int .i64 (.ofNat e')] ((p, .row (rrow true v e)) :: R) fun _ H' => H' = (p, .row (rrow true v e')) :: R := by
 refine WF.fn g101 rfl ?_
 repeat' (first
  | apply WOps.nil | apply WC.reg | (apply WOps.st; rfl; rfl; (first | exact tk0 | exact tk1 | exact tk2); rfl; (· repeat' (first | rfl | assumption | apply ac1)); rfl) | (apply WOps.purG; rfl; (intro _; rfl)))
 exact ⟨trivial, [], rfl, rfl⟩
set_option maxHeartbeats 1000000 in
theorem num74_ok {H Y R : HL} {p most : Nat} {s : St} (h : RdAt B true H p s Y R) :
  WF B tab (.func 74) [.ptr ⟨false, p, 0⟩, .int .u64 (.ofNat most)] H fun r H' => r = .int .u64 (.ofNat (numS most s).1) ∧ RdAt B true H' p (numS most s).2 Y R := by
 obtain ⟨v, sr, ok, pm⟩ := h
 obtain ⟨bs, e⟩ := s
 dsimp only at sr pm
 refine WF.perm pm ?_
 refine WF.fn g74 rfl ?_
 by_cases he : e = 0
 ·subst he
  obtain ⟨n, k, e, hr⟩ : ∃ n k e, rdN bs = (n, k, e) := ⟨_, _, _, rfl⟩
  have src : SrcIs B ((p, .row (rrow true v 0)) :: (Y ++ R)) v 1 bs.length (cellsOfStr bs) := src_cons (SrcIs.left sr)
  have hk := rdN_lt (l := bs) ok.1
  rw [hr] at hk
  by_cases h1 : e = 0
  ·subst h1
   by_cases h2 : most < n
   ·repeat' (first
     | apply WOps.nil | apply WC.seq | apply WC.reg | apply WC.skip | apply WC.ret | (apply WC.condT; rfl) | (apply WC.condF; rfl) | (apply WOps.ldG; rfl; rfl; (first | exact ld0 rfl | exact ld1 rfl | exact ld2 rfl); rfl) | (apply WOps.cT; rfl; rfl; rfl; rfl; focus (simp only [cmpP, Int.ofNat_eq_natCast, List.length_cons, List.length_map, List.length_nil, Classical.not_not, not_true_eq_false, not_false_eq_true]; first | done | omega | decide)) | (apply WOps.clR; rfl; rfl; exact stands97_ok; intro _ hv; subst hv) | (apply WOps.clR; rfl; rfl; exact num100 src ok hr; intro _ hv; subst hv) | (apply WOps.clA; rfl; rfl; exact fail101_ok; intro _ H1 h1; subst h1) | (apply WOps.purG; rfl; (intro _; rfl)))
    exact ⟨trivial, [_], ⟨_, _, rfl, rfl, rfl⟩, by rw [numS_c hr h2]; exact ⟨rfl, v, sr, ok.err, List.Perm.refl _⟩⟩
   ·have hkk := hk.2.1 rfl
    obtain ⟨a, rfl, ld⟩ := src_ptr sr (by simp only at hkk; omega)
    repeat' (first
     | apply WOps.nil | apply WC.seq | apply WC.reg | apply WC.skip | apply WC.ret | (apply WC.condF; rfl) | (apply WOps.ldG; rfl; rfl; (first | exact ld0 rfl | exact ld1 rfl | exact ld2 rfl); rfl) | (apply WOps.st; rfl; rfl; (first | exact tk0 | exact tk1 | exact tk2); rfl; (· repeat' (first | rfl | assumption | apply ac1)); rfl) | (apply WOps.cT; rfl; rfl; rfl; rfl; focus (simp only [cmpP, Int.ofNat_eq_natCast, List.length_cons, List.length_map, List.length_nil, Classical.not_not, not_true_eq_false, not_false_eq_true]; first | done | omega | decide)) | (apply WOps.cF; rfl; rfl; rfl; rfl; focus (simp only [cmpP, Int.ofNat_eq_natCast, List.length_cons, List.length_map, List.length_nil, Classical.not_not, not_true_eq_false, not_false_eq_true]; first | done | omega | decide)) | (apply WOps.clR; rfl; rfl; exact stands97_ok; intro _ hv; subst hv) | (apply WOps.clR; rfl; rfl; exact num100 src ok hr; intro _ hv; subst hv) | (apply WOps.slP; rfl; rfl; rfl; rfl; rfl; exact bounds_lo hkk.2.1) | (apply WOps.purG; rfl; (intro _; rfl)))
    exact ⟨trivial, [_], ⟨_, _, rfl, rfl, rfl⟩, by rw [numS_d hr (by omega)]; exact ⟨rfl, _, src_drop ld k hkk.2.1, ok.drop _, List.Perm.refl _⟩⟩
  ·repeat' (first
    | apply WOps.nil | apply WC.seq | apply WC.reg | apply WC.skip | apply WC.ret | (apply WC.condT; rfl) | (apply WC.condF; rfl) | (apply WOps.ldG; rfl; rfl; (first | exact ld0 rfl | exact ld1 rfl | exact ld2 rfl); rfl) | (apply WOps.cT; rfl; rfl; rfl; rfl; focus (simp only [cmpP, Int.ofNat_eq_natCast, List.length_cons, List.length_map, List.length_nil, Classical.not_not, not_true_eq_false, not_false_eq_true]; first | done | omega | decide)) | (apply WOps.cF; rfl; rfl; rfl; rfl; focus (simp only [cmpP, Int.ofNat_eq_natCast, List.length_cons, List.length_map, List.length_nil, Classical.not_not, not_true_eq_false, not_false_eq_true]; first | done | omega | decide)) | (apply WOps.clR; rfl; rfl; exact stands97_ok; intro _ hv; subst hv) | (apply WOps.clR; rfl; rfl; exact num100 src ok hr; intro _ hv; subst hv) | (apply WOps.clA; rfl; rfl; exact fail101_ok; intro _ H1 h1; subst h1) | (apply WOps.purG; rfl; (intro _; rfl)) | (apply WOps.skp; rfl))
   exact ⟨trivial, [_], ⟨_, _, rfl, rfl, rfl⟩, by rw [numS_b hr h1]; exact ⟨rfl, v, sr, ok.err, List.Perm.refl _⟩⟩
 ·repeat' (first
   | apply WOps.nil | apply WC.seq | apply WC.reg | apply WC.ret | (apply WC.condT; rfl) | (apply WOps.clR; rfl; rfl; exact stands97_no he; intro _ hv; subst hv) | (apply WOps.purG; rfl; (intro _; rfl)))
  exact ⟨trivial, [_], ⟨_, _, rfl, rfl, rfl⟩, by rw [numS_a he]; exact ⟨rfl, v, sr, ok, List.Perm.refl _⟩⟩
theorem aop_str {x : AO} {t : EL} {H F : HL} {u : AV} {l : List Nat} {env : Tr AV} {h : AH} (hx : gl t x = some u) (hs : SrcIs B H u 1 l.length (cellsOfStr l)) (hb : byL l) (le : Le t env) (s : Sep h (H ++ F)) : aop B (.cvStr x) env h = .val (.str l) h := by
 rcases hs with ⟨rfl, h0, h1⟩ | ⟨a, rfl, h0⟩
 ·obtain rfl : l = [] := List.length_eq_zero_iff.1 h0
  simp only [aop, rd_mono le hx]
 ·cases l with
  | nil => simp only [aop, rd_mono le hx]; rfl
  | cons c l =>
   rcases h0 with ⟨h0, _⟩ | h0
   ·simp at h0
   ·rw [Nat.mul_one] at h0
    have e1 := h0.cells s
    have e2 := bytesOf_cells hb
    simp only [aop, rd_mono le hx, List.length_cons] at e1 ⊢
    simp only [e1, e2, show Nat.beq 1 1 = true from rfl]
theorem WOps.cvS {T : Tr FnI} {t : EL} {H : HL} {Q : EL → HL → Prop} {os : List AOper} {k : Nat} {g : Option (Nat × Bool)} {x : AO} {u : AV} {l : List Nat} (hg : wantedL g t = some true) (hx : gl t x = some u) (hs : SrcIs B H u 1 l.length (cellsOfStr l)) (hb : byL l)
  (w : WOps B T os ((k, .str l) :: t) H Q) : WOps B T (⟨some k, .cvStr x, g⟩ :: os) t H Q :=
 WOps.go hg fun env h F le s => ⟨_, h, H, w, s, Ev.of fun m => evOp_val (aop_str hx hs hb le s)⟩
theorem WOps.mx80 {T : Tr FnI} {t : EL} {H : HL} {Q : EL → HL → Prop} {os : List AOper} {k m : Nat} {g : Option (Nat × Bool)} {x : AO} {r : List AO} (hg : wantedL g t = some true) (hx : gl t x = some (.int .i64 (.ofNat m))) (hr : gls t r = some [.int .i64 (.ofNat 0)]) (e : aMax true (.int .i64 (.ofNat m)) [.int .i64 (.ofNat 0)] = some (.int .i64 (.ofNat m)))
  (w : WOps B T os ((k, .int .i64 (.ofNat m)) :: t) H Q) : WOps B T (⟨some k, .mm true x r, g⟩ :: os) t H Q := WOps.purG hg (fun h => by simp only [aopL, hx, hr, e, pure1]) w
def textS (most : Nat) (s : St) : List Nat × St :=
 if s.2 = 0 then if (rdN s.1).2.2 = 0 then if (rdN s.1).1 ≤ most then if (rdN s.1).1 ≤ s.1.length - (rdN s.1).2.1 then ((s.1.drop (rdN s.1).2.1).take (rdN s.1).1, (s.1.drop ((rdN s.1).2.1 + (rdN s.1).1), 0)) else ([], (s.1, 30)) else ([], (s.1, 3)) else ([], (s.1, (rdN s.1).2.2)) else ([], s)
theorem textS_a {most : Nat} {s : St} (h : s.2 ≠ 0) : textS most s = ([], s) := by rw [textS, if_neg h]
theorem textS_b {most n k e : Nat} {bs : List Nat} (h : rdN bs = (n, k, e)) (he : e ≠ 0) : textS most (bs, 0) = ([], (bs, e)) := by
 rw [textS, if_pos rfl]; simp only [h]; rw [if_neg he]
theorem textS_c {most n k : Nat} {bs : List Nat} (h : rdN bs = (n, k, 0)) (he : most < n) : textS most (bs, 0) = ([], (bs, 3)) := by
 rw [textS, if_pos rfl]; simp only [h]; rw [if_pos trivial, if_neg (by omega)]
theorem textS_d {most n k : Nat} {bs : List Nat} (h : rdN bs = (n, k, 0)) (he : n ≤ most) (h2 : bs.length - k < n) : textS most (bs, 0) = ([], (bs, 30)) := by
 rw [textS, if_pos rfl]; simp only [h]; rw [if_pos trivial, if_pos he, if_neg (by omega)]
theorem textS_e {most n k : Nat} {bs : List Nat} (h : rdN bs = (n, k, 0)) (he : n ≤ most) (h2 : n ≤ bs.length - k) : textS most (bs, 0) = ((bs.drop k).take n, (bs.drop (k + n), 0)) := by
 rw [textS, if_pos rfl]; simp only [h]; rw [if_pos trivial, if_pos he, if_pos h2]
def flagS (s : St) : Bool × St :=
 if s.2 = 0 then if (rdN s.1).2.2 = 0 then if (rdN s.1).1 ≤ 1 then (decide ((rdN s.1).1 = 1), (s.1.drop (rdN s.1).2.1, 0)) else (false, (s.1, 40)) else (false, (s.1, (rdN s.1).2.2)) else (false, s)
theorem flagS_a {s : St} (h : s.2 ≠ 0) : flagS s = (false, s) := by rw [flagS, if_neg h]
theorem flagS_b {n k e : Nat} {bs : List Nat} (h : rdN bs = (n, k, e)) (he : e ≠ 0) : flagS (bs, 0) = (false, (bs, e)) := by
 rw [flagS, if_pos rfl]; simp only [h]; rw [if_neg he]
theorem flagS_c {n k : Nat} {bs : List Nat} (h : rdN bs = (n, k, 0)) (he : 1 < n) : flagS (bs, 0) = (false, (bs, 40)) := by
 rw [flagS, if_pos rfl]; simp only [h]; rw [if_pos trivial, if_neg (by omega)]
theorem flagS_d {n k : Nat} {bs : List Nat} (h : rdN bs = (n, k, 0)) (he : n ≤ 1) : flagS (bs, 0) = (decide (n = 1), (bs.drop k, 0)) := by
 rw [flagS, if_pos rfl]; simp only [h]; rw [if_pos trivial, if_pos he]
set_option maxHeartbeats 2000000 in
theorem text95_ok {H Y R : HL} {p : Nat} {s : St} (h : RdAt B true H p s Y R) :
  WF B tab (.func 95) [.ptr ⟨false, p, 0⟩, .int .i64 (.ofNat 80)] H fun r H' => r = .str (textS 80 s).1 ∧ RdAt B true H' p (textS 80 s).2 Y R := by
 obtain ⟨v, sr, ok, pm⟩ := h
 obtain ⟨bs, e⟩ := s
 dsimp only at sr pm
 refine WF.perm pm ?_
 refine WF.fn g95 rfl ?_
 by_cases he : e = 0
 ·subst he
  obtain ⟨n, k, e, hr⟩ : ∃ n k e, rdN bs = (n, k, e) := ⟨_, _, _, rfl⟩
  have src : SrcIs B ((p, .row (rrow true v 0)) :: (Y ++ R)) v 1 bs.length (cellsOfStr bs) := src_cons (SrcIs.left sr)
  have hk := rdN_lt (l := bs) ok.1
  have hbl : bs.length ≤ 4611686018427387904 := ok.2
  rw [hr] at hk
  by_cases h1 : e = 0
  ·subst h1
   have hkk := hk.2.1 rfl
   dsimp only at hkk hk
   obtain ⟨a, rfl, ld⟩ := src_ptr sr (by omega)
   by_cases h2 : 80 < n
   ·repeat' (first
     | apply WOps.nil | apply WC.seq | apply WC.reg | apply WC.skip | apply WC.ret | (apply WC.condT; rfl) | (apply WC.condF; rfl) | apply WC.block | (apply WOps.ldG; rfl; rfl; (first | exact ld0 rfl | exact ld1 rfl | exact ld2 rfl); rfl) | (apply WOps.cT; rfl; rfl; rfl; rfl; focus (simp only [cmpP, Int.ofNat_eq_natCast, List.length_cons, List.length_map, List.length_nil, Classical.not_not, not_true_eq_false, not_false_eq_true]; first | done | omega | decide)) | (apply WOps.cF; rfl; rfl; rfl; rfl; focus (simp only [cmpP, Int.ofNat_eq_natCast, List.length_cons, List.length_map, List.length_nil, Classical.not_not, not_true_eq_false, not_false_eq_true]; first | done | omega | decide)) | (apply WOps.clR; rfl; rfl; exact stands97_ok; intro _ hv; subst hv) | (apply WOps.clR; rfl; rfl; exact num100 src ok hr; intro _ hv; subst hv) | (apply WOps.mx80; rfl; rfl; rfl; rfl) | (apply WOps.cvU; rfl; rfl; omega) | (apply WOps.clA; rfl; rfl; exact fail101_ok; intro _ H1 h1; subst h1) | (apply WOps.purG; rfl; (intro _; rfl)))
    exact ⟨trivial, [_], ⟨_, _, rfl, rfl, rfl⟩, by rw [textS_c hr h2]; exact ⟨rfl, _, sr, ok.err, List.Perm.refl _⟩⟩
   by_cases h3 : bs.length - k < n
   ·repeat' (first
     | apply WOps.nil | apply WC.seq | apply WC.reg | apply WC.skip | apply WC.ret | (apply WC.condT; rfl) | (apply WC.condF; rfl) | apply WC.block | (apply WOps.ldG; rfl; rfl; (first | exact ld0 rfl | exact ld1 rfl | exact ld2 rfl); rfl) | (apply WOps.cT; rfl; rfl; rfl; rfl; focus (simp only [cmpP, Int.ofNat_eq_natCast, List.length_cons, List.length_map, List.length_nil, Classical.not_not, not_true_eq_false, not_false_eq_true]; first | done | omega | decide)) | (apply WOps.cF; rfl; rfl; rfl; rfl; focus (simp only [cmpP, Int.ofNat_eq_natCast, List.length_cons, List.length_map, List.length_nil, Classical.not_not, not_true_eq_false, not_false_eq_true]; first | done | omega | decide)) | (apply WOps.clR; rfl; rfl; exact stands97_ok; intro _ hv; subst hv) | (apply WOps.clR; rfl; rfl; exact num100 src ok hr; intro _ hv; subst hv) | (apply WOps.mx80; rfl; rfl; rfl; rfl) | (apply WOps.cvU; rfl; rfl; omega) | (apply WOps.lenV; rfl; rfl) | (apply WOps.subN; rfl; rfl; rfl; omega; omega) | (apply WOps.clA; rfl; rfl; exact fail101_ok; intro _ H1 h1; subst h1) | (apply WOps.purG; rfl; (intro _; rfl)))
    exact ⟨trivial, [_], ⟨_, _, rfl, rfl, rfl⟩, by rw [textS_d hr (by omega) h3]; exact ⟨rfl, _, sr, ok.err, List.Perm.refl _⟩⟩
   ·have hS : SrcIs B ((p, .row (rrow true (.sl a bs.length 1) 0)) :: (Y ++ R)) (.sl ⟨a.ro, a.id, a.off + k * 1⟩ (k + n - k) 1) 1 ((bs.drop k).take n).length (cellsOfStr ((bs.drop k).take n)) := by
     have := src_cons (q := (p, .row (rrow true (.sl a bs.length 1) 0))) (SrcIs.left (R := R) (src_part ld k n (by omega)))
     rw [Nat.mul_one, Nat.add_sub_cancel_left]; exact this
    repeat' (first
     | apply WOps.nil | apply WC.seq | apply WC.reg | apply WC.skip | apply WC.ret | (apply WC.condF; rfl) | apply WC.block | (apply WOps.ldG; rfl; rfl; (first | exact ld0 rfl | exact ld1 rfl | exact ld2 rfl); rfl) | (apply WOps.st; rfl; rfl; (first | exact tk0 | exact tk1 | exact tk2); rfl; (· repeat' (first | rfl | assumption | apply ac1)); rfl) | (apply WOps.cF; rfl; rfl; rfl; rfl; focus (simp only [cmpP, Int.ofNat_eq_natCast, List.length_cons, List.length_map, List.length_nil, Classical.not_not, not_true_eq_false, not_false_eq_true]; first | done | omega | decide)) | (apply WOps.clR; rfl; rfl; exact stands97_ok; intro _ hv; subst hv) | (apply WOps.clR; rfl; rfl; exact num100 src ok hr; intro _ hv; subst hv) | (apply WOps.mx80; rfl; rfl; rfl; rfl) | (apply WOps.cvU; rfl; rfl; omega) | (apply WOps.lenV; rfl; rfl) | (apply WOps.subN; rfl; rfl; rfl; omega; omega) | (apply WOps.cvI; rfl; rfl; omega) | (apply WOps.addN; rfl; rfl; rfl; omega) | (apply WOps.slP; rfl; rfl; rfl; rfl; rfl; exact bounds_2 (by omega) (by omega)) | (apply WOps.slP; rfl; rfl; rfl; rfl; rfl; exact bounds_lo (by omega)) | (apply WOps.cvS; rfl; rfl; exact hS; exact (ok.1.drop _).take _) | (apply WOps.purG; rfl; (intro _; rfl)))
    exact ⟨trivial, [_], ⟨_, _, rfl, rfl, rfl⟩, by rw [textS_e hr (by omega) (by omega)]; exact ⟨rfl, _, src_drop ld (k + n) (by omega), ok.drop _, List.Perm.refl _⟩⟩
  ·repeat' (first
    | apply WOps.nil | apply WC.seq | apply WC.reg | apply WC.skip | apply WC.ret | (apply WC.condT; rfl) | (apply WC.condF; rfl) | apply WC.block | (apply WOps.ldG; rfl; rfl; (first | exact ld0 rfl | exact ld1 rfl | exact ld2 rfl); rfl) | (apply WOps.cT; rfl; rfl; rfl; rfl; focus (simp only [cmpP, Int.ofNat_eq_natCast, List.length_cons, List.length_map, List.length_nil, Classical.not_not, not_true_eq_false, not_false_eq_true]; first | done | omega | decide)) | (apply WOps.clR; rfl; rfl; exact stands97_ok; intro _ hv; subst hv) | (apply WOps.clR; rfl; rfl; exact num100 src ok hr; intro _ hv; subst hv) | (apply WOps.clA; rfl; rfl; exact fail101_ok; intro _ H1 h1; subst h1) | (apply WOps.purG; rfl; (intro _; rfl)))
   exact ⟨trivial, [_], ⟨_, _, rfl, rfl, rfl⟩, by rw [textS_b hr h1]; exact ⟨rfl, v, sr, ok.err, List.Perm.refl _⟩⟩
 ·repeat' (first
   | apply WOps.nil | apply WC.seq | apply WC.reg | apply WC.ret | (apply WC.condT; rfl) | (apply WOps.clR; rfl; rfl; exact stands97_no he; intro _ hv; subst hv) | (apply WOps.purG; rfl; (intro _; rfl)))
  exact ⟨trivial, [_], ⟨_, _, rfl, rfl, rfl⟩, by rw [textS_a he]; exact ⟨rfl, v, sr, ok, List.Perm.refl _⟩⟩
theorem flag_eq (n : Nat) : ∀ v : Bool, (v = true ↔ cmpP .eql (.ofNat n) (.ofNat 1)) → v = decide (n = 1) := by
 intro v hv
 cases v with
 | true => have := hv.1 rfl; simp only [cmpP, Int.ofNat_eq_natCast] at this; exact (decide_eq_true (by omega)).symm
 | false => exact (decide_eq_false fun e => by have := hv.2 (by simp only [cmpP, Int.ofNat_eq_natCast]; omega); cases this).symm
theorem WOps.eq1 {T : Tr FnI} {t : EL} {H : HL} {Q : EL → HL → Prop} {os : List AOper} {k : Nat} {g : Option (Nat × Bool)} {x y : AO} {ki : IntKind} {n : Nat} (hg : wantedL g t = some true) (hx : gl t x = some (.int ki (.ofNat n))) (hy : gl t y = some (.int ki (.ofNat 1)))
  (w : WOps B T os ((k, .bool (decide (n = 1))) :: t) H Q) : WOps B T (⟨some k, .bin .eql x y, g⟩ :: os) t H Q := WOps.cmp rfl hg hx hy fun v hv => by
 obtain rfl := flag_eq n v hv
 exact w
set_option maxHeartbeats 2000000 in
theorem flag80_ok {H Y R : HL} {p : Nat} {s : St} (h : RdAt B true H p s Y R) :
  WF B tab (.func 80) [.ptr ⟨false, p, 0⟩] H fun r H' => r = .bool (flagS s).1 ∧ RdAt B true H' p (flagS s).2 Y R := by
 obtain ⟨v, sr, ok, pm⟩ := h
 obtain ⟨bs, e⟩ := s
 dsimp only at sr pm
 refine WF.perm pm ?_
 refine WF.fn g80 rfl ?_
 by_cases he : e = 0
 ·subst he
  obtain ⟨n, k, e, hr⟩ : ∃ n k e, rdN bs = (n, k, e) := ⟨_, _, _, rfl⟩
  have hk := rdN_lt (l := bs) ok.1
  rw [hr] at hk
  dsimp only at hk
  have w : RdAt B true ((p, .row (rrow true v 0)) :: (Y ++ R)) p (bs, 0) Y R := ⟨v, sr, ok, List.Perm.refl _⟩
  have w1 := num74_ok (most := 18446744073709551615) w
  by_cases h1 : e = 0
  ·subst h1
   rw [numS_d hr (by omega)] at w1
   by_cases h2 : 1 < n
   ·repeat' (first
     | apply WOps.nil | apply WC.seq | apply WC.reg | apply WC.skip | apply WC.ret | (apply WC.condT; rfl) | (apply WC.condF; rfl) | (apply WOps.ldG; rfl; rfl; (first | exact ld0 rfl | exact ld1 rfl | exact ld2 rfl); rfl) | (apply WOps.cT; rfl; rfl; rfl; rfl; focus (simp only [cmpP, Int.ofNat_eq_natCast, List.length_cons, List.length_map, List.length_nil, Classical.not_not, not_true_eq_false, not_false_eq_true]; first | done | omega | decide)) | (apply WOps.clR; rfl; rfl; exact stands97_ok; intro _ hv; subst hv) | (apply WOps.clA; rfl; rfl; exact fail101_ok; intro _ H1 h1; subst h1) | (apply WOps.clA; rfl; rfl; exact w1; rintro _ H1 ⟨rfl, v2, sr2, ok2, pm2⟩; apply WOps.perm pm2) | (apply WOps.st; rfl; rfl; exact Tk.head; exact congrArg List.length (cells1 (src_cell sr)); rw [cells1 (src_cell sr)]; exact allCell_cons (src_cell sr) allCell_nil; rw [cells1 (src_cell sr)]; rfl) | (apply WOps.purG; rfl; (intro _; rfl)))
    exact ⟨trivial, [_], ⟨_, _, rfl, rfl, rfl⟩, by rw [flagS_c hr h2]; exact ⟨rfl, _, sr, ok.err, List.Perm.refl _⟩⟩
   ·repeat' (first
     | apply WOps.nil | apply WC.seq | apply WC.reg | apply WC.skip | apply WC.ret | (apply WC.condF; rfl) | (apply WOps.ldG; rfl; rfl; (first | exact ld0 rfl | exact ld1 rfl | exact ld2 rfl); rfl) | (apply WOps.cT; rfl; rfl; rfl; rfl; focus (simp only [cmpP, Int.ofNat_eq_natCast, List.length_cons, List.length_map, List.length_nil, Classical.not_not, not_true_eq_false, not_false_eq_true]; first | done | omega | decide)) | (apply WOps.cF; rfl; rfl; rfl; rfl; focus (simp only [cmpP, Int.ofNat_eq_natCast, List.length_cons, List.length_map, List.length_nil, Classical.not_not, not_true_eq_false, not_false_eq_true]; first | done | omega | decide)) | (apply WOps.eq1; rfl; rfl; rfl) | (apply WOps.clR; rfl; rfl; exact stands97_ok; intro _ hv; subst hv) | (apply WOps.clA; rfl; rfl; exact w1; rintro _ H1 ⟨rfl, v2, sr2, ok2, pm2⟩; apply WOps.perm pm2) | (apply WOps.purG; rfl; (intro _; rfl)))
    exact ⟨trivial, [_], ⟨_, _, rfl, rfl, rfl⟩, by rw [flagS_d hr (by omega)]; exact ⟨rfl, _, sr2, ok2, List.Perm.refl _⟩⟩
  ·rw [numS_b hr h1] at w1
   repeat' (first
    | apply WOps.nil | apply WC.seq | apply WC.reg | apply WC.skip | apply WC.ret | (apply WC.condF; rfl) | (apply WOps.ldG; rfl; rfl; (first | exact ld0 rfl | exact ld1 rfl | exact ld2 rfl); rfl) | (apply WOps.cF; rfl; rfl; rfl; rfl; focus (simp only [cmpP, Int.ofNat_eq_natCast, List.length_cons, List.length_map, List.length_nil, Classical.not_not, not_true_eq_false, not_false_eq_true]; first | done | omega | decide)) | (apply WOps.clR; rfl; rfl; exact stands97_ok; intro _ hv; subst hv) | (apply WOps.clA; rfl; rfl; exact w1; rintro _ H1 ⟨rfl, v2, sr2, ok2, pm2⟩; apply WOps.perm pm2) | (apply WOps.purG; rfl; (intro _; rfl)) | (apply WOps.skp; rfl))
   exact ⟨trivial, [_], ⟨_, _, rfl, rfl, rfl⟩, by rw [flagS_b hr h1]; exact ⟨rfl, _, sr2, ok2, List.Perm.refl _⟩⟩
 ·repeat' (first
   | apply WOps.nil | apply WC.seq | apply WC.reg | apply WC.ret | (apply WC.condT; rfl) | (apply WOps.clR; rfl; rfl; exact stands97_no he; intro _ hv; subst hv) | (apply WOps.purG; rfl; (intro _; rfl)))
  exact ⟨trivial, [_], ⟨_, _, rfl, rfl, rfl⟩, by rw [flagS_a he]; exact ⟨rfl, v, sr, ok, List.Perm.refl _⟩⟩
/-! ### Lists are read -/
def loopS {α : Type} (rd : St → α × St) : Nat → St → List α × St
 | 0, s => ([], s)
 | n + 1, s => if s.2 = 0 then ((rd s).1 :: (loopS rd n (rd s).2).1, (loopS rd n (rd s).2).2) else ([], s)
theorem loopS_0 {α : Type} {rd : St → α × St} {s : St} : loopS rd 0 s = ([], s) := rfl
theorem loopS_e {α : Type} {rd : St → α × St} {n : Nat} {s : St} (h : s.2 ≠ 0) : loopS rd n s = ([], s) := by
 cases n with
 | zero => rfl
 | succ n => rw [loopS, if_neg h]
theorem loopS_s {α : Type} {rd : St → α × St} {n : Nat} {s : St} (h : s.2 = 0) : loopS rd (n + 1) s = ((rd s).1 :: (loopS rd n (rd s).2).1, (loopS rd n (rd s).2).2) := by rw [loopS, if_pos h]
def textsS (many most : Nat) (s : St) : List (List Nat) × St :=
 if (loopS (textS most) (numS many s).1 (numS many s).2).2.2 = 0 then loopS (textS most) (numS many s).1 (numS many s).2 else ([], (loopS (textS most) (numS many s).1 (numS many s).2).2)
theorem RdAt.split {k : Bool} {H Y R h : HL} {p : Nat} {s : St} (r : RdAt B k H p s Y (h ++ R)) : ∃ Z, H.Perm (h ++ Z) ∧ ∀ h' : HL, RdAt B k (h' ++ Z) p s Y (h' ++ R) := by
 obtain ⟨v, a, o, q⟩ := r
 exact ⟨(p, .row (rrow k v s.2)) :: (Y ++ R), q.trans (permF (by intro f; simp only [AV.cells, pm] <;> omega)), fun h' => ⟨v, a, o, permF (by intro f; simp only [AV.cells, pm] <;> omega)⟩⟩
theorem own_snoc {α : Type} {f : α → List AV} {acc : List α} {x : α} {w : Nat} {v : AV} {h : HL} (o : OwnSl v ((acc.map f).flatten ++ f x) ((acc.map f).length + 1) w h) : OwnSl v ((acc ++ [x]).map f).flatten ((acc ++ [x]).map f).length w h := by
 have e1 : ((acc ++ [x]).map f).flatten = (acc.map f).flatten ++ f x := by simp
 have e2 : ((acc ++ [x]).map f).length = (acc.map f).length + 1 := by simp
 rw [e1, e2]; exact o
theorem ac_app : ∀ {a b : List AV}, allCell a = true → allCell b = true → allCell (a ++ b) = true := by
 intro a b ha hb
 induction a with
 | nil => exact hb
 | cons v a ih =>
  simp only [allCell, List.cons_append] at ha ⊢
  cases hv : v.isCell with
  | true => rw [hv] at ha; exact ih ha
  | false => rw [hv] at ha; cases ha
theorem ac_flat {α : Type} {f : α → List AV} : ∀ {l : List α}, (∀ x, x ∈ l → allCell (f x) = true) → allCell (l.map f).flatten = true := by
 intro l
 induction l with
 | nil => intro _; rfl
 | cons a l ih => intro h; exact ac_app (h a List.mem_cons_self) (ih fun x hx => h x (List.mem_cons_of_mem _ hx))
theorem own_nil {w : Nat} : OwnSl .nilsl ((List.map strC []).flatten) (List.map strC []).length w [] := .inl ⟨rfl, rfl, rfl, rfl⟩
theorem tot_end {α : Type} {acc : List α} {l : List α} {s : St} {tot : List α × St} {x : List α × St} (h : (acc ++ x.1, x.2) = tot) (e : x = ([], s)) : tot = (acc, s) := by
 subst e; rw [← h, List.append_nil]
theorem tot_step {α : Type} {acc l : List α} {x : α} {s : St} {tot : List α × St} {y : List α × St} (h : (acc ++ y.1, y.2) = tot) (e : y = (x :: l, s)) : (acc ++ [x] ++ l, s) = tot := by
 subst e; rw [← h, List.append_assoc]; rfl
theorem fn99_ok {H Y R : HL} {p p3 p5 : Nat} {s : St} (h : RdAt B true H p s Y R) (l3 : Ld B R ⟨false, p3, 0⟩ 1 [.ptr ⟨false, p, 0⟩]) (l5 : Ld B R ⟨false, p5, 0⟩ 1 [.int .i64 (.ofNat 80)]) :
  WF B tab (.func 99) ([] ++ ([] ++ [.ptr ⟨false, p3, 0⟩, .ptr ⟨false, p5, 0⟩])) H fun r H' => r = .str (textS 80 s).1 ∧ RdAt B true H' p (textS 80 s).2 Y R := by
 refine WF.fn g99 rfl ?_
 repeat' (first
  | apply WOps.nil | apply WC.seq | apply WC.reg | apply WC.ret | (apply WOps.ldG; rfl; rfl; exact h.ld l3; rfl) | (apply WOps.ldG; rfl; rfl; exact h.ld l5; rfl) | (apply WOps.clA; rfl; rfl; exact text95_ok h; rintro _ H1 ⟨rfl, h1⟩) | (apply WOps.purG; rfl; (intro _; rfl)))
 exact ⟨trivial, [_], ⟨_, _, rfl, rfl, rfl⟩, rfl, h1⟩
set_option maxHeartbeats 2000000 in
theorem items98_ok {H Y R : HL} {p p3 p5 : Nat} {s : St} (h : RdAt B true H p s Y R) (l3 : Ld B R ⟨false, p3, 0⟩ 1 [.ptr ⟨false, p, 0⟩]) (l5 : Ld B R ⟨false, p5, 0⟩ 1 [.int .i64 (.ofNat 80)]) :
  WF B tab (.func 98) [.ptr ⟨false, p, 0⟩, .int .i64 (.ofNat 8), .fn (.func 99) [] [.ptr ⟨false, p3, 0⟩, .ptr ⟨false, p5, 0⟩]] H fun r H' => ∃ X, SlIs B X r 1 ((textsS 8 80 s).1.map strC) ∧ RdAt B true H' p (textsS 8 80 s).2 Y (X ++ R) := by
 refine WF.lessP ?_
 refine WF.fn g98 rfl ?_
 have hn := numS_ok (most := 8) h.ok
 obtain ⟨n, s1, en⟩ : ∃ n s1, numS 8 s = (n, s1) := ⟨_, _, rfl⟩
 have w := num74_ok (most := 8) h
 rw [en] at hn w
 dsimp only at hn w
 repeat' (first
  | apply WOps.nil | apply WC.seq | apply WC.reg | apply WC.block | (apply WOps.mx80; rfl; rfl; rfl; rfl) | (apply WOps.cvU; rfl; rfl; omega) | (apply WOps.clA; rfl; rfl; exact w; rintro _ H1 ⟨rfl, h1⟩) | (apply WOps.purG; rfl; (intro _; rfl)))
 refine WC.loop ?_
 obtain ⟨i, hi⟩ : ∃ i : Nat, i = 0 := ⟨0, rfl⟩
 obtain ⟨acc, hacc⟩ : ∃ l : List (List Nat), l = [] := ⟨_, rfl⟩
 obtain ⟨v, hv⟩ : ∃ v : AV, v = .nilsl := ⟨_, rfl⟩
 obtain ⟨hh, hhh⟩ : ∃ l : HL, l = [] := ⟨_, rfl⟩
 refine WL.le (t' := [(0, .ptr ⟨false, p, 0⟩), (2, .fn (.func 99) [] [.ptr ⟨false, p3, 0⟩, .ptr ⟨false, p5, 0⟩]), (7, .int .u64 (.ofNat n)), (8, v), (9, .int .u64 (.ofNat i))]) (by subst hi hv; exact Sub1.cons rfl (Sub1.cons rfl (Sub1.cons rfl (Sub1.cons rfl (Sub1.cons rfl Sub1.nil))))) ?_
 have o : OwnSl v (acc.map strC).flatten (acc.map strC).length 1 hh := by subst hv hacc hhh; exact own_nil
 have h2 : RdAt B true H1 p s1 Y (hh ++ R) := by subst hhh; exact h1
 have ht : (acc ++ (loopS (textS 80) (n - i) s1).1, (loopS (textS 80) (n - i) s1).2) = loopS (textS 80) n s1 := by subst hi hacc; simp
 have et : textsS 8 80 s = if (loopS (textS 80) n s1).2.2 = 0 then loopS (textS 80) n s1 else ([], (loopS (textS 80) n s1).2) := by rw [textsS, en]
 have hal : acc.length ≤ i := by subst hacc; simp
 have hle : i ≤ n := by omega
 obtain ⟨tot, etot⟩ : ∃ t, t = loopS (textS 80) n s1 := ⟨_, rfl⟩
 rw [← etot] at ht et
 have h8 := hn.2.1
 clear hi hacc hv hhh h1 etot hn en w
 induction hk : n - i using Nat.strongRecOn generalizing i acc v hh H1 s1 with | _ k ih => ?_
 apply WL.step
 by_cases hlt : i < n
 ·by_cases hs : s1.2 = 0
  ·have ht2 := tot_step (x := (textS 80 s1).1) (l := (loopS (textS 80) (n - (i + 1)) (textS 80 s1).2).1) (s := (loopS (textS 80) (n - (i + 1)) (textS 80 s1).2).2) ht (by rw [show n - i = (n - (i + 1)) + 1 by omega, loopS_s hs])
   have w1 := fn99_ok (p3 := p3) (p5 := p5) h2 (Ld.right l3) (Ld.right l5)
   repeat' (first
    | apply WOps.nil | apply WC.seq | apply WC.reg | apply WC.skip | (apply WC.condT; rfl) | apply WC.block | (apply WOps.bsl; rfl; (· repeat' (first | rfl | assumption | apply ac1)); intro _) | (apply WOps.cT; rfl; rfl; rfl; rfl; focus (simp only [cmpP, Int.ofNat_eq_natCast, List.length_cons, List.length_map, List.length_nil, Classical.not_not, not_true_eq_false, not_false_eq_true]; first | done | omega | decide)) | (apply WOps.ldG; rfl; rfl; exact h2.ldE; rfl) | (apply WOps.cvA; rfl; rfl; rfl; exact w1; rintro _ H2 ⟨rfl, h3⟩) | (apply WOps.purG; rfl; (intro _; rfl)))
   rename_i q
   obtain ⟨Z, pz, fz⟩ := h3.split
   refine WOps.app (h := hh) (R := (q, .row [.str (textS 80 s1).1]) :: Z) (n := (acc.map strC).length) (m := 1) (xs := [.str (textS 80 s1).1]) rfl rfl rfl o ((pz.cons _).trans (permF (by intro f; simp only [AV.cells, pm] <;> omega))) (.inr ⟨_, rfl, .inr (Ld.own Tk.head rfl)⟩) (ac_flat fun _ _ => rfl) (allCell_cons rfl allCell_nil) rfl (by rw [List.length_map]; omega) ?_
   intro v2 h4 o2
   have o3 : OwnSl v2 ((acc ++ [(textS 80 s1).1]).map strC).flatten ((acc ++ [(textS 80 s1).1]).map strC).length 1 h4 := own_snoc o2
   repeat' (first
    | apply WOps.nil | apply WC.reg | (apply WOps.addU; rfl; rfl; rfl; omega) | (apply WOps.purG; rfl; (intro _; rfl)))
   refine WL.le (Sub1.cons rfl (Sub1.cons rfl (Sub1.cons rfl (Sub1.cons rfl (Sub1.cons rfl Sub1.nil))))) (WL.lessP (H1 := h4 ++ Z) (subF (by intro f; simp only [AV.cells, pm] <;> omega)) (ih _ (by omega) _ _ (i + 1) _ v2 h4 o3 (fz h4) (by rw [List.length_append, List.length_singleton]; omega) (by omega) ht2 rfl))
  ·have ht2 := tot_end (l := acc) ht (loopS_e hs)
   rw [et, ht2] 
   rw [if_neg hs]
   repeat' (first
    | apply WOps.nil | apply WC.seq | apply WC.reg | apply WC.ret | apply WC.exit | (apply WC.condT; rfl) | (apply WC.condF; rfl) | (apply WOps.cT; rfl; rfl; rfl; rfl; focus (simp only [cmpP, Int.ofNat_eq_natCast, List.length_cons, List.length_map, List.length_nil, Classical.not_not, not_true_eq_false, not_false_eq_true]; first | done | omega | decide)) | (apply WOps.cF; rfl; rfl; rfl; rfl; focus (simp only [cmpP, Int.ofNat_eq_natCast, List.length_cons, List.length_map, List.length_nil, Classical.not_not, not_true_eq_false, not_false_eq_true]; first | done | omega | decide)) | (apply WOps.ldG; rfl; rfl; exact h2.ldE; rfl) | (apply WOps.purG; rfl; (intro _; rfl)))
   obtain ⟨H5, b5, s5⟩ := h2.less (R1 := R) (subF (by intro f; simp only [AV.cells, pm] <;> omega))
   exact ⟨trivial, [_], ⟨_, _, rfl, rfl, rfl⟩, H5, ⟨[], .inl ⟨rfl, rfl⟩, b5⟩, s5⟩
 ·have ht2 := tot_end (l := acc) ht (by rw [show n - i = 0 by omega]; exact loopS_0)
  rw [et, ht2]
  by_cases hs : s1.2 = 0
  ·rw [if_pos hs]
   repeat' (first
    | apply WOps.nil | apply WC.seq | apply WC.reg | apply WC.skip | apply WC.ret | apply WC.exit | (apply WC.condF; rfl) | (apply WOps.cF; rfl; rfl; rfl; rfl; focus (simp only [cmpP, Int.ofNat_eq_natCast, List.length_cons, List.length_map, List.length_nil, Classical.not_not, not_true_eq_false, not_false_eq_true]; first | done | omega | decide)) | (apply WOps.ldG; rfl; rfl; exact h2.ldE; rfl) | (apply WOps.purG; rfl; (intro _; rfl)) | (apply WOps.skp; rfl))
   exact ⟨trivial, [_], ⟨_, _, rfl, rfl, rfl⟩, _, ⟨hh, o.sl (by intro c hc; obtain ⟨x, _, rfl⟩ := List.mem_map.1 hc; rfl), h2⟩, SubP.refl⟩
  ·rw [if_neg hs]
   repeat' (first
    | apply WOps.nil | apply WC.seq | apply WC.reg | apply WC.ret | apply WC.exit | (apply WC.condT; rfl) | (apply WC.condF; rfl) | (apply WOps.cT; rfl; rfl; rfl; rfl; focus (simp only [cmpP, Int.ofNat_eq_natCast, List.length_cons, List.length_map, List.length_nil, Classical.not_not, not_true_eq_false, not_false_eq_true]; first | done | omega | decide)) | (apply WOps.cF; rfl; rfl; rfl; rfl; focus (simp only [cmpP, Int.ofNat_eq_natCast, List.length_cons, List.length_map, List.length_nil, Classical.not_not, not_true_eq_false, not_false_eq_true]; first | done | omega | decide)) | (apply WOps.ldG; rfl; rfl; exact h2.ldE; rfl) | (apply WOps.purG; rfl; (intro _; rfl)) | (apply WOps.skp; rfl))
   obtain ⟨H5, b5, s5⟩ := h2.less (R1 := R) (subF (by intro f; simp only [AV.cells, pm] <;> omega))
   exact ⟨trivial, [_], ⟨_, _, rfl, rfl, rfl⟩, H5, ⟨[], .inl ⟨rfl, rfl⟩, b5⟩, s5⟩
theorem textsS_e {s : St} (h : s.2 ≠ 0) : textsS 8 80 s = ([], s) := by
 simp [textsS, numS_a h, loopS_0, h]
theorem RdAt.ldM {H Y R : HL} {p : Nat} {s : St} (h : RdAt B true H p s Y R) : Ld B H ⟨false, p, 0⟩ 1 [.bool true] := by
 obtain ⟨v, _, o, r⟩ := h
 exact Ld.perm r (Ld.own Tk.head rfl)
theorem stands_ok {H Y R : HL} {p : Nat} {s : St} (h : RdAt B true H p s Y R) : WF B tab (.func 97) [.ptr ⟨false, p, 0⟩] H fun r H' => H' = H ∧ r = .bool (decide (s.2 = 0)) := by
 refine WF.fnR g97 rfl ?_
 by_cases hs : s.2 = 0
 ·repeat' (first
   | apply WOps.nil | apply WC.seq | apply WC.reg | apply WC.ret | (apply WOps.cT; rfl; rfl; rfl; rfl; focus (simp only [cmpP, Int.ofNat_eq_natCast, List.length_cons, List.length_map, List.length_nil, Classical.not_not, not_true_eq_false, not_false_eq_true]; first | done | omega | decide)) | (apply WOps.ldG; rfl; rfl; exact h.ldM; rfl) | (apply WOps.ldG; rfl; rfl; exact h.ldE; rfl) | (apply WOps.purG; rfl; (intro _; rfl)))
  exact ⟨trivial, List.Sublist.refl _, [_], ⟨_, _, rfl, rfl, rfl⟩, by rw [decide_eq_true hs]; rfl⟩
 ·repeat' (first
   | apply WOps.nil | apply WC.seq | apply WC.reg | apply WC.ret | (apply WOps.cF; rfl; rfl; rfl; rfl; focus (simp only [cmpP, Int.ofNat_eq_natCast, List.length_cons, List.length_map, List.length_nil, Classical.not_not, not_true_eq_false, not_false_eq_true]; first | done | omega | decide)) | (apply WOps.ldG; rfl; rfl; exact h.ldM; rfl) | (apply WOps.ldG; rfl; rfl; exact h.ldE; rfl) | (apply WOps.purG; rfl; (intro _; rfl)))
  exact ⟨trivial, List.Sublist.refl _, [_], ⟨_, _, rfl, rfl, rfl⟩, by rw [decide_eq_false hs]; rfl⟩
theorem standsT {H Y R : HL} {p : Nat} {s : St} (h : RdAt B true H p s Y R) (hs : s.2 = 0) : WF B tab (.func 97) [.ptr ⟨false, p, 0⟩] H fun r H' => H' = H ∧ r = .bool true := (stands_ok h).mono fun r _ ⟨a, b⟩ => ⟨a, by rw [b, decide_eq_true hs]⟩
theorem standsF {H Y R : HL} {p : Nat} {s : St} (h : RdAt B true H p s Y R) (hs : s.2 ≠ 0) : WF B tab (.func 97) [.ptr ⟨false, p, 0⟩] H fun r H' => H' = H ∧ r = .bool false := (stands_ok h).mono fun r _ ⟨a, b⟩ => ⟨a, by rw [b, decide_eq_false hs]⟩
set_option maxHeartbeats 1000000 in
theorem texts73_ok {H Y R : HL} {p : Nat} {s : St} (h : RdAt B true H p s Y R) :
  WF B tab (.func 73) [.ptr ⟨false, p, 0⟩, .int .i64 (.ofNat 8), .int .i64 (.ofNat 80)] H fun r H' => ∃ X, SlIs B X r 1 ((textsS 8 80 s).1.map strC) ∧ RdAt B true H' p (textsS 8 80 s).2 Y (X ++ R) := by
 refine WF.lessP ?_
 refine WF.fn g73 rfl ?_
 refine WC.seq (WC.reg ?_)
 repeat' (first
  | apply WOps.nil | (apply WOps.bx; rfl; rfl; (· repeat' (first | rfl | assumption | apply ac1)); intro _) | (apply WOps.purG; rfl; (intro _; rfl)))
 rename_i p3 p5
 have b := (h.cons (x := (p3, .row [.ptr ⟨false, p, 0⟩]))).cons (x := (p5, .row [.int .i64 (.ofNat 80)]))
 have l3 : ∀ {G : HL}, Ld B ((p5, .row [.int .i64 (.ofNat 80)]) :: (p3, .row [.ptr ⟨false, p, 0⟩]) :: G) ⟨false, p3, 0⟩ 1 [.ptr ⟨false, p, 0⟩] := Ld.cons (Ld.own Tk.head rfl)
 have l5 : ∀ {G : HL}, Ld B ((p5, .row [.int .i64 (.ofNat 80)]) :: (p3, .row [.ptr ⟨false, p, 0⟩]) :: G) ⟨false, p5, 0⟩ 1 [.int .i64 (.ofNat 80)] := Ld.own Tk.head rfl
 by_cases hs : s.2 = 0
 ·repeat' (first
   | apply WOps.nil | apply WC.seq | apply WC.reg | apply WC.skip | apply WC.ret | (apply WC.condF; rfl) | (apply WOps.ldG; rfl; rfl; (first | exact ld0 rfl | exact ld1 rfl | exact ld2 rfl); rfl) | (apply WOps.clR; rfl; rfl; exact standsT b hs; intro _ hv; subst hv) | (apply WOps.clA; rfl; rfl; exact items98_ok b l3 l5; rintro _ H1 ⟨X, sx, h1⟩) | (apply WOps.purG; rfl; (intro _; rfl)))
  obtain ⟨H5, b5, s5⟩ := h1.less (R1 := X ++ R) (subF (by intro f; simp only [AV.cells, pm] <;> omega))
  exact ⟨trivial, [_], ⟨_, _, rfl, rfl, rfl⟩, H5, ⟨X, sx, b5⟩, s5⟩
 ·rw [textsS_e hs]
  repeat' (first
   | apply WOps.nil | apply WC.seq | apply WC.reg | apply WC.ret | (apply WC.condT; rfl) | (apply WOps.ldG; rfl; rfl; (first | exact ld0 rfl | exact ld1 rfl | exact ld2 rfl); rfl) | (apply WOps.clR; rfl; rfl; exact standsF b hs; intro _ hv; subst hv) | (apply WOps.purG; rfl; (intro _; rfl)))
  exact ⟨trivial, [_], ⟨_, _, rfl, rfl, rfl⟩, H, ⟨[], .inl ⟨rfl, rfl⟩, h⟩, subF (by intro f; simp only [AV.cells, pm] <;> omega)⟩
/-! ### Rows are read -/
inductive Kd where
 | int (m : Nat)
 | num
 | u32
 | txt
 | flg
 | txs
def rdF : Kd → St → Fd × St
 | .int m, s => (.int (.ofNat (numS m s).1) m, (numS m s).2)
 | .num, s => (.num (numS 18446744073709551615 s).1, (numS 18446744073709551615 s).2)
 | .u32, s => (.u32 (numS 4294967295 s).1, (numS 4294967295 s).2)
 | .txt, s => (.txt (textS 80 s).1, (textS 80 s).2)
 | .flg, s => (.flg (flagS s).1, (flagS s).2)
 | .txs, s => (.txs .nilsl (textsS 8 80 s).1, (textsS 8 80 s).2)
def rdR : List Kd → St → List Fd × St
 | [], s => ([], s)
 | k :: ks, s => ((rdF k s).1 :: (rdR ks (rdF k s).2).1, (rdR ks (rdF k s).2).2)
def rowsS (ks : List Kd) (s : St) : List (List Fd) × St := loopS (rdR ks) (numS 64 s).1 (numS 64 s).2
def kN : List Kd := [.int 255, .txt, .num, .num]
def kS : List Kd := [.int 255, .txt, .txt, .txs, .int 65535, .num, .num]
def kC : List Kd := [.int 255, .txt, .txt, .txt, .int 255, .num, .num]
def kI : List Kd := [.txt, .txt, .flg, .num, .num]
def kE : List Kd := [.txt, .txt, .num, .num, .num, .num]
def kL : List Kd := [.num, .int 255, .num, .num]
def kQ : List Kd := [.int 255, .u32, .num]
def strip : Fd → Fd
 | .txs _ l => .txs .nilsl l
 | f => f
def stripR (r : List Fd) : List Fd := r.map strip
theorem RdAt.st {k : Bool} {H Y R R' : HL} {p q : Nat} {s : St} {cs : List AV} (h : RdAt B k H p s Y R) (t : Tk R q (.row cs) R') : ∃ Z, Tk H q (.row cs) Z ∧ ∀ cs', RdAt B k ((q, .row cs') :: Z) p s Y ((q, .row cs') :: R') := by
 obtain ⟨v, a, o, r⟩ := h
 refine ⟨(p, .row (rrow k v s.2)) :: (Y ++ R'), r.trans ?_, fun cs' => ⟨v, a, o, permF (by intro f; simp only [AV.cells, pm] <;> omega)⟩⟩
 refine permF fun f => ?_
 have := sum_perm t f
 simp only [List.cons_append, List.map_cons, List.map_append, List.sum_cons, List.sum_append] at this ⊢
 omega
theorem numT {H Y R : HL} {p m n : Nat} {s s' : St} (h : RdAt B true H p s Y R) (e : numS m s = (n, s')) : WF B tab (.func 74) [.ptr ⟨false, p, 0⟩, .int .u64 (.ofNat m)] H fun r H' => r = .int .u64 (.ofNat n) ∧ RdAt B true H' p s' Y R := by
 have := num74_ok (most := m) h
 rw [e] at this; exact this
theorem num_le {k : Bool} {H Y R : HL} {p m n : Nat} {s s' : St} (h : RdAt B k H p s Y R) (e : numS m s = (n, s')) : n ≤ m ∧ n < 18446744073709551616 := by
 have := (numS_ok (most := m) h.ok).2
 rw [e] at this; exact this
theorem textT {H Y R : HL} {p : Nat} {l : List Nat} {s s' : St} (h : RdAt B true H p s Y R) (e : textS 80 s = (l, s')) : WF B tab (.func 95) [.ptr ⟨false, p, 0⟩, .int .i64 (.ofNat 80)] H fun r H' => r = .str l ∧ RdAt B true H' p s' Y R := by
 have := text95_ok h
 rw [e] at this; exact this
theorem flagT {H Y R : HL} {p : Nat} {b : Bool} {s s' : St} (h : RdAt B true H p s Y R) (e : flagS s = (b, s')) : WF B tab (.func 80) [.ptr ⟨false, p, 0⟩] H fun r H' => r = .bool b ∧ RdAt B true H' p s' Y R := by
 have := flag80_ok h
 rw [e] at this; exact this
theorem textsT {H Y R : HL} {p : Nat} {l : List (List Nat)} {s s' : St} (h : RdAt B true H p s Y R) (e : textsS 8 80 s = (l, s')) : WF B tab (.func 73) [.ptr ⟨false, p, 0⟩, .int .i64 (.ofNat 8), .int .i64 (.ofNat 80)] H fun r H' => ∃ X, SlIs B X r 1 (l.map strC) ∧ RdAt B true H' p s' Y (X ++ R) := by
 have := texts73_ok h
 rw [e] at this; exact this
theorem long41_ok {H Y R : HL} {p n : Nat} {s s' : St} (h : RdAt B true H p s Y R) (e : numS 18446744073709551615 s = (n, s')) : WF B tab (.func 41) [.agg [.ptr ⟨false, p, 0⟩]] H fun r H' => r = .int .u64 (.ofNat n) ∧ RdAt B true H' p s' Y R := by
 refine WF.lessP ?_
 refine WF.fn g41 rfl ?_
 repeat' (first
  | apply WOps.nil | apply WC.seq | apply WC.reg | apply WC.ret | (apply WOps.ldG; rfl; rfl; (first | exact ld0 rfl | exact ld1 rfl | exact ld2 rfl); rfl) | (apply WOps.bx; rfl; rfl; (· repeat' (first | rfl | assumption | apply ac1)); intro _) | (apply WOps.clA; rfl; rfl; exact numT h.cons e; rintro _ H1 ⟨rfl, h1⟩) | (apply WOps.purG; rfl; (intro _; rfl)))
 obtain ⟨H5, b5, s5⟩ := h1.less (R1 := R) (subF (by intro f; simp only [AV.cells, pm] <;> omega))
 exact ⟨trivial, [_], ⟨_, _, rfl, rfl, rfl⟩, H5, ⟨rfl, b5⟩, s5⟩
theorem small67_ok {H Y R : HL} {p n : Nat} {s s' : St} (h : RdAt B true H p s Y R) (e : numS 255 s = (n, s')) : WF B tab (.func 67) [.agg [.ptr ⟨false, p, 0⟩]] H fun r H' => r = .int .i64 (.ofNat n) ∧ RdAt B true H' p s' Y R := by
 refine WF.lessP ?_
 refine WF.fn g67 rfl ?_
 have := num_le h e
 repeat' (first
  | apply WOps.nil | apply WC.seq | apply WC.reg | apply WC.ret | (apply WOps.ldG; rfl; rfl; (first | exact ld0 rfl | exact ld1 rfl | exact ld2 rfl); rfl) | (apply WOps.bx; rfl; rfl; (· repeat' (first | rfl | assumption | apply ac1)); intro _) | (apply WOps.clA; rfl; rfl; exact numT h.cons e; rintro _ H1 ⟨rfl, h1⟩) | (apply WOps.cvI; rfl; rfl; omega) | (apply WOps.purG; rfl; (intro _; rfl)))
 obtain ⟨H5, b5, s5⟩ := h1.less (R1 := R) (subF (by intro f; simp only [AV.cells, pm] <;> omega))
 exact ⟨trivial, [_], ⟨_, _, rfl, rfl, rfl⟩, H5, ⟨rfl, b5⟩, s5⟩
theorem short68_ok {H Y R : HL} {p : Nat} {l : List Nat} {s s' : St} (h : RdAt B true H p s Y R) (e : textS 80 s = (l, s')) : WF B tab (.func 68) [.agg [.ptr ⟨false, p, 0⟩]] H fun r H' => r = .str l ∧ RdAt B true H' p s' Y R := by
 refine WF.lessP ?_
 refine WF.fn g68 rfl ?_
 repeat' (first
  | apply WOps.nil | apply WC.seq | apply WC.reg | apply WC.ret | (apply WOps.ldG; rfl; rfl; (first | exact ld0 rfl | exact ld1 rfl | exact ld2 rfl); rfl) | (apply WOps.bx; rfl; rfl; (· repeat' (first | rfl | assumption | apply ac1)); intro _) | (apply WOps.clA; rfl; rfl; exact textT h.cons e; rintro _ H1 ⟨rfl, h1⟩) | (apply WOps.purG; rfl; (intro _; rfl)))
 obtain ⟨H5, b5, s5⟩ := h1.less (R1 := R) (subF (by intro f; simp only [AV.cells, pm] <;> omega))
 exact ⟨trivial, [_], ⟨_, _, rfl, rfl, rfl⟩, H5, ⟨rfl, b5⟩, s5⟩
theorem ends69_ok {H Y R : HL} {p q o1 o2 n1 n2 : Nat} {s s1 s2 : St} {cs cs1 cs2 : List AV} (h : RdAt B true H p s Y ((q, .row cs) :: R)) (e1 : numS 18446744073709551615 s = (n1, s1)) (e2 : numS 18446744073709551615 s1 = (n2, s2)) (p1 : putN cs o1 [.int .u64 (.ofNat n1)] = some cs1) (p2 : putN cs1 o2 [.int .u64 (.ofNat n2)] = some cs2) :
  WF B tab (.func 69) [.agg [.ptr ⟨false, p, 0⟩], .ptr ⟨false, q, o1⟩, .ptr ⟨false, q, o2⟩] H fun _ H' => RdAt B true H' p s2 Y ((q, .row cs2) :: R) := by
 refine WF.lessP ?_
 refine WF.fn g69 rfl ?_
 refine WC.seq (WC.reg ?_)
 repeat' (first
  | apply WOps.nil | (apply WOps.bx; rfl; rfl; (· repeat' (first | rfl | assumption | apply ac1)); intro _))
 rename_i b
 have h0 := h.cons (x := (b, .row [.ptr ⟨false, p, 0⟩]))
 refine WC.seq (WC.reg ?_)
 repeat' (first
  | apply WOps.nil | apply WC.reg | (apply WOps.ldG; rfl; rfl; (first | exact ld0 rfl | exact ld1 rfl | exact ld2 rfl); rfl) | (apply WOps.clA; rfl; rfl; exact long41_ok h0 e1; rintro _ H1 ⟨rfl, h1⟩; obtain ⟨Z1, u1, f1⟩ := h1.st (Tk.tail Tk.head)) | (apply WOps.st; rfl; rfl; exact u1; rfl; exact allCell_cons rfl allCell_nil; exact p1) | (apply WOps.purG; rfl; (intro _; rfl)))
 have h2 := f1 cs1
 repeat' (first
  | apply WOps.nil | (apply WOps.ldG; rfl; rfl; exact h2.ld (Ld.cons (Ld.own Tk.head rfl)); rfl) | (apply WOps.clA; rfl; rfl; exact long41_ok h2 e2; rintro _ H3 ⟨rfl, h3⟩; obtain ⟨Z3, u3, f3⟩ := h3.st Tk.head) | (apply WOps.st; rfl; rfl; exact u3; rfl; exact allCell_cons rfl allCell_nil; exact p2) | (apply WOps.purG; rfl; (intro _; rfl)))
 obtain ⟨H5, b5, s5⟩ := (f3 cs2).less (R1 := (q, .row cs2) :: R) (subF (by intro f; simp only [AV.cells, pm] <;> omega))
 exact ⟨trivial, [], rfl, H5, b5, s5⟩
theorem wrong89_ok {H Y R : HL} {p : Nat} {s : St} (h : RdAt B true H p s Y R) : WF B tab (.func 89) [.ptr ⟨false, p, 0⟩] H fun r H' => H' = H ∧ r = .int .i64 (.ofNat s.2) := by
 refine WF.fnR g89 rfl ?_
 repeat' (first
  | apply WOps.nil | apply WC.seq | apply WC.reg | apply WC.skip | apply WC.ret | (apply WC.condF; rfl) | (apply WOps.ldG; rfl; rfl; exact h.ldE; rfl) | (apply WOps.purG; rfl; (intro _; rfl)))
 exact ⟨trivial, List.Sublist.refl _, [_], ⟨_, _, rfl, rfl, rfl⟩, rfl⟩
theorem RdAt.ldV {H Y R : HL} {p : Nat} {s : St} (h : RdAt B true H p s Y R) : ∃ v, Ld B H ⟨false, p, 1⟩ 1 [v] ∧ SlIs B H v 1 (s.1.map byC) := by
 obtain ⟨v, a, o, r⟩ := h
 exact ⟨v, Ld.perm r (Ld.own Tk.head rfl), src_sl (SrcIs.perm r (src_cons (SrcIs.left a)))⟩
theorem left90_ok {H Y R : HL} {p : Nat} {s : St} (h : RdAt B true H p s Y R) : WF B tab (.func 90) [.ptr ⟨false, p, 0⟩] H fun r H' => H' = H ∧ r = .int .i64 (.ofNat s.1.length) := by
 refine WF.fnR g90 rfl ?_
 obtain ⟨v, l, sl⟩ := h.ldV
 repeat' (first
  | apply WOps.nil | apply WC.seq | apply WC.reg | apply WC.skip | apply WC.ret | (apply WC.condF; rfl) | (apply WOps.ldG; rfl; rfl; exact l; rfl) | (apply WOps.lenS; rfl; rfl; exact sl) | (apply WOps.purG; rfl; (intro _; rfl)))
 exact ⟨trivial, List.Sublist.refl _, [_], ⟨_, _, rfl, rfl, rfl⟩, by rw [List.length_map]; rfl⟩
def doneS (s : St) : Nat := if s.2 = 0 then if 0 < s.1.length then 41 else 0 else s.2
set_option maxHeartbeats 1000000 in
theorem done49_ok {H Y R : HL} {p : Nat} {s : St} (h : RdAt B true H p s Y R) : WF B tab (.func 49) [.ptr ⟨false, p, 0⟩] H fun r H' => H' = H ∧ r = .int .i64 (.ofNat (doneS s)) := by
 refine WF.fnR g49 rfl ?_
 by_cases hs : s.2 = 0
 ·by_cases hl : 0 < s.1.length
  ·repeat' (first
    | apply WOps.nil | apply WC.seq | apply WC.reg | apply WC.skip | apply WC.ret | (apply WC.condT; rfl) | (apply WC.condF; rfl) | (apply WOps.cT; rfl; rfl; rfl; rfl; focus (simp only [cmpP, Int.ofNat_eq_natCast, List.length_cons, List.length_map, List.length_nil, Classical.not_not, not_true_eq_false, not_false_eq_true]; first | done | omega | decide)) | (apply WOps.cF; rfl; rfl; rfl; rfl; focus (simp only [cmpP, Int.ofNat_eq_natCast, List.length_cons, List.length_map, List.length_nil, Classical.not_not, not_true_eq_false, not_false_eq_true]; first | done | omega | decide)) | (apply WOps.cvR; rfl; rfl; rfl; exact wrong89_ok h; intro _ hv; subst hv) | (apply WOps.cvR; rfl; rfl; rfl; exact left90_ok h; intro _ hv; subst hv) | (apply WOps.purG; rfl; (intro _; rfl)))
   exact ⟨trivial, List.Sublist.refl _, [_], ⟨_, _, rfl, rfl, rfl⟩, by rw [doneS, if_pos hs, if_pos hl]; rfl⟩
  ·repeat' (first
    | apply WOps.nil | apply WC.seq | apply WC.reg | apply WC.skip | apply WC.ret | (apply WC.condF; rfl) | (apply WOps.cF; rfl; rfl; rfl; rfl; focus (simp only [cmpP, Int.ofNat_eq_natCast, List.length_cons, List.length_map, List.length_nil, Classical.not_not, not_true_eq_false, not_false_eq_true]; first | done | omega | decide)) | (apply WOps.cvR; rfl; rfl; rfl; exact wrong89_ok h; intro _ hv; subst hv) | (apply WOps.cvR; rfl; rfl; rfl; exact left90_ok h; intro _ hv; subst hv) | (apply WOps.purG; rfl; (intro _; rfl)))
   exact ⟨trivial, List.Sublist.refl _, [_], ⟨_, _, rfl, rfl, rfl⟩, by rw [doneS, if_pos hs, if_neg hl]; rfl⟩
 ·repeat' (first
   | apply WOps.nil | apply WC.seq | apply WC.reg | apply WC.ret | (apply WC.condT; rfl) | (apply WOps.cT; rfl; rfl; rfl; rfl; focus (simp only [cmpP, Int.ofNat_eq_natCast, List.length_cons, List.length_map, List.length_nil, Classical.not_not, not_true_eq_false, not_false_eq_true]; first | done | omega | decide)) | (apply WOps.cvR; rfl; rfl; rfl; exact wrong89_ok h; intro _ hv; subst hv) | (apply WOps.purG; rfl; (intro _; rfl)))
  exact ⟨trivial, List.Sublist.refl _, [_], ⟨_, _, rfl, rfl, rfl⟩, by rw [doneS, if_neg hs]; rfl⟩
set_option maxHeartbeats 1000000 in
theorem read40_ok {R : HL} {u : AV} {bs : List Nat} (sr : SrcIs B R u 1 bs.length (cellsOfStr bs)) (hb : byL bs) (hl : bs.length ≤ 140737488355328) : WF B tab (.func 40) [u] R fun r H' => ∃ p Y, r = .ptr ⟨false, p, 0⟩ ∧ RdAt B true H' p (bs, 0) Y R := by
 refine WF.fn g40 rfl ?_
 refine WC.seq (WC.reg ?_)
 repeat' (first
  | apply WOps.nil | (apply WOps.purG; rfl; (intro _; rfl)))
 refine WC.seq (WC.reg ?_)
 repeat' (first
  | (apply WOps.bsl; rfl; (· repeat' (first | rfl | assumption | apply ac1)); intro _) | (apply WOps.purG; rfl; (intro _; rfl)))
 rename_i q
 refine WOps.app (h := [(q, .row [])]) (R := R) (cells := []) (n := 0) (m := bs.length) (xs := cellsOfStr bs) rfl rfl rfl (.inr ⟨q, rfl, rfl, rfl⟩) (List.Perm.refl _) (src_cons sr) rfl (cells_of_str _) (by rw [cells_str_len, Nat.mul_one]) (by omega) ?_
 intro v h1 o
 rw [List.nil_append, Nat.zero_add] at o
 have os := o.src (B := B)
 have hv : v = .nilsl ∨ ∃ a n, v = .sl a n 1 := by
  rcases o with ⟨e, _⟩ | ⟨a, e, _⟩
  ·exact .inl e
  ·exact .inr ⟨_, _, e⟩
 clear o
 rcases hv with rfl | ⟨a, n, rfl⟩
 ·repeat' (first
   | apply WOps.nil | apply WC.ret | (apply WOps.bx; rfl; rfl; (· repeat' (first | rfl | assumption | apply ac1)); intro _) | (apply WOps.purG; rfl; (intro _; rfl)))
  rename_i p
  repeat' (first
   | apply WOps.nil | apply WC.reg | apply WC.skip | apply WC.ret | (apply WOps.bx; rfl; rfl; (· repeat' (first | rfl | assumption | apply ac1)); intro _) | (apply WOps.bsl; rfl; (· repeat' (first | rfl | assumption | apply ac1)); intro _) | (apply WOps.purG; rfl; (intro _; rfl)))
  exact ⟨trivial, [_], ⟨_, _, rfl, rfl, rfl⟩, p, h1, rfl, _, os, ⟨hb, by simp only; omega⟩, List.Perm.refl _⟩
 ·repeat' (first
   | apply WOps.nil | apply WC.ret | (apply WOps.bx; rfl; rfl; (· repeat' (first | rfl | assumption | apply ac1)); intro _) | (apply WOps.purG; rfl; (intro _; rfl)))
  rename_i p
  repeat' (first
   | apply WOps.nil | apply WC.reg | apply WC.skip | apply WC.ret | (apply WOps.bx; rfl; rfl; (· repeat' (first | rfl | assumption | apply ac1)); intro _) | (apply WOps.bsl; rfl; (· repeat' (first | rfl | assumption | apply ac1)); intro _) | (apply WOps.purG; rfl; (intro _; rfl)))
  exact ⟨trivial, [_], ⟨_, _, rfl, rfl, rfl⟩, p, h1, rfl, _, os, ⟨hb, by simp only; omega⟩, List.Perm.refl _⟩
end Go.Proofs.Ytdcbglljljfleaa.DU
