/- What the functions do, shown by the logic. -/
import Derived.Test.YtgpnpcahcegadaaGreatRoA
set_option linter.unusedSimpArgs false
set_option linter.unusedVariables false
set_option linter.unusedSectionVars false
set_option maxRecDepth 20000
namespace Go.Proofs.YtgpnpcahcegadaaGreat.RO
open Go.Proofs.YtgpnpcahcegadaaGreat.Abs
variable {B : Nat → List AV}
theorem at105_ok {H : HL} {c2 c3 a : Nat} {v : AV} {es : List (TE CV)} {key : List Nat} {m : Nat} (h2 : Ld B H ⟨false, c2, 0⟩ 1 [.ptr ⟨false, a, 0⟩]) (h3 : Ld B H ⟨false, c3, 0⟩ 1 [.str key]) (ha : Ld B H ⟨false, a, 1⟩ 1 [v])
  (hs : SlIs B H v 10 (es.map rowC)) (hm : m < es.length) :
  WF B tab (.func 105) [.int .i64 (.ofNat m), .ptr ⟨false, c2, 0⟩, .ptr ⟨false, c3, 0⟩] H fun r H' => H' = H ∧ ∃ b : Bool, r = .bool b ∧ (b = true ↔ ¬ strLess (es[m]).key key = true) := by
 have hc : (es.map rowC)[m]? = some (rowC es[m]) := by rw [List.getElem?_map, List.getElem?_eq_getElem hm]; rfl
 refine WF.fnR g105 rfl ?_
 repeat' (first
  | apply zC | apply zE | apply zD | apply zL | apply zT | apply zW | (apply zI; rfl; (apply at2; exact rd_ld0 rfl h2; exact same0)) | (apply zI; rfl; (apply at2; exact rd_ld0 rfl h3; exact same0)) | (apply zI; rfl; (apply at2; exact rd_ld0 rfl ha; exact same0)) | (apply WD.ixSl; rfl; rfl; rfl; exact hs; exact hc; intro ax hax) | (apply zI; rfl; (apply at2; exact rd_ld0 rfl (Ld.part (hax _ hs) 0 1 (by decide)); exact same0)) | (apply zB; rfl; (intro _; rfl)) | (apply WD.cmpT; rfl; rfl; rfl; rfl; intro _ _) | (apply zQ; rfl; (intro _; rfl)))
 refine ⟨trivial, List.Sublist.refl _, [_], ⟨_, [], rfl, rfl, rfl⟩, _, rfl, ?_⟩
 assumption
theorem at89_ok {H : HL} {a : Nat} {v : AV} {es : List (TE CV)} {key : List Nat} (ha : Ld B H ⟨false, a, 1⟩ 1 [v]) (hs : SlIs B H v 10 (es.map rowC)) (hn : es.length ≤ 4611686018427387903) (so : Sorted es) :
  WF B tab (.func 89) [.ptr ⟨false, a, 0⟩, .str key] H fun r H' => H' = H ∧ ∃ (k : Nat) (b : Bool), r = .tup [.int .i64 (.ofNat k), .bool b] ∧ isLeast (notBelow es key) es.length k ∧ (b = true ↔ ∃ h : k < es.length, es[k].key = key) := by
 refine WF.fnR g89 rfl ?_
 repeat' (first
  | apply zC | apply zE | apply zD | (apply zF; rfl; rfl; (first | exact ld0 rfl | exact ld1 rfl | exact ld2 rfl); rfl) | (apply yC; rfl; rfl; (· repeat' (first | rfl | assumption | apply ac1)); intro _) | (apply zF; rfl; rfl; exact ha.cons.cons; rfl) | (apply zU; rfl; rfl; exact hs.cons.cons) | (apply zB; rfl; (intro _; rfl)))
 rename_i c2 c3
 rw [List.length_map]
 have h2 : Ld B ((c3, .row (AV.str key).cells) :: (c2, .row (AV.ptr ⟨false, a, 0⟩).cells) :: H) ⟨false, c2, 0⟩ 1 [.ptr ⟨false, a, 0⟩] := Ld.own (Tk.tail zG) rfl
 have h3 : Ld B ((c3, .row (AV.str key).cells) :: (c2, .row (AV.ptr ⟨false, a, 0⟩).cells) :: H) ⟨false, c3, 0⟩ 1 [.str key] := Ld.own zG rfl
 have ha' : Ld B ((c3, .row (AV.str key).cells) :: (c2, .row (AV.ptr ⟨false, a, 0⟩).cells) :: H) ⟨false, a, 1⟩ 1 [v] := ha.cons.cons
 have hs' : SlIs B ((c3, .row (AV.str key).cells) :: (c2, .row (AV.ptr ⟨false, a, 0⟩).cells) :: H) v 10 (es.map rowC) := SlIs.cons (SlIs.cons hs)
 apply WOps.clR
 rfl
 rfl
 refine search104_ok es.length hn 105 _ (notBelow es key) (notBelow_mono so) fun m hm => WF.mono (at105_ok h2 h3 ha' hs' hm) ?_
 ·rintro r _ ⟨rfl, b, rfl, hb⟩
  exact ⟨rfl, b, rfl, hb.trans ⟨fun h => ⟨hm, h⟩, fun ⟨_, h⟩ => h⟩⟩
 rintro _ ⟨k, rfl, hk⟩
 repeat' (first
  | apply zC | apply zE | apply zL | apply zT | apply zW | (apply zI; rfl; (apply at2; exact rd_ld0 rfl h2; exact same0)) | (apply zI; rfl; (apply at2; exact rd_ld0 rfl ha'; exact same0)) | (apply WD.lenS; rfl; rfl; exact hs') | (apply zB; rfl; (intro _; rfl)) | (apply WD.cmp; rfl; rfl; rfl; rfl; intro _ _) | (apply zQ; rfl; (intro _; rfl)) | (apply WD.skp; rfl) | (apply WD.skpL; rfl) | (apply WD.ask; rfl; all_goals (intro hb; first | subst hb | fail_if_success (cases hb))))
 ·have hlt : k < es.length := by
   have h0 := ‹true = true ↔ cmpP BinOp.lss (Int.ofNat k) (Int.ofNat (List.map rowC es).length)›
   rw [List.length_map] at h0
   simp [cmpP] at h0; omega
  have hc : (es.map rowC)[k]? = some (rowC es[k]) := by rw [List.getElem?_map, List.getElem?_eq_getElem hlt]; rfl
  repeat' (first
   | apply zL | apply zW | (apply WD.ixSl; rfl; rfl; rfl; exact hs'; exact hc; intro ax hax) | (apply zI; rfl; (apply at2; exact rd_ld0 rfl (Ld.part (hax _ hs') 0 1 (by decide)); exact same0)) | (apply zI; rfl; (apply at2; exact rd_ld0 rfl h3; exact same0)) | (apply WD.cmpT; rfl; rfl; rfl; rfl; intro _ _) | (apply zQ; rfl; (intro _; rfl)))
  rename_i b hb
  refine ⟨trivial, (List.sublist_cons_self _ _).trans (List.sublist_cons_self _ _), [_, _], ⟨_, _, rfl, rfl, _, _, rfl, rfl, rfl⟩, k, _, rfl, hk, ?_⟩
  simp only [cmpS] at hb
  rw [hb]
  exact ⟨fun h => ⟨hlt, h⟩, fun ⟨_, h⟩ => h⟩
 ·have hge : ¬ k < es.length := by
   have h0 := ‹false = true ↔ cmpP BinOp.lss (Int.ofNat k) (Int.ofNat (List.map rowC es).length)›
   rw [List.length_map] at h0
   simp [cmpP] at h0; omega
  refine ⟨trivial, (List.sublist_cons_self _ _).trans (List.sublist_cons_self _ _), [_, _], ⟨_, _, rfl, rfl, _, _, rfl, rfl, rfl⟩, k, _, rfl, hk, ?_⟩
  simp [hge]
theorem none88_ok {H : HL} {a most : Nat} (h0 : Ld B H ⟨false, a, 0⟩ 1 [.int .i64 (.ofNat most)]) (hm : 1 ≤ most) : WF B tab (.func 88) [.ptr ⟨false, a, 0⟩] H fun r H' => H' = H ∧ r = .bool false := by
 refine WF.fnR g88 rfl ?_
 repeat' (first
  | apply zC | apply zE | apply zD | apply zL | (apply zF; rfl; rfl; exact h0; rfl) | (apply zM; rfl; rfl; rfl; rfl; intro _ _) | (apply zB; rfl; (intro _; rfl)))
 rename_i b hb
 refine ⟨trivial, List.Sublist.refl _, [_], ⟨_, [], rfl, rfl, rfl⟩, ?_⟩
 have : b = false := by
  rw [Bool.eq_false_iff]
  intro h
  have := hb.1 h
  simp [cmpP] at this
  omega
 rw [this]
 rfl
theorem new24_ok {H : HL} (m : Int) : WF B tab (.func 24) [.int .i64 m] H fun r H' => ∃ a, r = .ptr ⟨false, a, 0⟩ ∧ H' = (a, .row [.int .i64 (.ofNat (mostOf m)), .nilsl, .int .u64 (.ofNat 0)]) :: H := by
 refine WF.fn g24 rfl ?_
 repeat' (first
  | apply zC | apply zE | apply zD | apply zL | (apply yC; rfl; rfl; (· repeat' (first | rfl | assumption | apply ac1)); intro _) | (apply zB; rfl; (intro _; rfl)))
 refine ⟨trivial, [_], ⟨_, [], rfl, rfl, rfl⟩, _, rfl, ?_⟩
 have : (if Int.ofNat 64 < if Int.ofNat 1 > m then Int.ofNat 1 else m then Int.ofNat 64 else if Int.ofNat 1 > m then Int.ofNat 1 else m) = Int.ofNat (mostOf m) := by
  unfold mostOf
  simp only [Int.ofNat_eq_natCast, gt_iff_lt]
  split <;> split <;> (try split) <;> (try split) <;> omega
 rw [this]
 rfl
theorem raise58_ok {H : HL} {a most : Nat} {v : AV} {last ix : Int} (hm : 1 ≤ most) : WF B tab (.func 58) [.ptr ⟨false, a, 0⟩, .int .u64 ix] ((a, .row [.int .i64 (.ofNat most), v, .int .u64 last]) :: H) fun r H' => H' = (a, .row [.int .i64 (.ofNat most), v, .int .u64 (maxI last ix)]) :: H := by
 refine WF.fn g58 rfl ?_
 repeat' (first
  | apply zC | apply zE | apply zD | (apply zS; rfl) | (apply zF; rfl; rfl; (first | exact ld0 rfl | exact ld1 rfl | exact ld2 rfl); rfl) | (apply zP; rfl; rfl; (first | exact tk0 | exact tk1 | exact tk2); rfl; (· repeat' (first | rfl | assumption | apply ac1)); rfl) | (apply WOps.clR; rfl; rfl; exact none88_ok (Ld.own zG rfl) hm; rintro _ rfl) | (apply zB; rfl; (intro _; rfl)))
 exact ⟨trivial, [], rfl, rfl⟩
theorem last61_ok {H : HL} {a most : Nat} {last : Int} (h0 : Ld B H ⟨false, a, 0⟩ 1 [.int .i64 (.ofNat most)]) (hm : 1 ≤ most) (h2 : Ld B H ⟨false, a, 2⟩ 1 [.int .u64 last]) : WF B tab (.func 61) [.ptr ⟨false, a, 0⟩] H fun r H' => H' = H ∧ r = .int .u64 last := by
 refine WF.fnR g61 rfl ?_
 repeat' (first
  | apply zC | apply zE | apply zD | apply zJ | apply zL | (apply zO; rfl) | (apply WOps.clR; rfl; rfl; exact none88_ok h0 hm; rintro _ rfl) | (apply zF; rfl; rfl; exact h2; rfl) | (apply zB; rfl; (intro _; rfl)))
 exact ⟨trivial, List.Sublist.refl _, [_], ⟨_, [], rfl, rfl, rfl⟩, rfl⟩
theorem rowC_len {e : TE CV} : (rowC e).length = 10 := rfl
theorem rows_lenC : ∀ (es : List (TE CV)), (es.map rowC).flatten.length = es.length * 10 := by
 intro es
 induction es with
 | nil => rfl
 | cons e es ih => rw [List.map_cons, List.flatten_cons, List.length_append, ih, rowC_len, List.length_cons]; omega
theorem rows_cellC : ∀ (es : List (TE CV)), allCell (es.map rowC).flatten = true := by
 intro es
 rw [allCell_iff]
 intro v hv
 simp only [List.mem_flatten, List.mem_map] at hv
 obtain ⟨_, ⟨e, _, rfl⟩, hv⟩ := hv
 exact (allCell_iff _).1 (acRC e) v hv
theorem list85_ok {H : HL} {a most : Nat} {v : AV} {es : List (TE CV)} (h0 : Ld B H ⟨false, a, 0⟩ 1 [.int .i64 (.ofNat most)]) (hm : 1 ≤ most) (h1 : Ld B H ⟨false, a, 1⟩ 1 [v]) (o : SrcIs B H v 10 es.length (es.map rowC).flatten) (hn : es.length ≤ 1000) :
  WF B tab (.func 85) [.ptr ⟨false, a, 0⟩] H fun r H' => ∃ h', OwnSl r (es.map rowC).flatten es.length 10 h' ∧ H' = h' ++ H := by
 refine WF.fn g85 rfl ?_
 repeat' (first
  | apply zC | apply zE | apply zD | apply zJ | (apply zO; rfl) | (apply yF; rfl; (· repeat' (first | rfl | assumption | apply ac1)); intro _) | (apply WOps.clR; rfl; rfl; exact none88_ok h0 hm; rintro _ rfl) | (apply zF; rfl; rfl; exact h1.cons; rfl) | (apply zB; rfl; (intro _; rfl)))
 rename_i id
 refine yD (h := [(id, .row [])]) (cells := []) (n := 0) rfl rfl rfl (.inr ⟨id, rfl, rfl, rfl⟩) (List.Perm.refl _) (src_cons o) rfl (rows_cellC es) (rows_lenC es) (by omega) ?_
 intro v' h' o'
 repeat' (first
  | apply zC | apply zL | (apply zB; rfl; (intro _; rfl)))
 refine ⟨trivial, [_], ⟨_, [], rfl, rfl, rfl⟩, h', ?_, rfl⟩
 have o2 : OwnSl v' (es.map rowC).flatten es.length 10 h' := by simpa using o'
 exact o2
theorem rows_slC {v : AV} {es : List (TE CV)} {h : HL} (o : OwnSl v (es.map rowC).flatten es.length 10 h) : SlIs B h v 10 (es.map rowC) := by
 have o2 : OwnSl v (es.map rowC).flatten (es.map rowC).length 10 h := by simpa using o
 exact OwnSl.sl o2 (by intro c hc; simp only [List.mem_map] at hc; obtain ⟨e, _, rfl⟩ := hc; rfl)
theorem rows_takeC : ∀ {es : List (TE CV)} {k : Nat}, (es.map rowC).flatten.take (k * 10) = ((es.take k).map rowC).flatten := by
 intro es
 induction es with
 | nil => intro k; simp
 | cons x es ih =>
  intro k
  cases k with
  | zero => simp
  | succ k =>
   simp only [List.map_cons, List.flatten_cons, List.take_succ_cons]
   rw [List.take_append, rowC_len, List.take_of_length_le (by rw [rowC_len]; omega), show (k + 1) * 10 - 10 = k * 10 by omega, ih]
theorem rows_dropC : ∀ {es : List (TE CV)} {k : Nat}, (es.map rowC).flatten.drop (k * 10) = ((es.drop k).map rowC).flatten := by
 intro es
 induction es with
 | nil => intro k; simp
 | cons x es ih =>
  intro k
  cases k with
  | zero => simp
  | succ k =>
   simp only [List.map_cons, List.flatten_cons, List.drop_succ_cons]
   rw [List.drop_append, rowC_len, List.drop_eq_nil_of_le (by rw [rowC_len]; omega), show (k + 1) * 10 - 10 = k * 10 by omega, ih, List.nil_append]
theorem raise58_tk {H R : HL} {a most : Nat} {v : AV} {last ix : Int} (hm : 1 ≤ most) (tk : Tk H a (.row (tblC most v last)) R) : WF B tab (.func 58) [.ptr ⟨false, a, 0⟩, .int .u64 ix] H fun r H' => H' = (a, .row (tblC most v (maxI last ix))) :: R :=
 WF.perm tk (raise58_ok hm)
theorem flat_putC {A Cs : List (TE CV)} {z : List AV} {e : TE CV} (hz : z.length = 10) :
  let ds := (A.map rowC).flatten ++ (z ++ (Cs.map rowC).flatten)
  ds.take (A.length * 10) ++ (rowC e ++ ds.drop (A.length * 10 + 10)) = ((A ++ e :: Cs).map rowC).flatten := by
 have hl := rows_lenC A
 simp only
 rw [← hl, List.take_left, List.drop_append, List.drop_eq_nil_of_le (by omega), List.nil_append, Nat.add_sub_cancel_left, ← hz, List.drop_left]
 simp
theorem copy_rowsC {es : List (TE CV)} {k : Nat} {zz : List AV} (hk : k ≤ es.length) (hz : zz.length = 10) :
  ∃ z : List AV, z.length = 10 ∧ 
  ((es.map rowC).flatten ++ zz).take (0 + (k + 1) * 10) ++ ((((es.map rowC).flatten ++ zz).drop (k * 10)).take (min (es.length + 1 - k) (es.length + 1 - (k + 1)) * 10) ++ ((es.map rowC).flatten ++ zz).drop (0 + (k + 1) * 10 + min (es.length + 1 - k) (es.length + 1 - (k + 1)) * 10)) =
   ((es.take k).map rowC).flatten ++ (z ++ ((es.drop k).map rowC).flatten) := by
 have hA : ((es.take k).map rowC).flatten.length = k * 10 := by rw [rows_lenC, List.length_take]; omega
 have hC : ((es.drop k).map rowC).flatten.length = (es.length - k) * 10 := by rw [rows_lenC, List.length_drop]
 have he : (es.map rowC).flatten = ((es.take k).map rowC).flatten ++ ((es.drop k).map rowC).flatten := by
  rw [← List.flatten_append, ← List.map_append, List.take_append_drop]
 have hmin : min (es.length + 1 - k) (es.length + 1 - (k + 1)) = es.length - k := by omega
 rw [he, hmin]
 generalize ((es.take k).map rowC).flatten = Ar at *
 generalize ((es.drop k).map rowC).flatten = Cr at *
 refine ⟨(Cr ++ zz).take 10, by rw [List.length_take, List.length_append]; omega, ?_⟩
 have e1 : List.take (0 + (k + 1) * 10) (Ar ++ Cr ++ zz) = Ar ++ (Cr ++ zz).take 10 := by
  rw [List.append_assoc, List.take_append, List.take_of_length_le (by omega), hA]
  congr 2; omega
 have e2 : List.take ((es.length - k) * 10) (List.drop (k * 10) (Ar ++ Cr ++ zz)) = Cr := by
  rw [List.append_assoc, ← hA, List.drop_left, ← hC, List.take_left]
 have e3 : List.drop (0 + (k + 1) * 10 + (es.length - k) * 10) (Ar ++ Cr ++ zz) = [] := by
  rw [List.drop_eq_nil_iff, List.length_append, List.length_append]; omega
 rw [e1, e2, e3, List.append_nil, List.append_assoc]
theorem put_rowC {es : List (TE CV)} {k : Nat} {z vs : List AV} {e : TE CV} {A Cs : List (TE CV)} (hA : A.length = k) (hz : z.length = 10) (hv : vs = rowC e) :
  putN ((A.map rowC).flatten ++ (z ++ (Cs.map rowC).flatten)) (0 + k * 10) vs = some ((A ++ e :: Cs).map rowC).flatten := by
 subst hv hA
 have hl := rows_lenC A
 rw [putN_of (by rw [List.length_append, List.length_append, rowC_len, hz]; omega), Nat.zero_add, rowC_len]
 exact congrArg some (flat_putC hz)
set_option maxHeartbeats 4000000 in
theorem put47_ok {hs R : HL} {a most : Nat} {v : AV} {last : Int} {es : List (TE CV)} {e : TE CV} (hm : 1 ≤ most) (o : OwnSl v (es.map rowC).flatten es.length 10 hs) (hn : es.length ≤ 1000) (so : Rise es) (hmk : e.mke = e.ix) :
  WF B tab (.func 47) [.ptr ⟨false, a, 0⟩, .str e.key, .agg (valC e.v), .int .u64 e.ix] ((a, .row (tblC most v last)) :: (hs ++ R)) fun r H' =>
   ((findE es e.key = none ∧ most ≤ es.length) ∧ r = .tup [.agg (rowC zeC), .int .i64 (.ofNat 5)] ∧ H' = (a, .row (tblC most v last)) :: (hs ++ R)) ∨
   (¬ (findE es e.key = none ∧ most ≤ es.length) ∧ ∃ e' v' hs', r = .tup [.agg (rowC e'), .int .i64 (.ofNat 0)] ∧ OwnSl v' ((putE es e).map rowC).flatten (putE es e).length 10 hs' ∧ H' = (a, .row (tblC most v' (maxI last e.ix))) :: (hs' ++ R)) := by
 refine zY ?_
 refine WF.fn g47 rfl ?_
 have hsl : ∀ {H : HL}, SlIs B (H ++ (hs ++ R)) v 10 (es.map rowC) := SlIs.right (SlIs.left (rows_slC o))
 repeat' (first
  | apply zC | apply zE | apply zD | apply zJ | apply zL | (apply zS; rfl) | (apply zO; rfl) | apply zT | apply zW | (apply zF; rfl; rfl; (first | exact ld0 rfl | exact ld1 rfl | exact ld2 rfl); rfl) | (apply zP; rfl; rfl; (first | exact tk0 | exact tk1 | exact tk2); rfl; (· repeat' (first | rfl | assumption | apply ac1)); rfl) | (apply yE; rfl; intro _) | (apply yC; rfl; rfl; (· repeat' (first | rfl | assumption | apply ac1)); intro _) | (apply yF; rfl; (· repeat' (first | rfl | assumption | apply ac1)); intro _) | (apply WOps.clR; rfl; rfl; exact none88_ok (most := most) (Ld.own (Tk.tail (Tk.tail zG)) rfl) hm; rintro _ rfl) | (apply WOps.clR; rfl; rfl; exact at89_ok (v := v) (Ld.own (Tk.tail (Tk.tail zG)) rfl) (hsl (H := [_, _, _])) (by omega) (sorted_of so); rintro _ ⟨k, b, rfl, hk, hkb⟩; cases b) | (apply WD.lenO; rfl; rfl; exact o) | (apply zF; rfl; rfl; exact Ld.own (Tk.tail (Tk.tail (Tk.tail zG))) rfl; rfl) | (apply zB; rfl; (intro _; rfl)) | (apply zI; rfl; · repeat' (first | refine at1 ?_ rfl | apply at2 | exact same0 | refine same1 ?_ rfl | apply same2 | (first | exact rd0 rfl rfl rfl | exact rd1 rfl rfl rfl | exact rd2 rfl rfl rfl))) | (apply WD.cmp; rfl; rfl; rfl; rfl; intro _ _) | (apply zQ; rfl; (intro _; rfl)) | (apply WD.skp; rfl) | (apply WD.skpL; rfl) | (apply zN; rfl; all_goals (intro hb; try subst hb)))
 ·have hge := ‹true = true ↔ cmpP BinOp.geq (Int.ofNat es.length) (Int.ofNat most)›
  simp only [cmpP, true_iff, Int.ofNat_eq_natCast] at hge
  rcases find_at (sorted_of so) hk with ⟨h1, h2, h3⟩ | ⟨h1, h2⟩
  ·exact absurd (hkb.2 ⟨h1, h2⟩) (by simp)
  ·exact ⟨trivial, [_, _], ⟨_, _, rfl, ⟨_, _, rfl, Ld.own zG rfl, rfl⟩, _, _, rfl, rfl, rfl⟩, _, .inl ⟨⟨h2, by omega⟩, rfl, rfl⟩, subF (by intro f; simp only [AV.cells, pm] <;> omega)⟩
 ·have hge := ‹false = true ↔ cmpP BinOp.geq (Int.ofNat es.length) (Int.ofNat most)›
  simp only [cmpP, Bool.false_eq_true, false_iff, Int.ofNat_eq_natCast] at hge
  rename_i p6 p8 _ p12 q
  have hno : ¬ ∃ h : k < es.length, es[k].key = e.key := fun h => absurd (hkb.2 h) (by simp)
  have hk1 := hk.1
  refine yD (n := es.length) rfl rfl rfl o (List.perm_append_comm_assoc [_, _, _, _, _] hs R) (src_one zG rfl) (rows_cellC _) rfl rfl (by omega) ?_
  intro v2 h2 o2
  rcases o2 with ⟨_, hz, _⟩ | ⟨id2, rfl, rfl, hl2⟩
  ·omega
  simp only [List.cons_append, List.nil_append]
  repeat' (first
   | apply zC | apply zE | apply zT | (apply zP; rfl; rfl; exact Tk.tail (Tk.tail (Tk.tail (Tk.tail (Tk.tail zG)))); rfl; rfl; rfl) | (apply WD.addN; rfl; rfl; rfl; omega) | (apply WD.slLo; rfl; rfl; rfl; omega) | (apply zB; rfl; (intro _; rfl)) | (apply zI; rfl; · repeat' (first | refine at1 ?_ rfl | apply at2 | exact same0 | refine same1 ?_ rfl | apply same2 | (first | exact rd0 rfl rfl rfl | exact rd1 rfl rfl rfl | exact rd2 rfl rfl rfl))) | (apply zQ; rfl; (intro _; rfl)))
  have hlen : ((es.map rowC).flatten ++ rowC zeC).length = (es.length + 1) * 10 := hl2
  refine WD.cpy (sn := es.length + 1 - k) (off := 0 + (k + 1) * 10) (cs := ((es.map rowC).flatten ++ rowC zeC).drop (k * 10)) rfl rfl rfl (Tk.tail zG) (.inr ⟨_, rfl, .inr (Ld.own (Tk.tail zG) ?_)⟩) ?_ ?_ ?_
  ·show takeN (List.drop (0 + k * 10) ((es.map rowC).flatten ++ rowC zeC)) _ = _
   rw [Nat.zero_add, takeN_of (by rw [List.length_drop, hlen]; omega), List.take_of_length_le (by rw [List.length_drop, hlen]; omega)]
  ·rw [List.length_drop, hlen]; omega
  ·rw [hl2]; omega
  obtain ⟨z, hz, hX⟩ := copy_rowsC (es := es) (k := k) (zz := rowC zeC) hk1 rfl
  refine WD.heq (H' := (id2, .row (((es.take k).map rowC).flatten ++ (z ++ ((es.drop k).map rowC).flatten))) :: _) (by rw [← hX]; rfl) ?_
  have hput : putE es e = es.take k ++ e :: es.drop k := by
   rcases put_at (sorted_of so) hk with ⟨h1, h2, h3⟩ | ⟨h1, h2⟩
   ·exact absurd ⟨h1, h2⟩ hno
   ·exact h2
  have hf : findE es e.key = none := by
   rcases find_at (sorted_of so) hk with ⟨h1, h2, h3⟩ | ⟨h1, h2⟩
   ·exact absurd ⟨h1, h2⟩ hno
   ·exact h2
  repeat' (first
   | apply zT | apply zW | (apply zI; rfl; (apply at2; exact rd_ld rfl (Ld.own (Tk.tail (Tk.tail (Tk.tail zG))) rfl) rfl; exact same0)) | (apply WD.ixO; rfl; rfl; rfl; omega) | (apply zI; rfl; · repeat' (first | refine at1 ?_ rfl | apply at2 | exact same0 | refine same1 ?_ rfl | apply same2 | (first | exact rd0 rfl rfl rfl | exact rd1 rfl rfl rfl | exact rd2 rfl rfl rfl))) | (apply zQ; rfl; (intro _; rfl)))
  have hrow : rowC e = [.str e.key, .int .i64 e.v.node, .str e.v.id, .str e.v.svc, .str e.v.note, .int .i64 e.v.st, .int .u64 e.v.jm, .int .u64 e.v.ji, .int .u64 e.ix, .int .u64 e.ix] := by simp [rowC, hmk]
  refine WD.st rfl rfl rfl zG rfl rfl (put_rowC (es := es) (e := e) (by rw [List.length_take]; omega) hz hrow.symm) ?_
  repeat' (first
   | apply zC | apply zE | apply zD | apply zL | apply zW | (apply WOps.clA; rfl; rfl; exact raise58_tk hm (Tk.tail zG); rintro _ _ rfl) | (apply zF; rfl; rfl; exact Ld.own (Tk.tail (Tk.tail (Tk.tail zG))) rfl; rfl) | (apply zP; rfl; rfl; exact (Tk.tail (Tk.tail (Tk.tail (Tk.tail zG)))); rfl; rfl; rfl) | (apply zB; rfl; (intro _; rfl)))
  refine ⟨trivial, [_, _], ⟨_, _, rfl, ⟨_, _, rfl, Ld.own zG rfl, rfl⟩, _, _, rfl, rfl, rfl⟩, _, .inr ⟨fun h => hge (by omega), e, _, [(id2, _)], ?_, .inr ⟨id2, rfl, rfl, rows_lenC _⟩, rfl⟩, ?_⟩
  ·rw [hrow]; rfl
  ·have hln : (putE es e).length = es.length + 1 := by
    rw [hput, List.length_append, List.length_cons, List.length_take, List.length_drop]; omega
   rw [hln, hput]
   exact subF (by intro f; simp only [AV.cells, pm] <;> omega)
 ·rename_i p6 p8 p12
  obtain ⟨hlt, hkey⟩ := hkb.1 rfl
  rcases o with ⟨_, hz, _⟩ | ⟨id2, rfl, rfl, hl2⟩
  ·omega
  have hcm : (es.map rowC)[k]? = some (rowC es[k]) := by rw [List.getElem?_map, List.getElem?_eq_getElem hlt]; rfl
  have hput : putE es e = es.take k ++ { e with mke := es[k].mke } :: es.drop (k + 1) := by
   rcases put_at (sorted_of so) hk with ⟨h1, h2, h3⟩ | ⟨h1, h2⟩
   ·exact h3
   ·exact absurd ⟨hlt, hkey⟩ h1
  have hf : findE es e.key = some es[k] := by
   rcases find_at (sorted_of so) hk with ⟨h1, h2, h3⟩ | ⟨h1, h2⟩
   ·exact h3
   ·exact absurd ⟨hlt, hkey⟩ h1
  have hrows : (es.map rowC).flatten = ((es.take k).map rowC).flatten ++ (rowC es[k] ++ ((es.drop (k + 1)).map rowC).flatten) := by
   have h1 : (es.map rowC).flatten = ((es.take k).map rowC).flatten ++ ((es.drop k).map rowC).flatten := by
    rw [← List.flatten_append, ← List.map_append, List.take_append_drop]
   rw [h1, List.drop_eq_getElem_cons hlt, List.map_cons, List.flatten_cons]
  repeat' (first
   | apply zC | apply zT | (apply zP; rfl; rfl; (first | exact tk0 | exact tk1 | exact tk2); rfl; (· repeat' (first | rfl | assumption | apply ac1)); rfl) | (apply yA; rfl; rfl; rfl; exact hsl (H := [_, _, _, _]); exact hcm; intro ax hax) | (apply zF; rfl; rfl; exact Ld.part hax 8 1 (by decide); rfl) | (apply zI; rfl; (apply at2; exact rd_ld rfl (Ld.own (Tk.tail (Tk.tail (Tk.tail zG))) rfl) rfl; exact same0)) | (apply WD.ixO; rfl; rfl; rfl; omega) | (apply zB; rfl; (intro _; rfl)) | (apply zI; rfl; · repeat' (first | refine at1 ?_ rfl | apply at2 | exact same0 | refine same1 ?_ rfl | apply same2 | (first | exact rd0 rfl rfl rfl | exact rd1 rfl rfl rfl | exact rd2 rfl rfl rfl))) | (apply zQ; rfl; (intro _; rfl)))
  refine WD.st rfl rfl rfl (Tk.tail (Tk.tail (Tk.tail (Tk.tail zG)))) rfl rfl ((congrArg (fun x => putN x _ _) hrows).trans (put_rowC (es := es) (e := { e with mke := es[k].mke }) (by rw [List.length_take]; omega) rfl rfl)) ?_
  repeat' (first
   | apply zC | apply zE | apply zD | apply zL | apply zW | (apply zF; rfl; rfl; (first | exact ld0 rfl | exact ld1 rfl | exact ld2 rfl); rfl) | (apply WOps.clA; rfl; rfl; exact raise58_tk hm (Tk.tail (Tk.tail (Tk.tail (Tk.tail zG)))); rintro _ _ rfl) | (apply zP; rfl; rfl; exact (Tk.tail (Tk.tail (Tk.tail zG))); rfl; rfl; rfl) | (apply zB; rfl; (intro _; rfl)))
  refine ⟨trivial, [_, _], ⟨_, _, rfl, ⟨_, _, rfl, Ld.own zG rfl, rfl⟩, _, _, rfl, rfl, rfl⟩, _, .inr ⟨fun h => (by rw [hf] at h; cases h.1), { e with mke := es[k].mke }, _, [(id2, _)], rfl, .inr ⟨id2, rfl, rfl, rows_lenC _⟩, rfl⟩, ?_⟩
  have hln : (putE es e).length = es.length := by
   rw [hput, List.length_append, List.length_cons, List.length_take, List.length_drop]; omega
  rw [hln, hput]
  exact subF (by intro f; simp only [AV.cells, pm] <;> omega)
def TbC (H : HL) (a most : Nat) (es : List (TE CV)) (last : Int) (R : HL) : Prop := ∃ v hs, OwnSl v (es.map rowC).flatten es.length 10 hs ∧ H.Perm ((a, .row (tblC most v last)) :: (hs ++ R))
theorem TbC.cons {H R : HL} {a most : Nat} {es : List (TE CV)} {last : Int} {x : Nat × AObj} (h : TbC H a most es last R) : TbC (x :: H) a most es last (x :: R) := by
 obtain ⟨v, hs, o, p⟩ := h
 refine ⟨v, hs, o, ?_⟩
 exact (List.Perm.cons _ p).trans ((List.Perm.swap _ _ _).trans (List.Perm.cons _ List.perm_middle.symm))
theorem TbC.permR {H R R' : HL} {a most : Nat} {es : List (TE CV)} {last : Int} (h : TbC H a most es last R) (p : R.Perm R') : TbC H a most es last R' := by
 obtain ⟨v, hs, o, q⟩ := h
 exact ⟨v, hs, o, q.trans (List.Perm.cons _ (List.Perm.append_left _ p))⟩
theorem TbC.perm {H H' R : HL} {a most : Nat} {es : List (TE CV)} {last : Int} (h : TbC H a most es last R) (p : H'.Perm H) : TbC H' a most es last R := by
 obtain ⟨v, hs, o, q⟩ := h
 exact ⟨v, hs, o, p.trans q⟩
theorem TbC.tk {H R R' : HL} {a most : Nat} {es : List (TE CV)} {last : Int} {id : Nat} {o : AObj} (h : TbC H a most es last R) (k : Tk R id o R') : ∃ R2, Tk H id o R2 ∧ ∀ o', TbC ((id, o') :: R2) a most es last ((id, o') :: R') := by
 obtain ⟨v, hs, ow, q⟩ := h
 refine ⟨(a, .row (tblC most v last)) :: (hs ++ R'), ?_, fun o' => ?_⟩
 ·refine q.trans ?_
  refine (List.Perm.cons _ (List.Perm.append_left _ k)).trans ?_
  exact (List.Perm.cons _ List.perm_middle).trans (List.Perm.swap _ _ _)
 ·refine ⟨v, hs, ow, ?_⟩
  exact (List.Perm.swap _ _ _).trans (List.Perm.cons _ List.perm_middle.symm)
theorem TbC.ld {H R : HL} {a most : Nat} {es : List (TE CV)} {last : Int} {b : AA} {n : Nat} {l : List AV} (h : TbC H a most es last R) (k : Ld B R b n l) : Ld B H b n l := by
 obtain ⟨v, hs, ow, q⟩ := h
 exact Ld.perm q k.right.cons
theorem TbC.sl {H R : HL} {a most : Nat} {es : List (TE CV)} {last : Int} {w : AV} {n : Nat} {xs : List (List AV)} (h : TbC H a most es last R) (k : SlIs B R w n xs) : SlIs B H w n xs := by
 obtain ⟨v, hs, ow, q⟩ := h
 exact SlIs.perm q k.right.cons
theorem TbC.rd {H R : HL} {a most : Nat} {es : List (TE CV)} {last : Int} (h : TbC H a most es last R) :
  ∃ v, Ld B H ⟨false, a, 0⟩ 1 [.int .i64 (.ofNat most)] ∧ Ld B H ⟨false, a, 1⟩ 1 [v] ∧ Ld B H ⟨false, a, 2⟩ 1 [.int .u64 last] ∧ SrcIs B H v 10 es.length (es.map rowC).flatten ∧ SlIs B H v 10 (es.map rowC) := by
 obtain ⟨v, hs, ow, q⟩ := h
 exact ⟨v, Ld.perm q (Ld.own zG rfl), Ld.perm q (Ld.own zG rfl), Ld.perm q (Ld.own zG rfl), SrcIs.perm q (SrcIs.left ow.src).cons, SlIs.perm q (SlIs.cons (SlIs.left (rows_slC ow)))⟩
theorem TbC.less {H R R1 : HL} {a most : Nat} {es : List (TE CV)} {last : Int} (h : TbC H a most es last R) (p : SubP R1 R) : ∃ H3, TbC H3 a most es last R1 ∧ SubP H3 H := by
 obtain ⟨v, hs, ow, q⟩ := h
 obtain ⟨G, pg⟩ := p
 refine ⟨(a, .row (tblC most v last)) :: (hs ++ R1), ⟨v, hs, ow, List.Perm.refl _⟩, G, ?_⟩
 refine q.trans ?_
 simp only [List.cons_append, List.append_assoc]
 exact List.Perm.cons _ (List.Perm.append_left _ pg)
theorem put47_at {H R : HL} {a most : Nat} {last : Int} {es : List (TE CV)} {e : TE CV} (hm : 1 ≤ most) (hn : es.length ≤ 1000) (so : Rise es) (hmk : e.mke = e.ix) (t : TbC H a most es last R) :
  WF B tab (.func 47) [.ptr ⟨false, a, 0⟩, .str e.key, .agg (valC e.v), .int .u64 e.ix] H fun r H' =>
   ((findE es e.key = none ∧ most ≤ es.length) ∧ r = .tup [.agg (rowC zeC), .int .i64 (.ofNat 5)] ∧ TbC H' a most es last R) ∨
   (¬ (findE es e.key = none ∧ most ≤ es.length) ∧ ∃ e', r = .tup [.agg (rowC e'), .int .i64 (.ofNat 0)] ∧ TbC H' a most (putE es e) (maxI last e.ix) R) := by
 obtain ⟨v, hs, ow, q⟩ := t
 refine WF.perm q (WF.mono (put47_ok hm ow hn so hmk) ?_)
 rintro r H' (⟨h1, h2, rfl⟩ | ⟨h1, e', v', hs', h2, o', rfl⟩)
 ·exact .inl ⟨h1, h2, v, hs, ow, List.Perm.refl _⟩
 ·exact .inr ⟨h1, e', h2, v', hs', o', List.Perm.refl _⟩
theorem drop50_ok {hs R : HL} {a most : Nat} {v : AV} {last ix : Int} {es : List (TE CV)} {key : List Nat} (hm : 1 ≤ most) (o : OwnSl v (es.map rowC).flatten es.length 10 hs) (hn : es.length ≤ 1000) (so : Rise es) :
  WF B tab (.func 50) [.ptr ⟨false, a, 0⟩, .str key, .int .u64 ix] ((a, .row (tblC most v last)) :: (hs ++ R)) fun r H' =>
   (findE es key = none ∧ r = .bool false ∧ H' = (a, .row (tblC most v last)) :: (hs ++ R)) ∨
   ((∃ x, findE es key = some x) ∧ r = .bool true ∧ ∃ v' hs', OwnSl v' ((dropE es key).map rowC).flatten (dropE es key).length 10 hs' ∧ H' = (a, .row (tblC most v' (maxI last ix))) :: (hs' ++ R)) := by
 refine zY ?_
 refine WF.fn g50 rfl ?_
 have hsl : ∀ {H : HL}, SlIs B (H ++ (hs ++ R)) v 10 (es.map rowC) := SlIs.right (SlIs.left (rows_slC o))
 repeat' (first
  | apply zC | apply zE | apply zD | apply zJ | apply zL | (apply zS; rfl) | (apply zO; rfl) | apply zT | (apply WD.bsl; rfl; rfl; (· repeat' (first | rfl | assumption | apply ac1)); intro _) | (apply WOps.clR; rfl; rfl; exact none88_ok (most := most) (Ld.own zG rfl) hm; rintro _ rfl) | (apply WOps.clR; rfl; rfl; exact at89_ok (v := v) (Ld.own zG rfl) (hsl (H := [_])) (by omega) (sorted_of so); rintro _ ⟨k, b, rfl, hk, hkb⟩; cases b) | (apply zB; rfl; (intro _; rfl)) | (apply zI; rfl; · repeat' (first | refine at1 ?_ rfl | apply at2 | exact same0 | refine same1 ?_ rfl | apply same2 | (first | exact rd0 rfl rfl rfl | exact rd1 rfl rfl rfl | exact rd2 rfl rfl rfl))) | (apply zQ; rfl; (intro _; rfl)))
 ·rcases find_at (sorted_of so) hk with ⟨h1, h2, h3⟩ | ⟨h1, h2⟩
  ·have h := hkb.2 ⟨h1, h2⟩
   cases h
  ·exact ⟨trivial, [_], ⟨_, [], rfl, rfl, rfl⟩, _, .inl ⟨h2, rfl, rfl⟩, SubP.refl⟩
 ·obtain ⟨hlt, hkey⟩ := hkb.1 rfl
  rcases o with ⟨_, hz, _⟩ | ⟨id2, rfl, rfl, hl2⟩
  ·omega
  rename_i q
  have hdrop : dropE es key = es.take k ++ es.drop (k + 1) := by
   rcases drop_at (sorted_of so) hk with ⟨h1, h2, h3⟩ | ⟨h1, h2⟩
   ·exact h3
   ·exact absurd ⟨hlt, hkey⟩ h1
  have hf : findE es key = some es[k] := by
   rcases find_at (sorted_of so) hk with ⟨h1, h2, h3⟩ | ⟨h1, h2⟩
   ·exact h3
   ·exact absurd ⟨hlt, hkey⟩ h1
  repeat' (first
   | (apply WD.slHi; rfl; rfl; rfl; omega))
  refine WD.app (h := [(q, .row [])]) (cells := []) (n := 0) (m := k) (xs := ((es.take k).map rowC).flatten) rfl rfl rfl (.inr ⟨q, rfl, rfl, rfl⟩) (List.Perm.refl _) (.inr ⟨_, rfl, .inr (Ld.own (Tk.tail (Tk.tail zG)) ?_)⟩) rfl (rows_cellC _) (by rw [rows_lenC, List.length_take]; omega) (by omega) ?_
  ·show takeN (List.drop (0 + 0 * 10) _) _ = _
   rw [Nat.zero_mul, Nat.add_zero, List.drop_zero, takeN_of (by omega), rows_takeC]
  intro v2 h2 o2
  have hrd : ∀ {G : HL}, Ld B (G ++ (a, .row (tblC most (.sl ⟨false, id2, 0⟩ es.length 10) last)) :: ([(id2, .row (es.map rowC).flatten)] ++ R)) ⟨false, a, 0 + 1⟩ 1 [.sl ⟨false, id2, 0⟩ es.length 10] := Ld.right (Ld.own zG rfl)
  repeat' (first
   | (apply zI; rfl; (apply at2; exact rd_ld rfl hrd rfl; (apply same2; exact rd_ld rfl (hrd (G := [])) rfl; exact same0))) | (apply WD.addN; rfl; rfl; rfl; omega) | (apply WD.slLo; rfl; rfl; rfl; omega) | (apply zQ; rfl; (intro _; rfl)))
  have hdl : ((es.drop (k + 1)).map rowC).flatten.length = (es.length - (k + 1)) * 10 := by rw [rows_lenC, List.length_drop]
  have hsrc : SrcIs B (h2 ++ ((a, .row (tblC most (.sl ⟨false, id2, 0⟩ es.length 10) last)) :: ([(id2, .row (es.map rowC).flatten)] ++ R))) (.sl ⟨false, id2, 0 + (k + 1) * 10⟩ (es.length - (k + 1)) 10) 10 (es.length - (k + 1)) ((es.drop (k + 1)).map rowC).flatten := by
   refine .inr ⟨_, rfl, .inr (Ld.right (Ld.cons (Ld.own zG ?_)))⟩
   rw [Nat.zero_add, rows_dropC, takeN_of (by omega), List.take_of_length_le (by omega)]
  refine WD.app (h := h2) (n := k) rfl rfl rfl (by rw [Nat.zero_add] at o2; exact o2) (List.Perm.refl _) hsrc (rows_cellC _) (rows_cellC _) hdl (by omega) ?_
  intro v3 h3 o3
  have e : dropE es key = es.take k ++ es.drop (k + 1) := hdrop
  have o4 : OwnSl v3 ((dropE es key).map rowC).flatten (dropE es key).length 10 h3 := by
   rw [e, List.length_append, List.length_take, List.length_drop, List.map_append, List.flatten_append, Nat.min_eq_left (by omega)]
   exact o3
  repeat' (first
   | (apply zQ; rfl; (intro _; rfl)))
  apply WD.st (cs := tblC most (.sl ⟨false, id2, 0⟩ es.length 10) last) (cs' := tblC most v3 last)
  ·rfl
  ·rfl
  ·rfl
  ·exact List.perm_middle
  ·rw [o4.cells]; rfl
  ·rw [o4.cells]; exact allCell_cons o4.cell allCell_nil
  ·rw [o4.cells]; rfl
  repeat' (first
   | apply zC | apply zE | apply zD | apply zL | apply zW | (apply WOps.clA; rfl; rfl; exact raise58_tk hm zG; rintro _ _ rfl) | (apply zB; rfl; (intro _; rfl)))
  refine ⟨trivial, [_], ⟨_, [], rfl, rfl, rfl⟩, _, .inr ⟨⟨_, hf⟩, rfl, v3, h3, o4, rfl⟩, subF (by intro f; simp only [AV.cells, pm] <;> omega)⟩
theorem drop50_at {H R : HL} {a most : Nat} {last ix : Int} {es : List (TE CV)} {key : List Nat} (hm : 1 ≤ most) (hn : es.length ≤ 1000) (so : Rise es) (t : TbC H a most es last R) :
  WF B tab (.func 50) [.ptr ⟨false, a, 0⟩, .str key, .int .u64 ix] H fun r H' =>
   (findE es key = none ∧ r = .bool false ∧ TbC H' a most es last R) ∨ ((∃ x, findE es key = some x) ∧ r = .bool true ∧ TbC H' a most (dropE es key) (maxI last ix) R) := by
 obtain ⟨v, hs, ow, q⟩ := t
 refine WF.perm q (WF.mono (drop50_ok hm ow hn so) ?_)
 rintro r H' (⟨h1, h2, rfl⟩ | ⟨h1, h2, v', hs', o', rfl⟩)
 ·exact .inl ⟨h1, h2, v, hs, ow, List.Perm.refl _⟩
 ·exact .inr ⟨h1, h2, v', hs', o', List.Perm.refl _⟩
theorem copy81_ok {H : HL} {a most : Nat} {v : AV} {last : Int} {es : List (TE CV)} (h0 : Ld B H ⟨false, a, 0⟩ 1 [.int .i64 (.ofNat most)]) (hm : 1 ≤ most) (h1 : Ld B H ⟨false, a, 1⟩ 1 [v]) (h2 : Ld B H ⟨false, a, 2⟩ 1 [.int .u64 last]) (o : SrcIs B H v 10 es.length (es.map rowC).flatten) (hn : es.length ≤ 1000) :
  WF B tab (.func 81) [.ptr ⟨false, a, 0⟩] H fun r H' => ∃ a2 v' h', r = .ptr ⟨false, a2, 0⟩ ∧ OwnSl v' (es.map rowC).flatten es.length 10 h' ∧ H' = (a2, .row (tblC most v' last)) :: (h' ++ H) := by
 refine WF.fn g81 rfl ?_
 repeat' (first
  | apply zC | apply zE | apply zD | apply zJ | apply zL | (apply zO; rfl) | apply zT | apply zW | (apply WOps.clR; rfl; rfl; exact none88_ok h0 hm; rintro _ rfl) | (apply yI; rfl; rfl; exact list85_ok h0 hm h1 o hn; rintro v' _ ⟨h', o', rfl⟩; rcases id o' with ⟨rfl, _⟩ | ⟨id2, rfl, _⟩) | (apply WD.bx; rfl; rfl; rfl; rfl; intro _) | (apply zI; rfl; (apply at2; exact rd_ld0 rfl (Ld.right h0); (apply same2; exact rd_ld0 rfl h0; exact same0))) | (apply zI; rfl; (apply at2; exact rd_ld0 rfl (Ld.right h2); (apply same2; exact rd_ld0 rfl h2; exact same0))) | (apply zB; rfl; (intro _; rfl)) | (apply zQ; rfl; (intro _; rfl)))
 all_goals exact ⟨trivial, [_], ⟨_, [], rfl, rfl, rfl⟩, _, _, h', rfl, o', rfl⟩
theorem each109_ok {H : HL} {a most : Nat} {v : AV} {es : List (TE CV)} (h0 : Ld B H ⟨false, a, 0⟩ 1 [.int .i64 (.ofNat most)]) (hm : 1 ≤ most) (h1 : Ld B H ⟨false, a, 1⟩ 1 [v]) (o : SrcIs B H v 10 es.length (es.map rowC).flatten) (hn : es.length ≤ 1000) :
  WF B tab (.func 109) [.ptr ⟨false, a, 0⟩] H fun r H' => ∃ c v' h', r = .fn (.func 113) [] [.ptr ⟨false, c, 0⟩] ∧ OwnSl v' (es.map rowC).flatten es.length 10 h' ∧ H' = (c, .row [v']) :: (h' ++ H) := by
 refine WF.fn g109 rfl ?_
 repeat' (first
  | apply zC | apply zE | apply zD | (apply yE; rfl; intro _) | (apply WOps.clA; rfl; rfl; exact list85_ok h0 hm h1 o hn; rintro v' _ ⟨h', o', rfl⟩) | (apply zB; rfl; (intro _; rfl)))
 refine zP (cs' := [v']) rfl rfl zG (by rw [OwnSl.cells o']; rfl) (by rw [OwnSl.cells o']; exact allCell_cons o'.cell allCell_nil) (by rw [OwnSl.cells o']; rfl) ?_
 repeat' (first
  | apply zC | apply zE | apply zD | apply zL | (apply zB; rfl; (intro _; rfl)))
 exact ⟨trivial, [_], ⟨_, [], rfl, rfl, rfl⟩, _, v', h', rfl, o', rfl⟩
theorem iter113_ok {l c : Nat} {v : AV} {es : List (TE CV)} {H0 : HL} (hn : es.length ≤ 1000) (I : Nat → HL → Prop) (h0 : I 0 H0)
  (hc : ∀ i H, I i H → Ld B H ⟨false, c, 0⟩ 1 [v] ∧ SlIs B H v 10 (es.map rowC))
  (hy : ∀ i H (h : i < es.length) (H' : HL), I i H → H.Sublist H' → WF B tab (.yield l) [.agg (rowC es[i])] H' fun r H2 => r = .bool true ∧ ∃ H3, I (i + 1) H3 ∧ SubP H3 H2) :
  WF B tab (.func 113) [.fn (.yield l) [] [], .ptr ⟨false, c, 0⟩] H0 fun _ H' => ∃ H3, I es.length H3 ∧ H3.Sublist H' := by
 have hc0 := hc 0 H0 h0
 refine WF.fn g113 rfl ?_
 repeat' (first
  | apply zC | apply zE | apply zD | apply zK | (apply zF; rfl; rfl; exact hc0.1; rfl) | (apply zU; rfl; rfl; exact hc0.2) | (apply zB; rfl; (intro _; rfl)))
 rw [List.length_map]
 refine yG ?_
 obtain ⟨i, hi⟩ : ∃ i : Nat, i = 0 := ⟨0, rfl⟩
 obtain ⟨H, hH⟩ : ∃ H, H = H0 := ⟨H0, rfl⟩
 refine WL.le (t' := [(0, .fn (.yield l) [] []), (5, v), (6, .int .i64 (.ofNat es.length)), (7, .int .i64 (.ofNat i))]) (by subst hi; exact zA rfl (zA rfl (zA rfl (zA rfl zH)))) ?_
 refine WL.heq (H' := H) hH.symm ?_
 have hle : i ≤ es.length := by omega
 have hI : I i H := by rw [hi, hH]; exact h0
 clear hi hH hc0 h0
 induction hk : es.length - i using Nat.strongRecOn generalizing i H with | _ k ih => ?_
 have hcH := hc i H hI
 apply WL.step
 repeat' (first
  | apply zC | apply zE | apply zD | apply zJ | apply zZ | apply zK | (apply zM; rfl; rfl; rfl; rfl; intro _ _) | (apply zN; rfl; all_goals (intro hb; try subst hb)))
 ·have hlt : i < es.length := by
   have h0 := ‹true = true ↔ cmpP BinOp.lss (Int.ofNat i) (Int.ofNat es.length)›
   simp [cmpP] at h0; omega
  have hcm : (es.map rowC)[i]? = some (rowC es[i]) := by rw [List.getElem?_map, List.getElem?_eq_getElem hlt]; rfl
  repeat' (first
   | apply zC | apply zE | apply zD | apply zJ | (apply zO; rfl) | (apply zF; rfl; rfl; (first | exact ld0 rfl | exact ld1 rfl | exact ld2 rfl); rfl) | (apply zP; rfl; rfl; (first | exact tk0 | exact tk1 | exact tk2); rfl; (· repeat' (first | rfl | assumption | apply ac1)); rfl) | (apply yE; rfl; intro _) | (apply yA; rfl; rfl; rfl; exact hcH.2; exact hcm; intro ax hax) | (apply zF; rfl; rfl; exact hax; rfl) | (apply WOps.cyA; rfl; rfl; rfl; exact hy i H hlt _ hI (List.sublist_cons_self _ _); rintro _ H2 ⟨rfl, H3, hI3, hs3⟩) | (apply zR; rfl; rfl; rfl; omega) | (apply zB; rfl; (intro _; rfl)))
  refine WL.le (t' := [(0, .fn (.yield l) [] []), (5, v), (6, .int .i64 (.ofNat es.length)), (7, .int .i64 (.ofNat (i + 1)))]) (zA rfl (zA rfl (zA rfl (zA rfl zH)))) ?_
  exact yB hs3 (ih _ (by omega) (i + 1) H3 (by omega) hI3 rfl)
 ·have hge : ¬ i < es.length := by
   have h0 := ‹false = true ↔ cmpP BinOp.lss (Int.ofNat i) (Int.ofNat es.length)›
   simp [cmpP] at h0; omega
  obtain rfl : i = es.length := by omega
  exact ⟨trivial, [], rfl, H, hI, List.Sublist.refl _⟩
theorem range113C {nt : Nat} {f : AO} {ps : List Nat} {asg body : AC} {c : Nat} {v : AV} {es : List (TE CV)} {t : EL} {H R0 : HL} {Q : AExit → EL → HL → Prop} (hf : gl t f = some (.fn (.func 113) [] [.ptr ⟨false, c, 0⟩])) (hn : es.length ≤ 1000) (S : Nat → HL → Prop) (p0 : H.Perm R0) (h0 : S 0 R0)
  (hc : ∀ i R, S i R → Ld B R ⟨false, c, 0⟩ 1 [v] ∧ SlIs B R v 10 (es.map rowC))
  (hy : ∀ (l i : Nat) (R : HL) (hi : i < es.length), S i R → ∃ t1, setPsL ps [.agg (rowC es[i])] nt t = some t1 ∧ ∀ o, WC B tab nt (some l) asg t1 ((l, o) :: R) fun ex t2 H2 => ex = .normal ∧ ∃ R2, Tk H2 l o R2 ∧
   ∀ o2, WC B tab nt (some l) body t2 ((l, o2) :: R2) fun ex3 t3 H3 => ex3 = .normal ∧ ∃ R3 R4, Tk H3 l o2 R3 ∧ S (i + 1) R4 ∧ SubP R4 R3)
  (he : ∀ R, S es.length R → Q .normal t R) : WC B tab nt none (.rangef f ps asg body) t H Q := by
 refine WC.perm p0 (WC.rangef hf ?_)
 intro l env d le
 refine WF.mono (Q := fun _ H => ∃ R, S es.length R ∧ H = (l, .loop .ready none env nt ps asg body d) :: R) ?_ ?_
 ·refine WF.less ?_
  refine WF.mono (iter113_ok (v := v) (es := es) hn (fun i H => ∃ R, S i R ∧ H = (l, .loop .ready none env nt ps asg body d) :: R) ⟨R0, h0, rfl⟩ ?_ ?_) ?_
  ·rintro i _ ⟨R, hs, rfl⟩
   obtain ⟨h1, h2⟩ := hc i R hs
   exact ⟨h1.cons, h2.cons⟩
  ·rintro i _ hi H' ⟨R, hs, rfl⟩ sb
   obtain ⟨t1, ht1, w⟩ := hy l i R hi hs
   refine WF.ofSub sb (WF.yield le ht1 ((w _).mono ?_))
   rintro ex t2 H2 ⟨rfl, R2, k2, w2⟩
   refine ⟨rfl, R2, k2, (w2 _).mono ?_⟩
   rintro ex3 t3 H3 ⟨rfl, R3, R4, k3, s4, p4⟩
   refine ⟨R3, k3, rfl, ?_⟩
   exact ⟨_, ⟨R4, s4, rfl⟩, p4.cons⟩
  ·rintro _ _ ⟨H3, ⟨R, hs, rfl⟩, sb⟩
   exact ⟨_, ⟨R, hs, rfl⟩, sb⟩
 ·rintro _ _ ⟨R, hs, rfl⟩
  exact ⟨.ready, none, _, zG, by simp, he R hs⟩
end Go.Proofs.YtgpnpcahcegadaaGreat.RO
