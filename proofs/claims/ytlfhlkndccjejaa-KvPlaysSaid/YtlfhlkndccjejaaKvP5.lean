/- What the functions do, shown by the logic. -/
import Derived.Test.YtlfhlkndccjejaaKvP4
import Derived.Test.YtlfhlkndccjejaaAbsN2
set_option linter.unusedSimpArgs false
set_option linter.unusedVariables false
set_option maxRecDepth 20000
namespace Go.Proofs.Ytlfhlkndccjejaa.KV
open Go.Proofs.Ytlfhlkndccjejaa.Abs
variable {B : Nat → List AV}
/-- Both of them stand in the heap, beside R. -/
def Both2 (H : HL) (kp a w most : Nat) (sk sr : S) (R : HL) : Prop := ∃ v hs v2 hs2, OwnSl v (sk.es.map rowC).flatten sk.es.length 9 hs ∧ OwnSl v2 (sr.es.map entC).flatten sr.es.length 6 hs2 ∧
  H.Perm ((kp, .row [.ptr ⟨false, a, 0⟩]) :: (a, .row (tblC most v sk.last)) :: (hs ++ ((w, .row (tblC most v2 sr.last)) :: (hs2 ++ R))))
theorem Both2.kv {H R : HL} {kp a w most : Nat} {sk sr : S} (b : Both2 H kp a w most sk sr R) : ∃ X, KvAt H kp a most sk X ∧ ∀ H' sk' G, KvAt H' kp a most sk' (G ++ X) → Both2 H' kp a w most sk' sr (G ++ R) := by
  obtain ⟨v, hs, v2, hs2, o, o2, p⟩ := b
  refine ⟨(w, .row (tblC most v2 sr.last)) :: (hs2 ++ R), ⟨v, hs, o, p.trans (permF (by intro f; simp only [AV.cells, List.append_eq, List.map_cons, List.map_nil, List.sum_nil, List.map_append, List.sum_cons, List.sum_append, List.cons_append, List.nil_append, List.append_assoc, List.append_nil]; omega))⟩, ?_⟩
  rintro H' sk' G ⟨v', hs', o', p'⟩
  exact ⟨v', hs', v2, hs2, o', o2, p'.trans (permF (by intro f; simp only [AV.cells, List.append_eq, List.map_cons, List.map_nil, List.sum_nil, List.map_append, List.sum_cons, List.sum_append, List.cons_append, List.nil_append, List.append_assoc, List.append_nil]; omega))⟩
theorem Both2.rv {H R : HL} {kp a w most : Nat} {sk sr : S} (b : Both2 H kp a w most sk sr R) : ∃ X, RvAt H w most sr X ∧ ∀ H' sr' G, RvAt H' w most sr' (G ++ X) → Both2 H' kp a w most sk sr' (G ++ R) := by
  obtain ⟨v, hs, v2, hs2, o, o2, p⟩ := b
  refine ⟨(kp, .row [.ptr ⟨false, a, 0⟩]) :: (a, .row (tblC most v sk.last)) :: (hs ++ R), ⟨v2, hs2, o2, p.trans (permF (by intro f; simp only [AV.cells, List.append_eq, List.map_cons, List.map_nil, List.sum_nil, List.map_append, List.sum_cons, List.sum_append, List.cons_append, List.nil_append, List.append_assoc, List.append_nil]; omega))⟩, ?_⟩
  rintro H' sr' G ⟨v', hs', o', p'⟩
  exact ⟨v, hs, v', hs', o, o', p'.trans (permF (by intro f; simp only [AV.cells, List.append_eq, List.map_cons, List.map_nil, List.sum_nil, List.map_append, List.sum_cons, List.sum_append, List.cons_append, List.nil_append, List.append_assoc, List.append_nil]; omega))⟩
theorem Both2.cons {H R : HL} {kp a w most : Nat} {sk sr : S} {x : Nat × AObj} (b : Both2 H kp a w most sk sr R) : Both2 (x :: H) kp a w most sk sr (x :: R) := by
  obtain ⟨v, hs, v2, hs2, o, o2, p⟩ := b
  exact ⟨v, hs, v2, hs2, o, o2, (List.Perm.cons _ p).trans (permF (by intro f; simp only [AV.cells, List.append_eq, List.map_cons, List.map_nil, List.sum_nil, List.map_append, List.sum_cons, List.sum_append, List.cons_append, List.nil_append, List.append_assoc, List.append_nil]; omega))⟩
theorem Both2.app {H R : HL} {kp a w most : Nat} {sk sr : S} (b : Both2 H kp a w most sk sr R) (G : HL) : Both2 (G ++ H) kp a w most sk sr (G ++ R) := by
  induction G with
  | nil => exact b
  | cons x G ih => exact ih.cons
theorem Both2.less {H R R1 : HL} {kp a w most : Nat} {sk sr : S} (b : Both2 H kp a w most sk sr R) (q : SubP R1 R) : ∃ H3, Both2 H3 kp a w most sk sr R1 ∧ SubP H3 H := by
  obtain ⟨v, hs, v2, hs2, o, o2, p⟩ := b
  obtain ⟨G, pg⟩ := q
  refine ⟨_, ⟨v, hs, v2, hs2, o, o2, List.Perm.refl _⟩, G, p.trans ?_⟩
  refine permF fun f => ?_
  have := sum_perm pg f
  simp only [List.map_append, List.sum_append, List.map_cons, List.sum_cons] at this ⊢
  omega
theorem Both2.ld {H R : HL} {kp a w most : Nat} {sk sr : S} {c : AA} {n : Nat} {l : List AV} (b : Both2 H kp a w most sk sr R) (h : Ld B R c n l) : Ld B H c n l := by
  obtain ⟨v, hs, v2, hs2, o, o2, p⟩ := b
  exact Ld.perm p (Ld.cons (Ld.cons (Ld.right (Ld.cons (Ld.right h)))))
theorem Both2.sl {H R : HL} {kp a w most : Nat} {sk sr : S} {c : AV} {n : Nat} {l : List (List AV)} (b : Both2 H kp a w most sk sr R) (h : SlIs B R c n l) : SlIs B H c n l := by
  obtain ⟨v, hs, v2, hs2, o, o2, p⟩ := b
  exact SlIs.perm p (SlIs.cons (SlIs.cons (SlIs.right (SlIs.cons (SlIs.right h)))))
section on
variable {H R : HL} {kp a w most : Nat} {sk sr s2 : S} {f : AFn} {args : List AV}
theorem onK {P : AV → Prop} (h : ∀ X, KvAt H kp a most sk X → WF B tab f args H fun r H' => P r ∧ KvAt H' kp a most s2 X) (b : Both2 H kp a w most sk sr R) : WF B tab f args H fun r H' => P r ∧ Both2 H' kp a w most s2 sr R := by
  obtain ⟨X, k, g⟩ := b.kv
  exact (h X k).mono fun r H' ⟨p, k'⟩ => ⟨p, g H' s2 [] k'⟩
theorem onR {P : AV → Prop} (h : ∀ X, RvAt H w most sr X → WF B tab f args H fun r H' => P r ∧ RvAt H' w most s2 X) (b : Both2 H kp a w most sk sr R) : WF B tab f args H fun r H' => P r ∧ Both2 H' kp a w most sk s2 R := by
  obtain ⟨X, k, g⟩ := b.rv
  exact (h X k).mono fun r H' ⟨p, k'⟩ => ⟨p, g H' s2 [] k'⟩
theorem onKG {P : AV → HL → Prop} (h : ∀ X, KvAt H kp a most sk X → WF B tab f args H fun r H' => ∃ hw, P r hw ∧ KvAt H' kp a most s2 (hw ++ X)) (b : Both2 H kp a w most sk sr R) : WF B tab f args H fun r H' => ∃ hw, P r hw ∧ Both2 H' kp a w most s2 sr (hw ++ R) := by
  obtain ⟨X, k, g⟩ := b.kv
  exact (h X k).mono fun r H' ⟨hw, p, k'⟩ => ⟨hw, p, g H' s2 hw k'⟩
theorem onRG {P : AV → HL → Prop} (h : ∀ X, RvAt H w most sr X → WF B tab f args H fun r H' => ∃ hw, P r hw ∧ RvAt H' w most s2 (hw ++ X)) (b : Both2 H kp a w most sk sr R) : WF B tab f args H fun r H' => ∃ hw, P r hw ∧ Both2 H' kp a w most sk s2 (hw ++ R) := by
  obtain ⟨X, k, g⟩ := b.rv
  exact (h X k).mono fun r H' ⟨hw, p, k'⟩ => ⟨hw, p, g H' s2 hw k'⟩
end on
theorem WD.eqlS {t : EL} {H : HL} {HH : List (Nat × HL)} {Q : EL → HL → Prop} {os : List DOper} {k : Nat} {g : Option (Nat × Bool)} {i bs : Nat} {x y : AO} {ki : IntKind} {m : Int} (hg : wantedL g t = some true) (hx : gl t x = some (.int ki m)) (hy : gl t y = some (.int ki m))
    (w : WD B tab os ((k, .bool true) :: t) H HH Q) : WD B tab (⟨⟨some k, .bin .eql x y, g⟩, .quiet, i, bs⟩ :: os) t H HH Q := by
  refine WD.cmp (op := .eql) rfl hg hx hy fun v hv => ?_
  have : v = true := hv.2 rfl
  rw [this]; exact w
theorem WOps.eqlN {t : EL} {H : HL} {Q : EL → HL → Prop} {os : List AOper} {k : Nat} {g : Option (Nat × Bool)} {x y : AO} {ki : IntKind} {m n : Int} (hg : wantedL g t = some true) (hx : gl t x = some (.int ki m)) (hy : gl t y = some (.int ki n)) (hne : ¬ m = n)
    (w : WOps B tab os ((k, .bool false) :: t) H Q) : WOps B tab (⟨some k, .bin .eql x y, g⟩ :: os) t H Q := by
  refine WOps.cmp (op := .eql) rfl hg hx hy fun v hv => ?_
  have : v = false := by rw [Bool.eq_false_iff]; exact fun h => hne (hv.1 h)
  rw [this]; exact w
theorem lt_list_len {s : S} (h : s.es.length ≤ 999) : s.es.length ≤ 1000 := by omega
def Inv (most : Nat) (s : S) : Prop := Rise s.es ∧ s.es.length ≤ most
theorem Inv.put {most : Nat} {s : S} {e : E} {ix : Int} (h : Inv most s) : Inv most (putS most s e ix).1 := by
  unfold putS
  split
  · exact h
  · rename_i hf
    refine ⟨rise_put h.1, ?_⟩
    rcases put_len (es := s.es) (e := atIx e ix) with hl | hl
    · have h2 := h.2
      show (putE s.es (atIx e ix)).length ≤ most
      rw [hl]
      cases hx : findE s.es (atIx e ix).key with
      | some x => simp only; omega
      | none =>
        simp only
        have : ¬ fullP most s.es e.key := fun k => hf (fullB_iff.2 k)
        have h3 : ¬ most ≤ s.es.length := fun k => this ⟨hx, k⟩
        omega
    · exact absurd h.1 hl
theorem Inv.drop {most : Nat} {s : S} {key : List Nat} {ix : Int} (h : Inv most s) : Inv most (dropS s key ix) := by
  unfold dropS
  split
  · exact h
  · exact ⟨rise_drop h.1, Nat.le_trans drop_len h.2⟩
theorem Inv.apply {most : Nat} {s : S} {key : List Nat} {asks : List (E → Bool → Nat)} {d : Option (E → E)} {ix : Int} (h : Inv most s) : Inv most (applyS most s key asks d ix).1 := by
  unfold applyS
  split
  · split
    · cases d with
      | none => exact h.drop
      | some f => exact h.put
    · exact h
  · exact h
theorem Inv.free {most : Nat} {s : S} {ses ix : Int} (h : Inv most s) : Inv most (freeS s ses ix) := by
  unfold freeS
  split
  · exact h
  · exact ⟨freeI_rise h.1, by rw [freeI_len]; exact h.2⟩
theorem strs_T {l : List (List Nat)} : ∀ (i : Nat) c, (l.map strC)[i]? = some c → AllT [CT.str] c := by
  intro i c h
  rw [List.getElem?_map] at h
  cases hx : l[i]? with
  | none => rw [hx] at h; cases h
  | some e => rw [hx] at h; cases h; exact ⟨_, _, rfl, ⟨_, rfl⟩, rfl⟩
theorem TbAt.sub {H R : HL} {a most : Nat} {es : List E} {last : Int} (t : TbAt H a most es last R) : SubP R H := by
  obtain ⟨v, hs, o, p⟩ := t
  exact ⟨(a, .row (tblC most v last)) :: hs, p.trans (permF (by intro f; simp only [AV.cells, List.append_eq, List.map_cons, List.map_nil, List.sum_nil, List.map_append, List.sum_cons, List.sum_append, List.cons_append, List.nil_append, List.append_assoc, List.append_nil]; omega))⟩
theorem SubP.trans {A C D : HL} (h : SubP A C) (k : SubP C D) : SubP A D := by
  obtain ⟨G, p⟩ := h
  obtain ⟨G2, q⟩ := k
  exact ⟨G ++ G2, q.trans (by rw [← List.append_assoc]; exact p.append_right G2)⟩
theorem WD.neqS {t : EL} {H : HL} {HH : List (Nat × HL)} {Q : EL → HL → Prop} {os : List DOper} {k : Nat} {g : Option (Nat × Bool)} {i bs : Nat} {x y : AO} {ki : IntKind} {m : Int} (hg : wantedL g t = some true) (hx : gl t x = some (.int ki m)) (hy : gl t y = some (.int ki m))
    (w : WD B tab os ((k, .bool false) :: t) H HH Q) : WD B tab (⟨⟨some k, .bin .neq x y, g⟩, .quiet, i, bs⟩ :: os) t H HH Q := by
  refine WD.cmp (op := .neq) rfl hg hx hy fun v hv => ?_
  have : v = false := by rw [Bool.eq_false_iff]; exact fun h => hv.1 h rfl
  rw [this]; exact w
section step
variable {H R : HL} {kp a w most : Nat} {s : S} {key val : List Nat} {old ses ix : Int}
theorem del74_f (hn : s.es.length ≤ 999) (so : Rise s.es) (t : RvAt H w most s R) : WF B tab (.func 74) [.ptr ⟨false, w, 0⟩, .str key, .bool false, .int .u64 old, .int .u64 ix] H fun r H' => r = .int .i64 (.ofNat (delS most s key ix).2) ∧ RvAt H' w most (delS most s key ix).1 R := by
  have := del74_ok (B := B) (key := key) (cas := false) (old := old) (ix := ix) hn so t
  simpa only [Bool.false_eq_true, if_false] using this
theorem del74_t (hn : s.es.length ≤ 999) (so : Rise s.es) (t : RvAt H w most s R) : WF B tab (.func 74) [.ptr ⟨false, w, 0⟩, .str key, .bool true, .int .u64 old, .int .u64 ix] H fun r H' => r = .int .i64 (.ofNat (delCasS most s key old ix).2) ∧ RvAt H' w most (delCasS most s key old ix).1 R := by
  have := del74_ok (B := B) (key := key) (cas := true) (old := old) (ix := ix) hn so t
  simpa only [if_true] using this
theorem list23_k {kp a : Nat} {pre : List Nat} (hm : 1 ≤ most) (hn : s.es.length ≤ 999) (hp : pre.length ≤ 9223372036854775807) (t : KvAt H kp a most s R) : WF B tab (.func 23) [.ptr ⟨false, kp, 0⟩, .str pre] H fun r H' => ∃ hw, OwnSl r ((under pre s.es).map entC).flatten (under pre s.es).length 6 hw ∧ KvAt H' kp a most s (hw ++ R) := by
  refine (list23_at hm (by omega) hp (Ld.own Tk.head rfl) t).mono ?_
  rintro r _ ⟨h', o, rfl⟩
  exact ⟨h', o, (TbAt.app t h').permR (permF (by intro f; simp only [AV.cells, List.append_eq, List.map_cons, List.map_nil, List.sum_nil, List.map_append, List.sum_cons, List.sum_append, List.cons_append, List.nil_append, List.append_assoc, List.append_nil]; omega))⟩
set_option maxHeartbeats 2000000 in
theorem step27_0 (hm : 1 ≤ most) (hn : s.es.length ≤ 999) (so : Rise s.es) (b : Both2 H kp a w most s s R) :
    WF B tab (.func 27) [.ptr ⟨false, kp, 0⟩, .ptr ⟨false, w, 0⟩, .agg [.int .i64 (Int.ofNat 0), .str key, .str val, .int .u64 old, .int .u64 ses, .int .u64 ix]] H fun r H' => r = .bool true ∧ Both2 H' kp a w most (setS most s key val ix).1 (setS most s key val ix).1 R := by
  refine WF.lessP ?_
  refine WF.fn g27 rfl ?_
  repeat' (first
    | apply WOps.nil | apply WC.seq | apply WC.reg | apply WC.skip | apply WC.ret | (apply WC.condT; rfl) | (apply WC.condF; rfl) | apply WC.block | apply WC.dreg | apply WD.nil | (apply WOps.ldG; rfl; rfl; (first | exact ld0 rfl | exact ld1 rfl | exact ld2 rfl); rfl) | (apply WOps.bx; rfl; rfl; (first | rfl | ((repeat' (first | exact ac0 | apply ac1)) <;> (first | rfl | assumption))); intro _) | (apply WD.clA; rfl; rfl; exact onK (fun X k => set65_ok hm hn so k) b.cons; rintro _ H1 ⟨rfl, b1⟩) | (apply WD.clA; rfl; rfl; exact onR (fun X k => set71_ok hn so k) b1; rintro _ H2 ⟨rfl, b2⟩) | (apply WD.load; rfl; (apply at2; exact rd_ld rfl (b1.ld (ld0 rfl)) rfl; (apply same2; exact rd0 rfl rfl rfl; exact same0))) | (apply WD.eqlS; rfl; rfl; rfl) | (apply WOps.neqF; rfl; rfl; rfl; decide) | (apply WOps.neqT; rfl; rfl; rfl; decide) | (apply WOps.eqlF; rfl; rfl; rfl; decide) | (apply WOps.eqlT; rfl; rfl; rfl; decide) | (apply WD.neqF; rfl; rfl; rfl; decide) | (apply WD.neqT; rfl; rfl; rfl; decide) | (apply WD.eqlF; rfl; rfl; rfl; decide) | (apply WD.eqlT; rfl; rfl; rfl; decide) | (apply WOps.cmp; rfl; rfl; rfl; rfl; intro _ _) | (apply WOps.cmpT; rfl; rfl; rfl; rfl; intro _ _) | (apply WOps.purG; rfl; (intro _; rfl)) | (apply WOps.skp; rfl) | (apply WD.load; rfl; (first | (apply at1; (first | exact rd0 rfl rfl rfl | exact rd1 rfl rfl rfl | exact rd2 rfl rfl rfl); rfl) | (apply at2; (first | exact rd0 rfl rfl rfl | exact rd1 rfl rfl rfl | exact rd2 rfl rfl rfl); repeat' (first | exact same0 | (apply same1; (first | exact rd0 rfl rfl rfl | exact rd1 rfl rfl rfl | exact rd2 rfl rfl rfl); rfl) | (apply same2; (first | exact rd0 rfl rfl rfl | exact rd1 rfl rfl rfl | exact rd2 rfl rfl rfl)))))) | (apply WD.cmp; rfl; rfl; rfl; rfl; intro _ _) | (apply WD.cmpT; rfl; rfl; rfl; rfl; intro _ _) | (apply WD.pur; rfl; (intro _; rfl)) | (apply WD.skp; rfl) | (apply WD.skpL; rfl) | (apply WD.skpX; rfl) | (apply WOps.ask; rfl; all_goals (intro hb; first | subst hb | fail_if_success (cases hb))) | (apply WC.condA; rfl; all_goals (intro hb; try subst hb)) | (apply WD.ask; rfl; all_goals (intro hb; first | subst hb | fail_if_success (cases hb))))
  obtain ⟨H3, b3, s3⟩ := b2.less (R1 := R) (subF (by intro f; simp only [AV.cells, List.append_eq, List.map_cons, List.map_nil, List.sum_nil, List.map_append, List.sum_cons, List.sum_append, List.cons_append, List.nil_append, List.append_assoc, List.append_nil]; omega))
  exact ⟨trivial, [_], ⟨_, [], rfl, rfl, rfl⟩, H3, ⟨rfl, b3⟩, s3⟩
set_option maxHeartbeats 2000000 in
theorem step27_1 (hm : 1 ≤ most) (hn : s.es.length ≤ 999) (so : Rise s.es) (b : Both2 H kp a w most s s R) :
    WF B tab (.func 27) [.ptr ⟨false, kp, 0⟩, .ptr ⟨false, w, 0⟩, .agg [.int .i64 (Int.ofNat 1), .str key, .str val, .int .u64 old, .int .u64 ses, .int .u64 ix]] H fun r H' => r = .bool true ∧ Both2 H' kp a w most (casS most s key val old ix).1 (casS most s key val old ix).1 R := by
  refine WF.lessP ?_
  refine WF.fn g27 rfl ?_
  repeat' (first
    | apply WOps.nil | apply WC.seq | apply WC.reg | apply WC.skip | apply WC.ret | (apply WC.condT; rfl) | (apply WC.condF; rfl) | apply WC.block | apply WC.dreg | apply WD.nil | (apply WOps.ldG; rfl; rfl; (first | exact ld0 rfl | exact ld1 rfl | exact ld2 rfl); rfl) | (apply WOps.bx; rfl; rfl; (first | rfl | ((repeat' (first | exact ac0 | apply ac1)) <;> (first | rfl | assumption))); intro _) | (apply WD.clA; rfl; rfl; exact onK (fun X k => cas30_ok hm hn so k) b.cons; rintro _ H1 ⟨rfl, b1⟩) | (apply WD.clA; rfl; rfl; exact onR (fun X k => cas72_ok hn so k) b1; rintro _ H2 ⟨rfl, b2⟩) | (apply WD.load; rfl; (apply at2; exact rd_ld rfl (b1.ld (ld0 rfl)) rfl; (apply same2; exact rd0 rfl rfl rfl; exact same0))) | (apply WD.eqlS; rfl; rfl; rfl) | (apply WOps.neqF; rfl; rfl; rfl; decide) | (apply WOps.neqT; rfl; rfl; rfl; decide) | (apply WOps.eqlF; rfl; rfl; rfl; decide) | (apply WOps.eqlT; rfl; rfl; rfl; decide) | (apply WD.neqF; rfl; rfl; rfl; decide) | (apply WD.neqT; rfl; rfl; rfl; decide) | (apply WD.eqlF; rfl; rfl; rfl; decide) | (apply WD.eqlT; rfl; rfl; rfl; decide) | (apply WOps.cmp; rfl; rfl; rfl; rfl; intro _ _) | (apply WOps.cmpT; rfl; rfl; rfl; rfl; intro _ _) | (apply WOps.purG; rfl; (intro _; rfl)) | (apply WOps.skp; rfl) | (apply WD.load; rfl; (first | (apply at1; (first | exact rd0 rfl rfl rfl | exact rd1 rfl rfl rfl | exact rd2 rfl rfl rfl); rfl) | (apply at2; (first | exact rd0 rfl rfl rfl | exact rd1 rfl rfl rfl | exact rd2 rfl rfl rfl); repeat' (first | exact same0 | (apply same1; (first | exact rd0 rfl rfl rfl | exact rd1 rfl rfl rfl | exact rd2 rfl rfl rfl); rfl) | (apply same2; (first | exact rd0 rfl rfl rfl | exact rd1 rfl rfl rfl | exact rd2 rfl rfl rfl)))))) | (apply WD.cmp; rfl; rfl; rfl; rfl; intro _ _) | (apply WD.cmpT; rfl; rfl; rfl; rfl; intro _ _) | (apply WD.pur; rfl; (intro _; rfl)) | (apply WD.skp; rfl) | (apply WD.skpL; rfl) | (apply WD.skpX; rfl) | (apply WOps.ask; rfl; all_goals (intro hb; first | subst hb | fail_if_success (cases hb))) | (apply WC.condA; rfl; all_goals (intro hb; try subst hb)) | (apply WD.ask; rfl; all_goals (intro hb; first | subst hb | fail_if_success (cases hb))))
  obtain ⟨H3, b3, s3⟩ := b2.less (R1 := R) (subF (by intro f; simp only [AV.cells, List.append_eq, List.map_cons, List.map_nil, List.sum_nil, List.map_append, List.sum_cons, List.sum_append, List.cons_append, List.nil_append, List.append_assoc, List.append_nil]; omega))
  exact ⟨trivial, [_], ⟨_, [], rfl, rfl, rfl⟩, H3, ⟨rfl, b3⟩, s3⟩
set_option maxHeartbeats 2000000 in
theorem step27_2 (hm : 1 ≤ most) (hn : s.es.length ≤ 999) (so : Rise s.es) (b : Both2 H kp a w most s s R) :
    WF B tab (.func 27) [.ptr ⟨false, kp, 0⟩, .ptr ⟨false, w, 0⟩, .agg [.int .i64 (Int.ofNat 2), .str key, .str val, .int .u64 old, .int .u64 ses, .int .u64 ix]] H fun r H' => r = .bool true ∧ Both2 H' kp a w most (delS most s key ix).1 (delS most s key ix).1 R := by
  refine WF.lessP ?_
  refine WF.fn g27 rfl ?_
  repeat' (first
    | apply WOps.nil | apply WC.seq | apply WC.reg | apply WC.skip | apply WC.ret | (apply WC.condT; rfl) | (apply WC.condF; rfl) | apply WC.block | apply WC.dreg | apply WD.nil | (apply WOps.ldG; rfl; rfl; (first | exact ld0 rfl | exact ld1 rfl | exact ld2 rfl); rfl) | (apply WOps.bx; rfl; rfl; (first | rfl | ((repeat' (first | exact ac0 | apply ac1)) <;> (first | rfl | assumption))); intro _) | (apply WD.clA; rfl; rfl; exact onK (fun X k => del73_ok hm hn so k) b.cons; rintro _ H1 ⟨rfl, b1⟩) | (apply WD.clA; rfl; rfl; exact onR (fun X k => del74_f hn so k) b1; rintro _ H2 ⟨rfl, b2⟩) | (apply WD.load; rfl; (apply at2; exact rd_ld rfl (b1.ld (ld0 rfl)) rfl; (apply same2; exact rd0 rfl rfl rfl; exact same0))) | (apply WD.eqlS; rfl; rfl; rfl) | (apply WOps.neqF; rfl; rfl; rfl; decide) | (apply WOps.neqT; rfl; rfl; rfl; decide) | (apply WOps.eqlF; rfl; rfl; rfl; decide) | (apply WOps.eqlT; rfl; rfl; rfl; decide) | (apply WD.neqF; rfl; rfl; rfl; decide) | (apply WD.neqT; rfl; rfl; rfl; decide) | (apply WD.eqlF; rfl; rfl; rfl; decide) | (apply WD.eqlT; rfl; rfl; rfl; decide) | (apply WOps.cmp; rfl; rfl; rfl; rfl; intro _ _) | (apply WOps.cmpT; rfl; rfl; rfl; rfl; intro _ _) | (apply WOps.purG; rfl; (intro _; rfl)) | (apply WOps.skp; rfl) | (apply WD.load; rfl; (first | (apply at1; (first | exact rd0 rfl rfl rfl | exact rd1 rfl rfl rfl | exact rd2 rfl rfl rfl); rfl) | (apply at2; (first | exact rd0 rfl rfl rfl | exact rd1 rfl rfl rfl | exact rd2 rfl rfl rfl); repeat' (first | exact same0 | (apply same1; (first | exact rd0 rfl rfl rfl | exact rd1 rfl rfl rfl | exact rd2 rfl rfl rfl); rfl) | (apply same2; (first | exact rd0 rfl rfl rfl | exact rd1 rfl rfl rfl | exact rd2 rfl rfl rfl)))))) | (apply WD.cmp; rfl; rfl; rfl; rfl; intro _ _) | (apply WD.cmpT; rfl; rfl; rfl; rfl; intro _ _) | (apply WD.pur; rfl; (intro _; rfl)) | (apply WD.skp; rfl) | (apply WD.skpL; rfl) | (apply WD.skpX; rfl) | (apply WOps.ask; rfl; all_goals (intro hb; first | subst hb | fail_if_success (cases hb))) | (apply WC.condA; rfl; all_goals (intro hb; try subst hb)) | (apply WD.ask; rfl; all_goals (intro hb; first | subst hb | fail_if_success (cases hb))))
  obtain ⟨H3, b3, s3⟩ := b2.less (R1 := R) (subF (by intro f; simp only [AV.cells, List.append_eq, List.map_cons, List.map_nil, List.sum_nil, List.map_append, List.sum_cons, List.sum_append, List.cons_append, List.nil_append, List.append_assoc, List.append_nil]; omega))
  exact ⟨trivial, [_], ⟨_, [], rfl, rfl, rfl⟩, H3, ⟨rfl, b3⟩, s3⟩
set_option maxHeartbeats 2000000 in
theorem step27_3 (hm : 1 ≤ most) (hn : s.es.length ≤ 999) (so : Rise s.es) (b : Both2 H kp a w most s s R) :
    WF B tab (.func 27) [.ptr ⟨false, kp, 0⟩, .ptr ⟨false, w, 0⟩, .agg [.int .i64 (Int.ofNat 3), .str key, .str val, .int .u64 old, .int .u64 ses, .int .u64 ix]] H fun r H' => r = .bool true ∧ Both2 H' kp a w most (delCasS most s key old ix).1 (delCasS most s key old ix).1 R := by
  refine WF.lessP ?_
  refine WF.fn g27 rfl ?_
  repeat' (first
    | apply WOps.nil | apply WC.seq | apply WC.reg | apply WC.skip | apply WC.ret | (apply WC.condT; rfl) | (apply WC.condF; rfl) | apply WC.block | apply WC.dreg | apply WD.nil | (apply WOps.ldG; rfl; rfl; (first | exact ld0 rfl | exact ld1 rfl | exact ld2 rfl); rfl) | (apply WOps.bx; rfl; rfl; (first | rfl | ((repeat' (first | exact ac0 | apply ac1)) <;> (first | rfl | assumption))); intro _) | (apply WD.clA; rfl; rfl; exact onK (fun X k => delcas75_ok hm hn so k) b.cons; rintro _ H1 ⟨rfl, b1⟩) | (apply WD.clA; rfl; rfl; exact onR (fun X k => del74_t hn so k) b1; rintro _ H2 ⟨rfl, b2⟩) | (apply WD.load; rfl; (apply at2; exact rd_ld rfl (b1.ld (ld0 rfl)) rfl; (apply same2; exact rd0 rfl rfl rfl; exact same0))) | (apply WD.eqlS; rfl; rfl; rfl) | (apply WOps.neqF; rfl; rfl; rfl; decide) | (apply WOps.neqT; rfl; rfl; rfl; decide) | (apply WOps.eqlF; rfl; rfl; rfl; decide) | (apply WOps.eqlT; rfl; rfl; rfl; decide) | (apply WD.neqF; rfl; rfl; rfl; decide) | (apply WD.neqT; rfl; rfl; rfl; decide) | (apply WD.eqlF; rfl; rfl; rfl; decide) | (apply WD.eqlT; rfl; rfl; rfl; decide) | (apply WOps.cmp; rfl; rfl; rfl; rfl; intro _ _) | (apply WOps.cmpT; rfl; rfl; rfl; rfl; intro _ _) | (apply WOps.purG; rfl; (intro _; rfl)) | (apply WOps.skp; rfl) | (apply WD.load; rfl; (first | (apply at1; (first | exact rd0 rfl rfl rfl | exact rd1 rfl rfl rfl | exact rd2 rfl rfl rfl); rfl) | (apply at2; (first | exact rd0 rfl rfl rfl | exact rd1 rfl rfl rfl | exact rd2 rfl rfl rfl); repeat' (first | exact same0 | (apply same1; (first | exact rd0 rfl rfl rfl | exact rd1 rfl rfl rfl | exact rd2 rfl rfl rfl); rfl) | (apply same2; (first | exact rd0 rfl rfl rfl | exact rd1 rfl rfl rfl | exact rd2 rfl rfl rfl)))))) | (apply WD.cmp; rfl; rfl; rfl; rfl; intro _ _) | (apply WD.cmpT; rfl; rfl; rfl; rfl; intro _ _) | (apply WD.pur; rfl; (intro _; rfl)) | (apply WD.skp; rfl) | (apply WD.skpL; rfl) | (apply WD.skpX; rfl) | (apply WOps.ask; rfl; all_goals (intro hb; first | subst hb | fail_if_success (cases hb))) | (apply WC.condA; rfl; all_goals (intro hb; try subst hb)) | (apply WD.ask; rfl; all_goals (intro hb; first | subst hb | fail_if_success (cases hb))))
  obtain ⟨H3, b3, s3⟩ := b2.less (R1 := R) (subF (by intro f; simp only [AV.cells, List.append_eq, List.map_cons, List.map_nil, List.sum_nil, List.map_append, List.sum_cons, List.sum_append, List.cons_append, List.nil_append, List.append_assoc, List.append_nil]; omega))
  exact ⟨trivial, [_], ⟨_, [], rfl, rfl, rfl⟩, H3, ⟨rfl, b3⟩, s3⟩
set_option maxHeartbeats 2000000 in
theorem step27_4 (hm : 1 ≤ most) (hn : s.es.length ≤ 999) (so : Rise s.es) (b : Both2 H kp a w most s s R) :
    WF B tab (.func 27) [.ptr ⟨false, kp, 0⟩, .ptr ⟨false, w, 0⟩, .agg [.int .i64 (Int.ofNat 4), .str key, .str val, .int .u64 old, .int .u64 ses, .int .u64 ix]] H fun r H' => r = .bool true ∧ Both2 H' kp a w most (lockS most s key val ses ix).1 (lockS most s key val ses ix).1 R := by
  refine WF.lessP ?_
  refine WF.fn g27 rfl ?_
  repeat' (first
    | apply WOps.nil | apply WC.seq | apply WC.reg | apply WC.skip | apply WC.ret | (apply WC.condT; rfl) | (apply WC.condF; rfl) | apply WC.block | apply WC.dreg | apply WD.nil | (apply WOps.ldG; rfl; rfl; (first | exact ld0 rfl | exact ld1 rfl | exact ld2 rfl); rfl) | (apply WOps.bx; rfl; rfl; (first | rfl | ((repeat' (first | exact ac0 | apply ac1)) <;> (first | rfl | assumption))); intro _) | (apply WD.clA; rfl; rfl; exact onK (fun X k => lock31_ok hm hn so k) b.cons; rintro _ H1 ⟨rfl, b1⟩) | (apply WD.clA; rfl; rfl; exact onR (fun X k => lock32_ok hn so k) b1; rintro _ H2 ⟨rfl, b2⟩) | (apply WD.load; rfl; (apply at2; exact rd_ld rfl (b1.ld (ld0 rfl)) rfl; (apply same2; exact rd0 rfl rfl rfl; exact same0))) | (apply WD.eqlS; rfl; rfl; rfl) | (apply WOps.neqF; rfl; rfl; rfl; decide) | (apply WOps.neqT; rfl; rfl; rfl; decide) | (apply WOps.eqlF; rfl; rfl; rfl; decide) | (apply WOps.eqlT; rfl; rfl; rfl; decide) | (apply WD.neqF; rfl; rfl; rfl; decide) | (apply WD.neqT; rfl; rfl; rfl; decide) | (apply WD.eqlF; rfl; rfl; rfl; decide) | (apply WD.eqlT; rfl; rfl; rfl; decide) | (apply WOps.cmp; rfl; rfl; rfl; rfl; intro _ _) | (apply WOps.cmpT; rfl; rfl; rfl; rfl; intro _ _) | (apply WOps.purG; rfl; (intro _; rfl)) | (apply WOps.skp; rfl) | (apply WD.load; rfl; (first | (apply at1; (first | exact rd0 rfl rfl rfl | exact rd1 rfl rfl rfl | exact rd2 rfl rfl rfl); rfl) | (apply at2; (first | exact rd0 rfl rfl rfl | exact rd1 rfl rfl rfl | exact rd2 rfl rfl rfl); repeat' (first | exact same0 | (apply same1; (first | exact rd0 rfl rfl rfl | exact rd1 rfl rfl rfl | exact rd2 rfl rfl rfl); rfl) | (apply same2; (first | exact rd0 rfl rfl rfl | exact rd1 rfl rfl rfl | exact rd2 rfl rfl rfl)))))) | (apply WD.cmp; rfl; rfl; rfl; rfl; intro _ _) | (apply WD.cmpT; rfl; rfl; rfl; rfl; intro _ _) | (apply WD.pur; rfl; (intro _; rfl)) | (apply WD.skp; rfl) | (apply WD.skpL; rfl) | (apply WD.skpX; rfl) | (apply WOps.ask; rfl; all_goals (intro hb; first | subst hb | fail_if_success (cases hb))) | (apply WC.condA; rfl; all_goals (intro hb; try subst hb)) | (apply WD.ask; rfl; all_goals (intro hb; first | subst hb | fail_if_success (cases hb))))
  obtain ⟨H3, b3, s3⟩ := b2.less (R1 := R) (subF (by intro f; simp only [AV.cells, List.append_eq, List.map_cons, List.map_nil, List.sum_nil, List.map_append, List.sum_cons, List.sum_append, List.cons_append, List.nil_append, List.append_assoc, List.append_nil]; omega))
  exact ⟨trivial, [_], ⟨_, [], rfl, rfl, rfl⟩, H3, ⟨rfl, b3⟩, s3⟩
set_option maxHeartbeats 2000000 in
theorem step27_5 (hm : 1 ≤ most) (hn : s.es.length ≤ 999) (so : Rise s.es) (b : Both2 H kp a w most s s R) :
    WF B tab (.func 27) [.ptr ⟨false, kp, 0⟩, .ptr ⟨false, w, 0⟩, .agg [.int .i64 (Int.ofNat 5), .str key, .str val, .int .u64 old, .int .u64 ses, .int .u64 ix]] H fun r H' => r = .bool true ∧ Both2 H' kp a w most (unlockS most s key val ses ix).1 (unlockS most s key val ses ix).1 R := by
  refine WF.lessP ?_
  refine WF.fn g27 rfl ?_
  repeat' (first
    | apply WOps.nil | apply WC.seq | apply WC.reg | apply WC.skip | apply WC.ret | (apply WC.condT; rfl) | (apply WC.condF; rfl) | apply WC.block | apply WC.dreg | apply WD.nil | (apply WOps.ldG; rfl; rfl; (first | exact ld0 rfl | exact ld1 rfl | exact ld2 rfl); rfl) | (apply WOps.bx; rfl; rfl; (first | rfl | ((repeat' (first | exact ac0 | apply ac1)) <;> (first | rfl | assumption))); intro _) | (apply WD.clA; rfl; rfl; exact onK (fun X k => unlock76_ok hm hn so k) b.cons; rintro _ H1 ⟨rfl, b1⟩) | (apply WD.clA; rfl; rfl; exact onR (fun X k => unlock77_ok hn so k) b1; rintro _ H2 ⟨rfl, b2⟩) | (apply WD.load; rfl; (apply at2; exact rd_ld rfl (b1.ld (ld0 rfl)) rfl; (apply same2; exact rd0 rfl rfl rfl; exact same0))) | (apply WD.eqlS; rfl; rfl; rfl) | (apply WOps.neqF; rfl; rfl; rfl; decide) | (apply WOps.neqT; rfl; rfl; rfl; decide) | (apply WOps.eqlF; rfl; rfl; rfl; decide) | (apply WOps.eqlT; rfl; rfl; rfl; decide) | (apply WD.neqF; rfl; rfl; rfl; decide) | (apply WD.neqT; rfl; rfl; rfl; decide) | (apply WD.eqlF; rfl; rfl; rfl; decide) | (apply WD.eqlT; rfl; rfl; rfl; decide) | (apply WOps.cmp; rfl; rfl; rfl; rfl; intro _ _) | (apply WOps.cmpT; rfl; rfl; rfl; rfl; intro _ _) | (apply WOps.purG; rfl; (intro _; rfl)) | (apply WOps.skp; rfl) | (apply WD.load; rfl; (first | (apply at1; (first | exact rd0 rfl rfl rfl | exact rd1 rfl rfl rfl | exact rd2 rfl rfl rfl); rfl) | (apply at2; (first | exact rd0 rfl rfl rfl | exact rd1 rfl rfl rfl | exact rd2 rfl rfl rfl); repeat' (first | exact same0 | (apply same1; (first | exact rd0 rfl rfl rfl | exact rd1 rfl rfl rfl | exact rd2 rfl rfl rfl); rfl) | (apply same2; (first | exact rd0 rfl rfl rfl | exact rd1 rfl rfl rfl | exact rd2 rfl rfl rfl)))))) | (apply WD.cmp; rfl; rfl; rfl; rfl; intro _ _) | (apply WD.cmpT; rfl; rfl; rfl; rfl; intro _ _) | (apply WD.pur; rfl; (intro _; rfl)) | (apply WD.skp; rfl) | (apply WD.skpL; rfl) | (apply WD.skpX; rfl) | (apply WOps.ask; rfl; all_goals (intro hb; first | subst hb | fail_if_success (cases hb))) | (apply WC.condA; rfl; all_goals (intro hb; try subst hb)) | (apply WD.ask; rfl; all_goals (intro hb; first | subst hb | fail_if_success (cases hb))))
  obtain ⟨H3, b3, s3⟩ := b2.less (R1 := R) (subF (by intro f; simp only [AV.cells, List.append_eq, List.map_cons, List.map_nil, List.sum_nil, List.map_append, List.sum_cons, List.sum_append, List.cons_append, List.nil_append, List.append_assoc, List.append_nil]; omega))
  exact ⟨trivial, [_], ⟨_, [], rfl, rfl, rfl⟩, H3, ⟨rfl, b3⟩, s3⟩
set_option maxHeartbeats 2000000 in
theorem step27_6 (hm : 1 ≤ most) (hn : s.es.length ≤ 999) (so : Rise s.es) (b : Both2 H kp a w most s s R) :
    WF B tab (.func 27) [.ptr ⟨false, kp, 0⟩, .ptr ⟨false, w, 0⟩, .agg [.int .i64 (Int.ofNat 6), .str key, .str val, .int .u64 old, .int .u64 ses, .int .u64 ix]] H fun r H' => r = .bool true ∧ Both2 H' kp a w most (freeS s ses ix) (freeS s ses ix) R := by
  refine WF.lessP ?_
  refine WF.fn g27 rfl ?_
  repeat' (first
    | apply WOps.nil | apply WC.seq | apply WC.reg | apply WC.skip | apply WC.ret | (apply WC.condT; rfl) | (apply WC.condF; rfl) | apply WC.block | apply WC.dreg | apply WD.nil | (apply WOps.ldG; rfl; rfl; (first | exact ld0 rfl | exact ld1 rfl | exact ld2 rfl); rfl) | (apply WOps.bx; rfl; rfl; (first | rfl | ((repeat' (first | exact ac0 | apply ac1)) <;> (first | rfl | assumption))); intro _) | (apply WD.clA; rfl; rfl; exact onKG (fun X k => free78_ok hm hn so k) b.cons; rintro r1 H1 ⟨h1, o1, b1⟩) | (apply WD.clA; rfl; rfl; exact onRG (fun X k => free79_ok hn so k) b1; rintro r2 H2 ⟨h2, o2, b2⟩) | (apply WD.load; rfl; (apply at2; exact rd_ld rfl (b1.ld (Ld.right (ld0 rfl))) rfl; (apply same2; exact rd0 rfl rfl rfl; exact same0))) | (apply WD.clR; rfl; rfl; exact same56_ok (b2.sl (SlIs.right (SlIs.left (strs_sl o1)))) (b2.sl (SlIs.left (strs_sl o2))) strs_T strs_T (by rw [List.length_map]; unfold freeR; split; simp; (have := heldK_len (ses := ses) (es := s.es); omega)); rintro _ ⟨bb, rfl, hbb⟩) | (apply WOps.neqF; rfl; rfl; rfl; decide) | (apply WOps.neqT; rfl; rfl; rfl; decide) | (apply WOps.eqlF; rfl; rfl; rfl; decide) | (apply WOps.eqlT; rfl; rfl; rfl; decide) | (apply WD.neqF; rfl; rfl; rfl; decide) | (apply WD.neqT; rfl; rfl; rfl; decide) | (apply WD.eqlF; rfl; rfl; rfl; decide) | (apply WD.eqlT; rfl; rfl; rfl; decide) | (apply WOps.cmp; rfl; rfl; rfl; rfl; intro _ _) | (apply WOps.cmpT; rfl; rfl; rfl; rfl; intro _ _) | (apply WOps.purG; rfl; (intro _; rfl)) | (apply WOps.skp; rfl) | (apply WD.load; rfl; (first | (apply at1; (first | exact rd0 rfl rfl rfl | exact rd1 rfl rfl rfl | exact rd2 rfl rfl rfl); rfl) | (apply at2; (first | exact rd0 rfl rfl rfl | exact rd1 rfl rfl rfl | exact rd2 rfl rfl rfl); repeat' (first | exact same0 | (apply same1; (first | exact rd0 rfl rfl rfl | exact rd1 rfl rfl rfl | exact rd2 rfl rfl rfl); rfl) | (apply same2; (first | exact rd0 rfl rfl rfl | exact rd1 rfl rfl rfl | exact rd2 rfl rfl rfl)))))) | (apply WD.cmp; rfl; rfl; rfl; rfl; intro _ _) | (apply WD.cmpT; rfl; rfl; rfl; rfl; intro _ _) | (apply WD.pur; rfl; (intro _; rfl)) | (apply WD.skp; rfl) | (apply WD.skpL; rfl) | (apply WD.skpX; rfl) | (apply WOps.ask; rfl; all_goals (intro hb; first | subst hb | fail_if_success (cases hb))) | (apply WC.condA; rfl; all_goals (intro hb; try subst hb)) | (apply WD.ask; rfl; all_goals (intro hb; first | subst hb | fail_if_success (cases hb))))
  obtain ⟨H3, b3, s3⟩ := b2.less (R1 := R) (subF (by intro f; simp only [AV.cells, List.append_eq, List.map_cons, List.map_nil, List.sum_nil, List.map_append, List.sum_cons, List.sum_append, List.cons_append, List.nil_append, List.append_assoc, List.append_nil]; omega))
  refine ⟨trivial, [_], ⟨_, [], rfl, rfl, rfl⟩, H3, ⟨?_, b3⟩, s3⟩
  rw [hbb.2 rfl]; rfl
set_option maxHeartbeats 2000000 in
theorem step27_7 (hm : 1 ≤ most) (hn : s.es.length ≤ 999) (so : Rise s.es) (hkl : key.length ≤ 9223372036854775807) (b : Both2 H kp a w most s s R) :
    WF B tab (.func 27) [.ptr ⟨false, kp, 0⟩, .ptr ⟨false, w, 0⟩, .agg [.int .i64 (Int.ofNat 7), .str key, .str val, .int .u64 old, .int .u64 ses, .int .u64 ix]] H fun r H' => r = .bool true ∧ Both2 H' kp a w most (s) (s) R := by
  refine WF.lessP ?_
  refine WF.fn g27 rfl ?_
  repeat' (first
    | apply WOps.nil | apply WC.seq | apply WC.reg | apply WC.skip | apply WC.ret | (apply WC.condT; rfl) | (apply WC.condF; rfl) | apply WC.block | apply WC.dreg | apply WD.nil | (apply WOps.ldG; rfl; rfl; (first | exact ld0 rfl | exact ld1 rfl | exact ld2 rfl); rfl) | (apply WOps.bx; rfl; rfl; (first | rfl | ((repeat' (first | exact ac0 | apply ac1)) <;> (first | rfl | assumption))); intro _) | (apply WD.clA; rfl; rfl; exact onKG (fun X k => list23_k hm hn hkl k) b.cons; rintro r1 H1 ⟨h1, o1, b1⟩) | (apply WD.clA; rfl; rfl; exact onRG (fun X k => list80_ok hn hkl k) b1; rintro r2 H2 ⟨h2, o2, b2⟩) | (apply WD.load; rfl; (apply at2; exact rd_ld rfl (b1.ld (Ld.right (ld0 rfl))) rfl; (apply same2; exact rd0 rfl rfl rfl; exact same0))) | (apply WD.clR; rfl; rfl; exact same22_ok (b2.sl (SlIs.right (SlIs.left (ents_sl o1)))) (b2.sl (SlIs.left (ents_sl o2))) ents_T ents_T (by rw [List.length_map]; have := under_len (pre := key) (es := s.es); omega); rintro _ ⟨bb, rfl, hbb⟩) | (apply WOps.neqF; rfl; rfl; rfl; decide) | (apply WOps.neqT; rfl; rfl; rfl; decide) | (apply WOps.eqlF; rfl; rfl; rfl; decide) | (apply WOps.eqlT; rfl; rfl; rfl; decide) | (apply WD.neqF; rfl; rfl; rfl; decide) | (apply WD.neqT; rfl; rfl; rfl; decide) | (apply WD.eqlF; rfl; rfl; rfl; decide) | (apply WD.eqlT; rfl; rfl; rfl; decide) | (apply WOps.cmp; rfl; rfl; rfl; rfl; intro _ _) | (apply WOps.cmpT; rfl; rfl; rfl; rfl; intro _ _) | (apply WOps.purG; rfl; (intro _; rfl)) | (apply WOps.skp; rfl) | (apply WD.load; rfl; (first | (apply at1; (first | exact rd0 rfl rfl rfl | exact rd1 rfl rfl rfl | exact rd2 rfl rfl rfl); rfl) | (apply at2; (first | exact rd0 rfl rfl rfl | exact rd1 rfl rfl rfl | exact rd2 rfl rfl rfl); repeat' (first | exact same0 | (apply same1; (first | exact rd0 rfl rfl rfl | exact rd1 rfl rfl rfl | exact rd2 rfl rfl rfl); rfl) | (apply same2; (first | exact rd0 rfl rfl rfl | exact rd1 rfl rfl rfl | exact rd2 rfl rfl rfl)))))) | (apply WD.cmp; rfl; rfl; rfl; rfl; intro _ _) | (apply WD.cmpT; rfl; rfl; rfl; rfl; intro _ _) | (apply WD.pur; rfl; (intro _; rfl)) | (apply WD.skp; rfl) | (apply WD.skpL; rfl) | (apply WD.skpX; rfl) | (apply WOps.ask; rfl; all_goals (intro hb; first | subst hb | fail_if_success (cases hb))) | (apply WC.condA; rfl; all_goals (intro hb; try subst hb)) | (apply WD.ask; rfl; all_goals (intro hb; first | subst hb | fail_if_success (cases hb))))
  obtain ⟨H3, b3, s3⟩ := b2.less (R1 := R) (subF (by intro f; simp only [AV.cells, List.append_eq, List.map_cons, List.map_nil, List.sum_nil, List.map_append, List.sum_cons, List.sum_append, List.cons_append, List.nil_append, List.append_assoc, List.append_nil]; omega))
  refine ⟨trivial, [_], ⟨_, [], rfl, rfl, rfl⟩, H3, ⟨?_, b3⟩, s3⟩
  rw [hbb.2 rfl]; rfl
theorem step27_o {kind : Int} (hne : ¬ kind = Int.ofNat 0 ∧ ¬ kind = Int.ofNat 1 ∧ ¬ kind = Int.ofNat 2 ∧ ¬ kind = Int.ofNat 3 ∧ ¬ kind = Int.ofNat 4 ∧ ¬ kind = Int.ofNat 5 ∧ ¬ kind = Int.ofNat 6 ∧ ¬ kind = Int.ofNat 7 ∧ ¬ kind = Int.ofNat 8) (b : Both2 H kp a w most s s R) :
    WF B tab (.func 27) [.ptr ⟨false, kp, 0⟩, .ptr ⟨false, w, 0⟩, .agg [.int .i64 kind, .str key, .str val, .int .u64 old, .int .u64 ses, .int .u64 ix]] H fun r H' => r = .bool true ∧ Both2 H' kp a w most s s R := by
  obtain ⟨n0, n1, n2, n3, n4, n5, n6, n7, n8⟩ := hne
  refine WF.lessP ?_
  refine WF.fn g27 rfl ?_
  repeat' (first
    | apply WOps.nil | apply WC.seq | apply WC.reg | apply WC.skip | apply WC.ret | (apply WC.condT; rfl) | (apply WC.condF; rfl) | apply WC.block | apply WC.dreg | apply WD.nil | (apply WOps.ldG; rfl; rfl; (first | exact ld0 rfl | exact ld1 rfl | exact ld2 rfl); rfl) | (apply WOps.bx; rfl; rfl; (first | rfl | ((repeat' (first | exact ac0 | apply ac1)) <;> (first | rfl | assumption))); intro _) | (apply WOps.eqlN; rfl; rfl; rfl; assumption) | (apply WOps.cmp; rfl; rfl; rfl; rfl; intro _ _) | (apply WOps.cmpT; rfl; rfl; rfl; rfl; intro _ _) | (apply WOps.purG; rfl; (intro _; rfl)) | (apply WOps.skp; rfl) | (apply WD.load; rfl; (first | (apply at1; (first | exact rd0 rfl rfl rfl | exact rd1 rfl rfl rfl | exact rd2 rfl rfl rfl); rfl) | (apply at2; (first | exact rd0 rfl rfl rfl | exact rd1 rfl rfl rfl | exact rd2 rfl rfl rfl); repeat' (first | exact same0 | (apply same1; (first | exact rd0 rfl rfl rfl | exact rd1 rfl rfl rfl | exact rd2 rfl rfl rfl); rfl) | (apply same2; (first | exact rd0 rfl rfl rfl | exact rd1 rfl rfl rfl | exact rd2 rfl rfl rfl)))))) | (apply WD.cmp; rfl; rfl; rfl; rfl; intro _ _) | (apply WD.cmpT; rfl; rfl; rfl; rfl; intro _ _) | (apply WD.pur; rfl; (intro _; rfl)) | (apply WD.skp; rfl) | (apply WD.skpL; rfl) | (apply WD.skpX; rfl) | (apply WOps.ask; rfl; all_goals (intro hb; first | subst hb | fail_if_success (cases hb))) | (apply WC.condA; rfl; all_goals (intro hb; try subst hb)) | (apply WD.ask; rfl; all_goals (intro hb; first | subst hb | fail_if_success (cases hb))))
  exact ⟨trivial, [_], ⟨_, [], rfl, rfl, rfl⟩, H, ⟨rfl, b⟩, subF (by intro f; simp only [AV.cells, List.append_eq, List.map_cons, List.map_nil, List.sum_nil, List.map_append, List.sum_cons, List.sum_append, List.cons_append, List.nil_append, List.append_assoc, List.append_nil]; omega)⟩
set_option maxHeartbeats 2000000 in
theorem step27_8 (hm : 1 ≤ most) (hn : s.es.length ≤ 999) (so : Rise s.es) (hI : Inv most s) (h64 : most ≤ 64) (b : Both2 H kp a w most s s R) :
    WF B tab (.func 27) [.ptr ⟨false, kp, 0⟩, .ptr ⟨false, w, 0⟩, .agg [.int .i64 (Int.ofNat 8), .str key, .str val, .int .u64 old, .int .u64 ses, .int .u64 ix]] H fun r H' => r = .bool true ∧ Both2 H' kp a w most (s) (s) R := by
  refine WF.lessP ?_
  refine WF.fn g27 rfl ?_
  obtain ⟨v, f0, f1, f2, g1, g2⟩ := RfAt.rd (B := B) b.rv.choose_spec.1
  have I2 : Inv most (setS most s key [111, 116, 104, 101, 114] ix).1 := hI.apply
  have I3 : Inv most (freeS (setS most s key [111, 116, 104, 101, 114] ix).1 ses ix) := I2.free
  have n2 := I2.2
  have n3 := I3.2
  repeat' (first
    | apply WOps.nil | apply WC.seq | apply WC.reg | apply WC.skip | apply WC.ret | (apply WC.condT; rfl) | (apply WC.condF; rfl) | apply WC.block | apply WC.dreg | apply WD.nil | (apply WOps.ldG; rfl; rfl; (first | exact ld0 rfl | exact ld1 rfl | exact ld2 rfl); rfl) | (apply WOps.bx; rfl; rfl; (first | rfl | ((repeat' (first | exact ac0 | apply ac1)) <;> (first | rfl | assumption))); intro _) | (apply WOps.clA; rfl; rfl; exact copy81_at hm (by omega) b.cons.kv.choose_spec.1; rintro _ H1 ⟨k2, a2, rfl, c0⟩) | (apply WD.clA; rfl; rfl; exact list23_k (pre := []) hm hn (by simp) c0; rintro r1 H2 ⟨h1, o1, c1⟩; rw [under_nil] at o1) | (apply WD.load; rfl; (apply at2; exact rd_ld0 rfl (TbAt.ld c1 (Ld.cons (Ld.right (Ld.cons f1)))); (apply same2; exact rd_ld0 rfl (TbAt.ld c0 (Ld.cons (Ld.cons f1))); exact same0))) | (apply WD.clR; rfl; rfl; exact same22_ok (TbAt.sl c1 (SlIs.cons (SlIs.left (ents_sl o1)))) (TbAt.sl c1 (SlIs.cons (SlIs.right (SlIs.cons g2)))) ents_T ents_T (by rw [List.length_map]; omega); rintro _ ⟨bb, rfl, hbb⟩; obtain rfl : bb = true := hbb.2 rfl) | (apply WD.clR; rfl; rfl; exact last24_at hm (Ld.own Tk.head rfl) c1; rintro _ rfl) | (apply WD.load; rfl; (apply at2; exact rd_ld0 rfl (TbAt.ld c1 (Ld.cons (Ld.right (Ld.cons f2)))); (apply same1; exact rd_ld0 rfl (TbAt.ld c1 (Ld.cons (Ld.right (Ld.cons f2)))); rfl))) | (apply WD.neqS; rfl; rfl; rfl) | (apply WOps.ldG; rfl; rfl; exact TbAt.ld c1 (Ld.cons (Ld.right (ld0 rfl))); rfl) | (apply WOps.clA; rfl; rfl; exact set65_ok hm hn so c1; rintro _ H3 ⟨rfl, c2⟩) | (apply WOps.ldG; rfl; rfl; exact TbAt.ld c2 (Ld.cons (Ld.right (ld0 rfl))); rfl) | (apply WOps.clA; rfl; rfl; exact free78_ok hm (by omega) I2.1 c2; rintro r4 H4 ⟨h4, o4, c3⟩) | (apply WOps.ldG; rfl; rfl; exact TbAt.ld c3 (Ld.cons (Ld.right (Ld.right (ld0 rfl)))); rfl) | (apply WOps.clA; rfl; rfl; exact del73_ok hm (by omega) I3.1 c3; rintro _ H5 ⟨rfl, c4⟩) | (apply WOps.neqF; rfl; rfl; rfl; decide) | (apply WOps.neqT; rfl; rfl; rfl; decide) | (apply WOps.eqlF; rfl; rfl; rfl; decide) | (apply WOps.eqlT; rfl; rfl; rfl; decide) | (apply WD.neqF; rfl; rfl; rfl; decide) | (apply WD.neqT; rfl; rfl; rfl; decide) | (apply WD.eqlF; rfl; rfl; rfl; decide) | (apply WD.eqlT; rfl; rfl; rfl; decide) | (apply WOps.cmp; rfl; rfl; rfl; rfl; intro _ _) | (apply WOps.cmpT; rfl; rfl; rfl; rfl; intro _ _) | (apply WOps.purG; rfl; (intro _; rfl)) | (apply WOps.skp; rfl) | (apply WD.load; rfl; (first | (apply at1; (first | exact rd0 rfl rfl rfl | exact rd1 rfl rfl rfl | exact rd2 rfl rfl rfl); rfl) | (apply at2; (first | exact rd0 rfl rfl rfl | exact rd1 rfl rfl rfl | exact rd2 rfl rfl rfl); repeat' (first | exact same0 | (apply same1; (first | exact rd0 rfl rfl rfl | exact rd1 rfl rfl rfl | exact rd2 rfl rfl rfl); rfl) | (apply same2; (first | exact rd0 rfl rfl rfl | exact rd1 rfl rfl rfl | exact rd2 rfl rfl rfl)))))) | (apply WD.cmp; rfl; rfl; rfl; rfl; intro _ _) | (apply WD.cmpT; rfl; rfl; rfl; rfl; intro _ _) | (apply WD.pur; rfl; (intro _; rfl)) | (apply WD.skp; rfl) | (apply WD.skpL; rfl) | (apply WD.skpX; rfl) | (apply WOps.ask; rfl; all_goals (intro hb; first | subst hb | fail_if_success (cases hb))) | (apply WC.condA; rfl; all_goals (intro hb; try subst hb)) | (apply WD.ask; rfl; all_goals (intro hb; first | subst hb | fail_if_success (cases hb))))
  refine ⟨trivial, [_], ⟨_, [], rfl, rfl, rfl⟩, H, ⟨rfl, b⟩, SubP.trans ?_ (TbAt.sub c4)⟩
  exact subF (by intro f; simp only [AV.cells, List.append_eq, List.map_cons, List.map_nil, List.sum_nil, List.map_append, List.sum_cons, List.sum_append, List.cons_append, List.nil_append, List.append_assoc, List.append_nil]; omega)
end step
structure St where
  kind : Int
  key : List Nat
  val : List Nat
  old : Int
  ses : Int
  ix : Int
def stC (t : St) : List AV := [.int .i64 t.kind, .str t.key, .str t.val, .int .u64 t.old, .int .u64 t.ses, .int .u64 t.ix]
open Classical in
noncomputable def stepS (most : Nat) (s : S) (t : St) : S :=
  if t.kind = Int.ofNat 0 then (setS most s t.key t.val t.ix).1
  else if t.kind = Int.ofNat 1 then (casS most s t.key t.val t.old t.ix).1
  else if t.kind = Int.ofNat 2 then (delS most s t.key t.ix).1
  else if t.kind = Int.ofNat 3 then (delCasS most s t.key t.old t.ix).1
  else if t.kind = Int.ofNat 4 then (lockS most s t.key t.val t.ses t.ix).1
  else if t.kind = Int.ofNat 5 then (unlockS most s t.key t.val t.ses t.ix).1
  else if t.kind = Int.ofNat 6 then freeS s t.ses t.ix
  else s
theorem Inv.step {most : Nat} {s : S} {t : St} (h : Inv most s) : Inv most (stepS most s t) := by
  unfold stepS
  split
  · exact Inv.apply h
  split
  · exact Inv.apply h
  split
  · exact Inv.apply h
  split
  · exact Inv.apply h
  split
  · exact Inv.apply h
  split
  · exact Inv.apply h
  split
  · exact h.free
  · exact h
theorem step27_ok {H R : HL} {kp a w most : Nat} {s : S} {t : St} (hm : 1 ≤ most) (h64 : most ≤ 64) (hI : Inv most s) (hkl : t.key.length ≤ 9223372036854775807) (b : Both2 H kp a w most s s R) :
    WF B tab (.func 27) [.ptr ⟨false, kp, 0⟩, .ptr ⟨false, w, 0⟩, .agg (stC t)] H fun r H' => r = .bool true ∧ Both2 H' kp a w most (stepS most s t) (stepS most s t) R := by
  have hn : s.es.length ≤ 999 := by have := hI.2; omega
  have so := hI.1
  obtain ⟨kind, key, val, old, ses, ix⟩ := t
  simp only [stC]
  by_cases h0 : kind = Int.ofNat 0
  · subst h0; exact step27_0 hm hn so b
  by_cases h1 : kind = Int.ofNat 1
  · subst h1; exact step27_1 hm hn so b
  by_cases h2 : kind = Int.ofNat 2
  · subst h2; exact step27_2 hm hn so b
  by_cases h3 : kind = Int.ofNat 3
  · subst h3; exact step27_3 hm hn so b
  by_cases h4 : kind = Int.ofNat 4
  · subst h4; exact step27_4 hm hn so b
  by_cases h5 : kind = Int.ofNat 5
  · subst h5; exact step27_5 hm hn so b
  by_cases h6 : kind = Int.ofNat 6
  · subst h6; exact step27_6 hm hn so b
  have hs : stepS most s ⟨kind, key, val, old, ses, ix⟩ = s := by
    simp only [stepS, if_neg h0, if_neg h1, if_neg h2, if_neg h3, if_neg h4, if_neg h5, if_neg h6]
  rw [hs]
  by_cases h7 : kind = Int.ofNat 7
  · subst h7; exact step27_7 hm hn so hkl b
  by_cases h8 : kind = Int.ofNat 8
  · subst h8; exact step27_8 hm hn so hI h64 b
  exact step27_o ⟨h0, h1, h2, h3, h4, h5, h6, h7, h8⟩ b
theorem Both2.ldLast {H R : HL} {kp a w most : Nat} {sk sr : S} (b : Both2 H kp a w most sk sr R) : Ld B H ⟨false, w, 2⟩ 1 [.int .u64 sr.last] := by
  obtain ⟨v, f0, f1, f2, g1, g2⟩ := RfAt.rd (B := B) b.rv.choose_spec.1
  exact f2
theorem Both2.ldL {H R : HL} {kp a w most : Nat} {sk sr : S} (b : Both2 H kp a w most sk sr R) : ∃ v, Ld B H ⟨false, w, 1⟩ 1 [v] ∧ SlIs B H v 6 (sr.es.map entC) := by
  obtain ⟨v, f0, f1, f2, g1, g2⟩ := RfAt.rd (B := B) b.rv.choose_spec.1
  exact ⟨v, f1, g2⟩
theorem WD.neE {t : EL} {H : HL} {HH : List (Nat × HL)} {Q : EL → HL → Prop} {os : List DOper} {k : Nat} {g : Option (Nat × Bool)} {i bs : Nat} {x y : AO} {e : E} (hg : wantedL g t = some true) (hx : gl t x = some (.agg (entC e))) (hy : gl t y = some (.agg (entC e)))
    (w : WD B tab os ((k, .bool false) :: t) H HH Q) : WD B tab (⟨⟨some k, .eq true (.str0 [(0, 1, false), (1, 1, false), (2, 1, false), (3, 1, false), (4, 1, false), (5, 1, false)] [.str, .str, .int, .int, .int, .int]) x y, g⟩, .quiet, i, bs⟩ :: os) t H HH Q := by
  refine WD.eqF [.str, .str, .int .u64, .int .u64, .int .u64, .int .u64] (c := entC e) (d := entC e) rfl rfl hg hx hy (entC_T _) (entC_T _) fun v hv => ?_
  have : v = false := by rw [Bool.eq_false_iff]; exact fun h => hv.1 h rfl
  rw [this]; exact w
theorem WD.neB {t : EL} {H : HL} {HH : List (Nat × HL)} {Q : EL → HL → Prop} {os : List DOper} {k : Nat} {g : Option (Nat × Bool)} {i bs : Nat} {x y : AO} {c : Bool} (hg : wantedL g t = some true) (hx : gl t x = some (.bool c)) (hy : gl t y = some (.bool c))
    (w : WD B tab os ((k, .bool false) :: t) H HH Q) : WD B tab (⟨⟨some k, .eq true .bool x y, g⟩, .quiet, i, bs⟩ :: os) t H HH Q := by
  refine WD.eqB (neg := true) hg hx hy fun v hv => ?_
  have : v = false := by rw [Bool.eq_false_iff]; exact fun h => hv.1 h rfl
  rw [this]; exact w
theorem get28_b {H R : HL} {kp a w most : Nat} {sk sr : S} {key : List Nat} (hm : 1 ≤ most) (hI : Inv most sk) (h64 : most ≤ 64) (b : Both2 H kp a w most sk sr R) : WF B tab (.func 28) [.ptr ⟨false, kp, 0⟩, .str key] H fun r H' => H' = H ∧ r = .tup [.agg (entC (lookE sk.es key)), .bool (isE sk.es key)] := by
  refine (get28_at hm (by have := hI.2; omega) hI.1 (Ld.own Tk.head rfl) b.kv.choose_spec.1).mono ?_
  rintro r _ ⟨rfl, h⟩
  exact ⟨rfl, look_at _ _ _ h⟩
theorem get29_b {H R : HL} {kp a w most : Nat} {sk sr : S} {key : List Nat} (hI : Inv most sr) (h64 : most ≤ 64) (b : Both2 H kp a w most sk sr R) : WF B tab (.func 29) [.ptr ⟨false, w, 0⟩, .str key] H fun r H' => H' = H ∧ r = .tup [.agg (entC (lookE sr.es key)), .bool (isE sr.es key)] :=
  get29_s (by have := hI.2; omega) hI.1 b.rv.choose_spec.1
theorem last24_b {H R : HL} {kp a w most : Nat} {sk sr : S} (hm : 1 ≤ most) (b : Both2 H kp a w most sk sr R) : WF B tab (.func 24) [.ptr ⟨false, kp, 0⟩] H fun r H' => H' = H ∧ r = .int .u64 sk.last :=
  last24_at hm (Ld.own Tk.head rfl) b.kv.choose_spec.1
theorem listAll_b {H R : HL} {kp a w most : Nat} {sk sr : S} (hm : 1 ≤ most) (hI : Inv most sk) (h64 : most ≤ 64) (b : Both2 H kp a w most sk sr R) : WF B tab (.func 23) [.ptr ⟨false, kp, 0⟩, .str []] H fun r H' => ∃ h', OwnSl r (sk.es.map entC).flatten sk.es.length 6 h' ∧ H' = h' ++ H :=
  listAll_at hm (by have := hI.2; omega) (Ld.own Tk.head rfl) b.kv.choose_spec.1
def s0 : S := ⟨[], Int.ofNat 0⟩
theorem inv0 {most : Nat} : Inv most s0 := ⟨.nil, Nat.zero_le _⟩
set_option maxHeartbeats 2000000 in
theorem plays_ok {most : Int} {wl : AV} {l : List St} (hw : SlIs B [] wl 6 (l.map stC)) (hlen : l.length ≤ 9223372036854775807) (hkl : ∀ (i : Nat) (h : i < l.length), l[i].key.length ≤ 9223372036854775807) :
    WF B tab (.func 5) [.int .i64 most, wl] [] fun r _ => r = .bool true := by
  refine WF.fn g5 rfl ?_
  have hm := mostOf_ge most
  have h64 := mostOf_le most
  repeat' (first
    | apply WOps.nil | apply WC.seq | apply WC.reg | apply WC.skip | apply WC.ret | apply WC.exit | (apply WC.condT; rfl) | (apply WC.condF; rfl) | apply WC.block | apply WC.dreg | apply WD.nil | (apply WOps.ldG; rfl; rfl; (first | exact ld0 rfl | exact ld1 rfl | exact ld2 rfl); rfl) | (apply WOps.st; rfl; rfl; (first | exact tk0 | exact tk1 | exact tk2); rfl; (first | rfl | ((repeat' (first | exact ac0 | apply ac1)) <;> (first | rfl | assumption))); rfl) | (apply WOps.alc; rfl; intro _) | (apply WD.st; rfl; rfl; rfl; (first | exact tk0 | exact tk1 | exact tk2); rfl; (first | rfl | ((repeat' (first | exact ac0 | apply ac1)) <;> (first | rfl | assumption))); rfl) | (apply WD.alc; rfl; rfl; intro _) | (apply WOps.clA; rfl; rfl; exact new25_ok _; rintro _ _ ⟨kp, a, rfl, rfl⟩) | (apply WOps.clA; rfl; rfl; exact new26_ok _; rintro _ _ ⟨w, rfl, rfl⟩) | (apply WOps.cmp; rfl; rfl; rfl; rfl; intro _ _) | (apply WOps.cmpT; rfl; rfl; rfl; rfl; intro _ _) | (apply WOps.eqB; rfl; rfl; rfl; intro _ _) | (apply WOps.purG; rfl; (intro _; rfl)) | (apply WOps.skp; rfl) | (apply WD.load; rfl; (first | (apply at1; (first | exact rd0 rfl rfl rfl | exact rd1 rfl rfl rfl | exact rd2 rfl rfl rfl); rfl) | (apply at2; (first | exact rd0 rfl rfl rfl | exact rd1 rfl rfl rfl | exact rd2 rfl rfl rfl); repeat' (first | exact same0 | (apply same1; (first | exact rd0 rfl rfl rfl | exact rd1 rfl rfl rfl | exact rd2 rfl rfl rfl); rfl) | (apply same2; (first | exact rd0 rfl rfl rfl | exact rd1 rfl rfl rfl | exact rd2 rfl rfl rfl)))))) | (apply WD.cmp; rfl; rfl; rfl; rfl; intro _ _) | (apply WD.cmpT; rfl; rfl; rfl; rfl; intro _ _) | (apply WD.eqB; rfl; rfl; rfl; intro _ _) | (apply WD.pur; rfl; (intro _; rfl)) | (apply WD.skp; rfl) | (apply WD.skpL; rfl) | (apply WD.skpX; rfl) | (apply WOps.ask; rfl; all_goals (intro hb; first | subst hb | fail_if_success (cases hb))) | (apply WC.condA; rfl; all_goals (intro hb; try subst hb)) | (apply WD.ask; rfl; all_goals (intro hb; first | subst hb | fail_if_success (cases hb))))
  generalize mostOf most = M at *
  refine WC.loop ?_
  obtain ⟨i, hi⟩ : ∃ i : Nat, i = 0 := ⟨0, rfl⟩
  obtain ⟨s, hs⟩ : ∃ s : S, s = s0 := ⟨_, rfl⟩
  obtain ⟨H, hH⟩ : ∃ h : HL, h = (w, .row [.int .i64 (.ofNat M), .nilsl, .int .u64 (.ofNat 0)]) :: (kp, .row [.ptr ⟨false, a, 0⟩]) :: (a, .row [.int .i64 (.ofNat M), .nilsl, .int .u64 (.ofNat 0)]) :: [] := ⟨_, rfl⟩
  refine WL.le (t' := [(1, wl), (5, .ptr ⟨false, kp, 0⟩), (6, .ptr ⟨false, w, 0⟩), (7, .int .i64 (.ofNat i))]) (by subst hi; exact Sub1.cons rfl (Sub1.cons rfl (Sub1.cons rfl (Sub1.cons rfl Sub1.nil)))) ?_
  refine WL.heq (H' := H) hH.symm ?_
  have b : Both2 H kp a w M s s [] := by
    subst hs hH
    exact ⟨.nilsl, [], .nilsl, [], .inl ⟨rfl, rfl, rfl, rfl⟩, .inl ⟨rfl, rfl, rfl, rfl⟩, (List.Perm.swap _ _ _).trans (List.Perm.cons _ (List.Perm.swap _ _ _))⟩
  have hI : Inv M s := by subst hs; exact inv0
  have hle : i ≤ l.length := by omega
  clear hi hs hH
  induction hk : l.length - i using Nat.strongRecOn generalizing i s H with | _ k ih => ?_
  apply WL.step
  repeat' (first
    | apply WOps.nil | apply WC.seq | apply WC.reg | apply WC.skip | apply WC.ret | apply WC.exit | (apply WC.condT; rfl) | (apply WC.condF; rfl) | apply WC.block | apply WC.dreg | apply WD.nil | (apply WOps.ldG; rfl; rfl; (first | exact ld0 rfl | exact ld1 rfl | exact ld2 rfl); rfl) | (apply WOps.st; rfl; rfl; (first | exact tk0 | exact tk1 | exact tk2); rfl; (first | rfl | ((repeat' (first | exact ac0 | apply ac1)) <;> (first | rfl | assumption))); rfl) | (apply WOps.alc; rfl; intro _) | (apply WD.st; rfl; rfl; rfl; (first | exact tk0 | exact tk1 | exact tk2); rfl; (first | rfl | ((repeat' (first | exact ac0 | apply ac1)) <;> (first | rfl | assumption))); rfl) | (apply WD.alc; rfl; rfl; intro _) | (apply WOps.lenS; rfl; rfl; exact hw.any) | (apply WOps.cmp; rfl; rfl; rfl; rfl; intro _ _) | (apply WOps.cmpT; rfl; rfl; rfl; rfl; intro _ _) | (apply WOps.eqB; rfl; rfl; rfl; intro _ _) | (apply WOps.purG; rfl; (intro _; rfl)) | (apply WOps.skp; rfl) | (apply WD.load; rfl; (first | (apply at1; (first | exact rd0 rfl rfl rfl | exact rd1 rfl rfl rfl | exact rd2 rfl rfl rfl); rfl) | (apply at2; (first | exact rd0 rfl rfl rfl | exact rd1 rfl rfl rfl | exact rd2 rfl rfl rfl); repeat' (first | exact same0 | (apply same1; (first | exact rd0 rfl rfl rfl | exact rd1 rfl rfl rfl | exact rd2 rfl rfl rfl); rfl) | (apply same2; (first | exact rd0 rfl rfl rfl | exact rd1 rfl rfl rfl | exact rd2 rfl rfl rfl)))))) | (apply WD.cmp; rfl; rfl; rfl; rfl; intro _ _) | (apply WD.cmpT; rfl; rfl; rfl; rfl; intro _ _) | (apply WD.eqB; rfl; rfl; rfl; intro _ _) | (apply WD.pur; rfl; (intro _; rfl)) | (apply WD.skp; rfl) | (apply WD.skpL; rfl) | (apply WD.skpX; rfl) | (apply WOps.ask; rfl; all_goals (intro hb; first | subst hb | fail_if_success (cases hb))) | (apply WC.condA; rfl; all_goals (intro hb; try subst hb)) | (apply WD.ask; rfl; all_goals (intro hb; first | subst hb | fail_if_success (cases hb))))
  · have hlt : i < l.length := by
      have h0 := ‹true = true ↔ cmpP BinOp.lss (Int.ofNat i) (Int.ofNat (List.map stC l).length)›
      rw [List.length_map] at h0
      simp [cmpP] at h0; omega
    have hcm : (l.map stC)[i]? = some (stC l[i]) := by rw [List.getElem?_map, List.getElem?_eq_getElem hlt]; rfl
    have hI1 : Inv M (stepS M s l[i]) := hI.step
    repeat' (first
      | apply WOps.nil | apply WC.seq | apply WC.reg | apply WC.skip | apply WC.ret | apply WC.exit | (apply WC.condT; rfl) | (apply WC.condF; rfl) | apply WC.block | apply WC.dreg | apply WD.nil | (apply WOps.ldG; rfl; rfl; (first | exact ld0 rfl | exact ld1 rfl | exact ld2 rfl); rfl) | (apply WOps.st; rfl; rfl; (first | exact tk0 | exact tk1 | exact tk2); rfl; (first | rfl | ((repeat' (first | exact ac0 | apply ac1)) <;> (first | rfl | assumption))); rfl) | (apply WOps.alc; rfl; intro _) | (apply WD.st; rfl; rfl; rfl; (first | exact tk0 | exact tk1 | exact tk2); rfl; (first | rfl | ((repeat' (first | exact ac0 | apply ac1)) <;> (first | rfl | assumption))); rfl) | (apply WD.alc; rfl; rfl; intro _) | (apply WOps.ixSl; rfl; rfl; rfl; exact hw.any; exact hcm; intro ax hax) | (apply WOps.ldG; rfl; rfl; exact hax; rfl) | (apply WOps.clA; rfl; rfl; exact step27_ok (t := l[i]) hm h64 hI (hkl i hlt) b; rintro _ H1 ⟨rfl, b1⟩) | (apply WOps.ldG; rfl; rfl; exact Ld.part hax 1 1 (by decide); rfl) | (apply WOps.clR; rfl; rfl; exact get28_b (key := l[i].key) hm hI1 h64 b1; rintro _ rfl) | (apply WOps.clR; rfl; rfl; exact get29_b (key := l[i].key) hI1 h64 b1.cons; rintro _ rfl) | (apply WD.neE; rfl; rfl; rfl) | (apply WD.neB; rfl; rfl; rfl) | (apply WD.clR; rfl; rfl; exact last24_b hm b1.cons.cons; rintro _ rfl) | (apply WD.load; rfl; (apply at2; exact rd_ld0 rfl b1.cons.cons.ldLast; (apply same2; exact rd_ld0 rfl b1.cons.cons.ldLast; exact same0))) | (apply WD.neqS; rfl; rfl; rfl) | (apply WOps.addN; rfl; rfl; rfl; omega) | (apply WOps.neqF; rfl; rfl; rfl; decide) | (apply WOps.neqT; rfl; rfl; rfl; decide) | (apply WOps.eqlF; rfl; rfl; rfl; decide) | (apply WOps.eqlT; rfl; rfl; rfl; decide) | (apply WD.neqF; rfl; rfl; rfl; decide) | (apply WD.neqT; rfl; rfl; rfl; decide) | (apply WD.eqlF; rfl; rfl; rfl; decide) | (apply WD.eqlT; rfl; rfl; rfl; decide) | (apply WOps.cmp; rfl; rfl; rfl; rfl; intro _ _) | (apply WOps.cmpT; rfl; rfl; rfl; rfl; intro _ _) | (apply WOps.eqB; rfl; rfl; rfl; intro _ _) | (apply WOps.purG; rfl; (intro _; rfl)) | (apply WOps.skp; rfl) | (apply WD.load; rfl; (first | (apply at1; (first | exact rd0 rfl rfl rfl | exact rd1 rfl rfl rfl | exact rd2 rfl rfl rfl); rfl) | (apply at2; (first | exact rd0 rfl rfl rfl | exact rd1 rfl rfl rfl | exact rd2 rfl rfl rfl); repeat' (first | exact same0 | (apply same1; (first | exact rd0 rfl rfl rfl | exact rd1 rfl rfl rfl | exact rd2 rfl rfl rfl); rfl) | (apply same2; (first | exact rd0 rfl rfl rfl | exact rd1 rfl rfl rfl | exact rd2 rfl rfl rfl)))))) | (apply WD.cmp; rfl; rfl; rfl; rfl; intro _ _) | (apply WD.cmpT; rfl; rfl; rfl; rfl; intro _ _) | (apply WD.eqB; rfl; rfl; rfl; intro _ _) | (apply WD.pur; rfl; (intro _; rfl)) | (apply WD.skp; rfl) | (apply WD.skpL; rfl) | (apply WD.skpX; rfl) | (apply WOps.ask; rfl; all_goals (intro hb; first | subst hb | fail_if_success (cases hb))) | (apply WC.condA; rfl; all_goals (intro hb; try subst hb)) | (apply WD.ask; rfl; all_goals (intro hb; first | subst hb | fail_if_success (cases hb))))
    refine WL.le (t' := [(1, wl), (5, .ptr ⟨false, kp, 0⟩), (6, .ptr ⟨false, w, 0⟩), (7, .int .i64 (.ofNat (i + 1)))]) (Sub1.cons rfl (Sub1.cons rfl (Sub1.cons rfl (Sub1.cons rfl Sub1.nil)))) ?_
    obtain ⟨H3, b3, s3⟩ := b1.cons.cons.less (R1 := []) (subF (by intro f; simp only [AV.cells, List.append_eq, List.map_cons, List.map_nil, List.sum_nil, List.map_append, List.sum_cons, List.sum_append, List.cons_append, List.nil_append, List.append_assoc, List.append_nil]; omega))
    exact WL.lessP s3 (ih _ (by omega) (i + 1) _ H3 b3 hI1 (by omega) rfl)
  · have hn := hI.2
    obtain ⟨v, f1, g2⟩ := b.ldL (B := B)
    repeat' (first
      | apply WOps.nil | apply WC.seq | apply WC.reg | apply WC.skip | apply WC.ret | apply WC.exit | (apply WC.condT; rfl) | (apply WC.condF; rfl) | apply WC.block | apply WC.dreg | apply WD.nil | (apply WOps.ldG; rfl; rfl; (first | exact ld0 rfl | exact ld1 rfl | exact ld2 rfl); rfl) | (apply WOps.st; rfl; rfl; (first | exact tk0 | exact tk1 | exact tk2); rfl; (first | rfl | ((repeat' (first | exact ac0 | apply ac1)) <;> (first | rfl | assumption))); rfl) | (apply WOps.alc; rfl; intro _) | (apply WD.st; rfl; rfl; rfl; (first | exact tk0 | exact tk1 | exact tk2); rfl; (first | rfl | ((repeat' (first | exact ac0 | apply ac1)) <;> (first | rfl | assumption))); rfl) | (apply WD.alc; rfl; rfl; intro _) | (apply WD.clA; rfl; rfl; exact listAll_b hm hI h64 b; rintro r _ ⟨h', o, rfl⟩) | (apply WD.load; rfl; (apply at2; exact rd_ld0 rfl (Ld.right f1); (apply same2; exact rd_ld0 rfl f1; exact same0))) | (apply WD.clR; rfl; rfl; exact same22_ok (SlIs.left (ents_sl o)) (SlIs.right g2) ents_T ents_T (by rw [List.length_map]; omega); rintro _ ⟨bb, rfl, hbb⟩; obtain rfl : bb = true := hbb.2 rfl) | (apply WD.cl1; rfl; rfl; exact WF.const g21) | (apply WOps.neqF; rfl; rfl; rfl; decide) | (apply WOps.neqT; rfl; rfl; rfl; decide) | (apply WOps.eqlF; rfl; rfl; rfl; decide) | (apply WOps.eqlT; rfl; rfl; rfl; decide) | (apply WD.neqF; rfl; rfl; rfl; decide) | (apply WD.neqT; rfl; rfl; rfl; decide) | (apply WD.eqlF; rfl; rfl; rfl; decide) | (apply WD.eqlT; rfl; rfl; rfl; decide) | (apply WOps.cmp; rfl; rfl; rfl; rfl; intro _ _) | (apply WOps.cmpT; rfl; rfl; rfl; rfl; intro _ _) | (apply WOps.eqB; rfl; rfl; rfl; intro _ _) | (apply WOps.purG; rfl; (intro _; rfl)) | (apply WOps.skp; rfl) | (apply WD.load; rfl; (first | (apply at1; (first | exact rd0 rfl rfl rfl | exact rd1 rfl rfl rfl | exact rd2 rfl rfl rfl); rfl) | (apply at2; (first | exact rd0 rfl rfl rfl | exact rd1 rfl rfl rfl | exact rd2 rfl rfl rfl); repeat' (first | exact same0 | (apply same1; (first | exact rd0 rfl rfl rfl | exact rd1 rfl rfl rfl | exact rd2 rfl rfl rfl); rfl) | (apply same2; (first | exact rd0 rfl rfl rfl | exact rd1 rfl rfl rfl | exact rd2 rfl rfl rfl)))))) | (apply WD.cmp; rfl; rfl; rfl; rfl; intro _ _) | (apply WD.cmpT; rfl; rfl; rfl; rfl; intro _ _) | (apply WD.eqB; rfl; rfl; rfl; intro _ _) | (apply WD.pur; rfl; (intro _; rfl)) | (apply WD.skp; rfl) | (apply WD.skpL; rfl) | (apply WD.skpX; rfl) | (apply WOps.ask; rfl; all_goals (intro hb; first | subst hb | fail_if_success (cases hb))) | (apply WC.condA; rfl; all_goals (intro hb; try subst hb)) | (apply WD.ask; rfl; all_goals (intro hb; first | subst hb | fail_if_success (cases hb))))
    exact ⟨trivial, [_], ⟨_, [], rfl, rfl, rfl⟩, rfl⟩
  · have hn := hI.2
    obtain ⟨v, f1, g2⟩ := b.ldL (B := B)
    repeat' (first
      | apply WOps.nil | apply WC.seq | apply WC.reg | apply WC.skip | apply WC.ret | apply WC.exit | (apply WC.condT; rfl) | (apply WC.condF; rfl) | apply WC.block | apply WC.dreg | apply WD.nil | (apply WOps.ldG; rfl; rfl; (first | exact ld0 rfl | exact ld1 rfl | exact ld2 rfl); rfl) | (apply WOps.st; rfl; rfl; (first | exact tk0 | exact tk1 | exact tk2); rfl; (first | rfl | ((repeat' (first | exact ac0 | apply ac1)) <;> (first | rfl | assumption))); rfl) | (apply WOps.alc; rfl; intro _) | (apply WD.st; rfl; rfl; rfl; (first | exact tk0 | exact tk1 | exact tk2); rfl; (first | rfl | ((repeat' (first | exact ac0 | apply ac1)) <;> (first | rfl | assumption))); rfl) | (apply WD.alc; rfl; rfl; intro _) | (apply WD.clA; rfl; rfl; exact listAll_b hm hI h64 b; rintro r _ ⟨h', o, rfl⟩) | (apply WD.load; rfl; (apply at2; exact rd_ld0 rfl (Ld.right f1); (apply same2; exact rd_ld0 rfl f1; exact same0))) | (apply WD.clR; rfl; rfl; exact same22_ok (SlIs.left (ents_sl o)) (SlIs.right g2) ents_T ents_T (by rw [List.length_map]; omega); rintro _ ⟨bb, rfl, hbb⟩; obtain rfl : bb = true := hbb.2 rfl) | (apply WD.cl1; rfl; rfl; exact WF.const g21) | (apply WOps.neqF; rfl; rfl; rfl; decide) | (apply WOps.neqT; rfl; rfl; rfl; decide) | (apply WOps.eqlF; rfl; rfl; rfl; decide) | (apply WOps.eqlT; rfl; rfl; rfl; decide) | (apply WD.neqF; rfl; rfl; rfl; decide) | (apply WD.neqT; rfl; rfl; rfl; decide) | (apply WD.eqlF; rfl; rfl; rfl; decide) | (apply WD.eqlT; rfl; rfl; rfl; decide) | (apply WOps.cmp; rfl; rfl; rfl; rfl; intro _ _) | (apply WOps.cmpT; rfl; rfl; rfl; rfl; intro _ _) | (apply WOps.eqB; rfl; rfl; rfl; intro _ _) | (apply WOps.purG; rfl; (intro _; rfl)) | (apply WOps.skp; rfl) | (apply WD.load; rfl; (first | (apply at1; (first | exact rd0 rfl rfl rfl | exact rd1 rfl rfl rfl | exact rd2 rfl rfl rfl); rfl) | (apply at2; (first | exact rd0 rfl rfl rfl | exact rd1 rfl rfl rfl | exact rd2 rfl rfl rfl); repeat' (first | exact same0 | (apply same1; (first | exact rd0 rfl rfl rfl | exact rd1 rfl rfl rfl | exact rd2 rfl rfl rfl); rfl) | (apply same2; (first | exact rd0 rfl rfl rfl | exact rd1 rfl rfl rfl | exact rd2 rfl rfl rfl)))))) | (apply WD.cmp; rfl; rfl; rfl; rfl; intro _ _) | (apply WD.cmpT; rfl; rfl; rfl; rfl; intro _ _) | (apply WD.eqB; rfl; rfl; rfl; intro _ _) | (apply WD.pur; rfl; (intro _; rfl)) | (apply WD.skp; rfl) | (apply WD.skpL; rfl) | (apply WD.skpX; rfl) | (apply WOps.ask; rfl; all_goals (intro hb; first | subst hb | fail_if_success (cases hb))) | (apply WC.condA; rfl; all_goals (intro hb; try subst hb)) | (apply WD.ask; rfl; all_goals (intro hb; first | subst hb | fail_if_success (cases hb))))
    exact ⟨trivial, [_], ⟨_, [], rfl, rfl, rfl⟩, rfl⟩
theorem t3 : tyOf Try.prog 3 = .int .i64 := by kernel_rfl
theorem t9 : tyOf Try.prog 9 = .str := by kernel_rfl
theorem t25 : tyOf Try.prog 25 = .int .u64 := by kernel_rfl
theorem t52 : tyOf Try.prog 52 = .sl 58 6 := by kernel_rfl
theorem t58 : tyOf Try.prog 58 = .st [(0, 1, 3), (1, 1, 9), (2, 1, 9), (3, 1, 25), (4, 1, 25), (5, 1, 25)] := by kernel_rfl
theorem one_st {m : Nat} {c : List AV} (h : Is Try.prog B m 58 c) : ∃ t : St, c = stC t ∧ t.key.length ≤ 9223372036854775807 := by
  obtain ⟨m2, h⟩ := h.st t58
  obtain ⟨a0, r, rfl, _, _, h⟩ := h.int t3
  obtain ⟨a1, r, rfl, _, hl, h⟩ := h.str t9
  obtain ⟨a2, r, rfl, _, _, h⟩ := h.str t9
  obtain ⟨a3, r, rfl, _, _, h⟩ := h.int t25
  obtain ⟨a4, r, rfl, _, _, h⟩ := h.int t25
  obtain ⟨a5, r, rfl, _, _, h⟩ := h.int t25
  obtain rfl := h.nil
  exact ⟨⟨a0, a1, a2, a3, a4, a5⟩, rfl, Nat.le_trans hl (by decide)⟩
theorem sts_of : ∀ {xs : List (List AV)} {m : Nat} (h : ∀ (i : Nat) c, xs[i]? = some c → Is Try.prog B m 58 c), ∃ l : List St, xs = l.map stC ∧ ∀ (i : Nat) (h : i < l.length), l[i].key.length ≤ 9223372036854775807 := by
  intro xs m
  induction xs with
  | nil => intro _; exact ⟨[], rfl, fun i h => absurd h (by simp)⟩
  | cons c xs ih =>
    intro h
    obtain ⟨l, rfl, hl⟩ := ih fun i c' h' => h (i + 1) c' (by simpa using h')
    obtain ⟨t, rfl, ht⟩ := one_st (h 0 c (by simp))
    refine ⟨t :: l, rfl, fun i hi => ?_⟩
    cases i with
    | zero => exact ht
    | succ i => exact hl i (by simpa using hi)
end Go.Proofs.Ytlfhlkndccjejaa.KV
