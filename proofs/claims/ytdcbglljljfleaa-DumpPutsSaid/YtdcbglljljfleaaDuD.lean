/- What the functions do, shown by the logic. -/
import Derived.Test.YtdcbglljljfleaaDuC
set_option linter.unusedSimpArgs false
set_option linter.unusedVariables false
set_option maxRecDepth 20000
namespace Go.Proofs.Ytdcbglljljfleaa.DU
open Go.Proofs.Ytdcbglljljfleaa.Abs
variable {B : Nat → List AV}
theorem WOps.bslG {T : Tr FnI} {t : EL} {H : HL} {Q : EL → HL → Prop} {os : List AOper} {k esz len : Nat} {g : Option (Nat × Bool)} {z cs : List AV} {ps : List (Nat × Nat × AO)} (hg : wantedL g t = some true) (hx : fillN t z ps = some cs) (hc : allCell cs = true) (w : ∀ id, WOps B T os ((k, .sl ⟨false, id, 0⟩ len esz) :: t) ((id, .row cs) :: H) Q) : WOps B T (⟨some k, .buildSl esz len z ps, g⟩ :: os) t H Q := WOps.go hg (WOp.buildSl (fillN_eq hx) hc w)
theorem out33_ok {H : HL} {n m : Int} : WF B tab (.func 33) [.int .i64 n, .int .i64 m] H fun r H' => H' = H ∧ ∃ b : Bool, r = .bool b ∧ (b = true ↔ n < 0 ∨ m < n) := by
  refine WF.fnR g33 rfl ?_
  repeat' (first
    | apply WOps.nil | apply WC.seq | apply WC.reg | apply WC.ret | (apply WOps.cmp; rfl; rfl; rfl; rfl; intro _ _) | (apply WOps.purG; rfl; (intro _; rfl)) | (apply WOps.skp; rfl) | (apply WOps.ask; rfl; all_goals (intro hb; first | subst hb | fail_if_success (cases hb))))
  · have h1 := ‹true = true ↔ cmpP BinOp.lss n (Int.ofNat 0)›.1 rfl
    simp only [cmpP, Int.ofNat_eq_natCast] at h1
    exact ⟨trivial, List.Sublist.refl _, [_], ⟨_, [], rfl, rfl, rfl⟩, true, rfl, by simp only [true_iff]; left; omega⟩
  · rename_i v hv
    have h1 := eq_of_ff ‹false = true ↔ cmpP BinOp.lss n (Int.ofNat 0)›
    simp only [cmpP, Int.ofNat_eq_natCast] at h1
    refine ⟨trivial, List.Sublist.refl _, [_], ⟨_, [], rfl, rfl, rfl⟩, v, rfl, ?_⟩
    rw [hv]
    simp only [cmpP]
    constructor
    · intro h; right; exact h
    · rintro (h | h)
      · omega
      · exact h
theorem long34_ok {H : HL} {vl : AV} {l : List (List Nat)} (hv : SlIs B H vl 1 (l.map strC)) (hl : l.length ≤ 9223372036854775807) :
    WF B tab (.func 34) [vl] H fun r H' => H' = H ∧ ∃ b : Bool, r = .bool b ∧ (b = true ↔ ∃ s, s ∈ l ∧ 80 < s.length) := by
  refine WF.fnR g34 rfl ?_
  repeat' (first
    | apply WOps.nil | apply WC.seq | apply WC.reg | apply WC.block | (apply WOps.purG; rfl; (intro _; rfl)))
  refine WC.loop ?_
  obtain ⟨i, hi⟩ : ∃ i : Nat, i = 0 := ⟨0, rfl⟩
  refine WL.le (t' := [(0, vl), (3, .int .i64 (.ofNat i))]) (by subst hi; exact Sub1.cons rfl (Sub1.cons rfl Sub1.nil)) ?_
  have hwi : ∀ s, s ∈ l.take i → ¬ 80 < s.length := by subst hi; simp
  have hle : i ≤ l.length := by omega
  clear hi
  induction hk : l.length - i using Nat.strongRecOn generalizing i with | _ k ih => ?_
  apply WL.step
  refine WC.seq (WC.seq (WC.reg ?_))
  repeat' (first
    | apply WOps.nil | apply WC.skip | apply WC.exit | (apply WOps.lenS; rfl; rfl; exact hv) | (apply WOps.cmp; rfl; rfl; rfl; rfl; intro _ _) | (apply WOps.purG; rfl; (intro _; rfl)) | (apply WC.condA; rfl; all_goals (intro hb; try subst hb)))
  all_goals rw [List.length_map] at *
  · have hlt : i < l.length := by
      have h0 := ‹true = true ↔ cmpP BinOp.lss (Int.ofNat i) (Int.ofNat l.length)›.1 rfl
      simp [cmpP] at h0; omega
    have hc : (l.map strC)[i]? = some (strC l[i]) := by rw [List.getElem?_map, List.getElem?_eq_getElem hlt]; rfl
    repeat' (first
      | apply WOps.nil | apply WC.seq | apply WC.reg | apply WC.skip | apply WC.ret | apply WC.block | (apply WOps.ixSl; rfl; rfl; rfl; exact hv; exact hc; intro ax hax) | (apply WOps.ldG; rfl; rfl; exact hax; rfl) | (apply WOps.lenT; rfl; rfl) | (apply WOps.addN; rfl; rfl; rfl; omega) | (apply WOps.cmp; rfl; rfl; rfl; rfl; intro _ _) | (apply WOps.purG; rfl; (intro _; rfl)) | (apply WC.condA; rfl; all_goals (intro hb; try subst hb)))
    · have h0 := ‹true = true ↔ cmpP BinOp.gtr (Int.ofNat l[i].length) (Int.ofNat 80)›.1 rfl
      simp only [cmpP, Int.ofNat_eq_natCast] at h0
      exact ⟨trivial, List.Sublist.refl _, [_], ⟨_, [], rfl, rfl, rfl⟩, true, rfl, by simp only [true_iff]; exact ⟨l[i], List.getElem_mem hlt, by omega⟩⟩
    · have h0 := eq_of_ff ‹false = true ↔ cmpP BinOp.gtr (Int.ofNat l[i].length) (Int.ofNat 80)›
      simp only [cmpP, Int.ofNat_eq_natCast] at h0
      refine WL.le (Sub1.cons rfl (Sub1.cons rfl Sub1.nil)) (ih _ (by omega) (i + 1) ?_ (by omega) rfl)
      intro s hs
      rw [List.take_succ_eq_append_getElem hlt] at hs
      rcases List.mem_append.1 hs with hs | hs
      · exact hwi s hs
      · rw [List.mem_singleton] at hs; rw [hs]; omega
  · have hge : i = l.length := by
      have h0 := eq_of_ff ‹false = true ↔ cmpP BinOp.lss (Int.ofNat i) (Int.ofNat l.length)›
      simp [cmpP] at h0; omega
    rw [hge, List.take_length] at hwi
    repeat' (first
      | apply WOps.nil | apply WC.seq | apply WC.reg | apply WC.ret | (apply WOps.purG; rfl; (intro _; rfl)))
    refine ⟨trivial, List.Sublist.refl _, [_], ⟨_, [], rfl, rfl, rfl⟩, false, rfl, ?_⟩
    simp only [Bool.false_eq_true, false_iff]
    rintro ⟨s, h1, h2⟩
    exact hwi s h1 h2
theorem long_1 {R : HL} {q : Nat} {a : List Nat} : WF B tab (.func 34) [.sl ⟨false, q, 0⟩ 1 1] ((q, .row [.str a]) :: R) fun r H' => H' = (q, .row [.str a]) :: R ∧ ∃ b : Bool, r = .bool b ∧ (b = true ↔ 80 < a.length) := by
  refine (long34_ok (l := [a]) (built (l := [a])) (by simp)).mono ?_
  rintro r _ ⟨rfl, b, rfl, h⟩
  exact ⟨rfl, b, rfl, by rw [h]; simp⟩
theorem long_2 {R : HL} {q : Nat} {a a2 : List Nat} : WF B tab (.func 34) [.sl ⟨false, q, 0⟩ 2 1] ((q, .row [.str a, .str a2]) :: R) fun r H' => H' = (q, .row [.str a, .str a2]) :: R ∧ ∃ b : Bool, r = .bool b ∧ (b = true ↔ 80 < a.length ∨ 80 < a2.length) := by
  refine (long34_ok (l := [a, a2]) (built (l := [a, a2])) (by simp)).mono ?_
  rintro r _ ⟨rfl, b, rfl, h⟩
  exact ⟨rfl, b, rfl, by rw [h]; simp⟩
theorem long_3 {R : HL} {q : Nat} {a a2 a3 : List Nat} : WF B tab (.func 34) [.sl ⟨false, q, 0⟩ 3 1] ((q, .row [.str a, .str a2, .str a3]) :: R) fun r H' => H' = (q, .row [.str a, .str a2, .str a3]) :: R ∧ ∃ b : Bool, r = .bool b ∧ (b = true ↔ 80 < a.length ∨ 80 < a2.length ∨ 80 < a3.length) := by
  refine (long34_ok (l := [a, a2, a3]) (built (l := [a, a2, a3])) (by simp)).mono ?_
  rintro r _ ⟨rfl, b, rfl, h⟩
  exact ⟨rfl, b, rfl, by rw [h]; simp⟩
theorem badL_of {l : List (List Fd)} {r : List Fd} (h : r ∈ l) (k : ¬ rightRow r) : badL l := ⟨r, h, k⟩
set_option maxHeartbeats 16000000 in
theorem right9_ok {H : HL} {d : DD} (hd : DdAt B H d) : WF B tab (.func 9) [.agg (dumpC d)] H fun r H' => H' = H ∧ ∃ b : Bool, r = .bool b ∧ (b = true ↔ ¬ badD d) := by
  refine WF.lessP ?_
  refine WF.fn g9 rfl ?_
  have cn := hd.n.sl.cell
  have cs := hd.s.sl.cell
  have cc := hd.c.sl.cell
  have ci := hd.i.sl.cell
  have ce := hd.e.sl.cell
  have cl := hd.l.sl.cell
  have cq := hd.q.sl.cell
  have rt : badD d → ∀ b : Bool, b = false → (b = true ↔ ¬ badD d) := fun h b hb => ⟨fun k => (by rw [hb] at k; cases k), fun k => absurd h k⟩
  refine WC.seq (WC.reg ?_)
  repeat' (first
    | apply WOps.nil | (apply WOps.bx; rfl; rfl; (· repeat' (first | rfl | assumption | apply ac1)); intro _) | (apply WOps.purG; rfl; (intro _; rfl)))
  rename_i p1
  refine WC.cut2 (X := Unit) (fun _ => [(1, .ptr ⟨false, p1, 0⟩)]) (fun _ => (p1, .row (dumpC d)) :: H) (fun _ => ¬ longD d) ?_ ?_
  · repeat' (first
      | apply WOps.nil | apply WC.seq | apply WC.reg | apply WC.skip | apply WC.ret | (apply WC.condT; rfl) | (apply WOps.ldG; rfl; rfl; (first | exact ld0 rfl | exact ld1 rfl | exact ld2 rfl); rfl) | (apply WOps.lenS; rfl; rfl; exact SlIs.cons hd.n.sl) | (apply WOps.lenS; rfl; rfl; exact SlIs.cons hd.s.sl) | (apply WOps.lenS; rfl; rfl; exact SlIs.cons hd.c.sl) | (apply WOps.lenS; rfl; rfl; exact SlIs.cons hd.i.sl) | (apply WOps.lenS; rfl; rfl; exact SlIs.cons hd.e.sl) | (apply WOps.lenS; rfl; rfl; exact SlIs.cons hd.l.sl) | (apply WOps.lenS; rfl; rfl; exact SlIs.cons hd.q.sl) | (apply WOps.cmp; rfl; rfl; rfl; rfl; intro _ _) | (apply WOps.purG; rfl; (intro _; rfl)) | (apply WOps.skp; rfl) | (apply WOps.ask; rfl; all_goals (intro hb; first | subst hb | fail_if_success (cases hb))) | (apply WC.condA; rfl; all_goals (intro hb; try subst hb)))
    all_goals simp only [List.length_map, cmpP, Int.ofNat_eq_natCast, true_iff, Bool.false_eq_true, false_iff] at *
    all_goals first
      | exact ⟨trivial, [_], ⟨_, [], rfl, rfl, rfl⟩, H, ⟨rfl, false, rfl, rt (by unfold badD longD; omega) _ rfl⟩, subF (by intro f; simp only [AV.cells, List.append_eq, List.map_cons, List.map_nil, List.sum_nil, List.map_append, List.sum_cons, List.sum_append, List.cons_append, List.nil_append, List.append_assoc, List.append_nil]; omega)⟩
      | exact ⟨(), Sub1.cons rfl Sub1.nil, SubP.refl, by unfold longD; omega⟩
      | skip
  intro _ hw0
  refine WC.cut2 (X := Unit) (fun _ => [(1, .ptr ⟨false, p1, 0⟩)]) (fun _ => (p1, .row (dumpC d)) :: H) (fun _ => ¬ (longD d ∨ badL d.n)) ?_ ?_
  · refine WC.seq (WC.reg ?_)
    repeat' (first
      | apply WOps.nil | apply WC.block | (apply WOps.purG; rfl; (intro _; rfl)))
    refine WC.loop ?_
    obtain ⟨i, hi⟩ : ∃ i : Nat, i = 0 := ⟨0, rfl⟩
    refine WL.le (t' := [(1, .ptr ⟨false, p1, 0⟩), (3, .int .i64 (.ofNat i))]) (by subst hi; exact (Sub1.cons rfl (Sub1.cons rfl Sub1.nil))) ?_
    have hwi : ¬ (longD d ∨ badL (d.n.take i)) := by subst hi; simpa [badL] using hw0
    have hle : i ≤ d.n.length := by omega
    have hlen := hd.n.len
    clear hi
    induction hk : d.n.length - i using Nat.strongRecOn generalizing i with | _ k ih => ?_
    apply WL.step
    refine WC.seq (WC.seq (WC.reg ?_))
    repeat' (first
      | apply WOps.nil | apply WC.skip | apply WC.exit | (apply WOps.ldG; rfl; rfl; (first | exact ld0 rfl | exact ld1 rfl | exact ld2 rfl); rfl) | (apply WOps.lenS; rfl; rfl; exact SlIs.cons hd.n.sl) | (apply WOps.cmp; rfl; rfl; rfl; rfl; intro _ _) | (apply WOps.purG; rfl; (intro _; rfl)) | (apply WC.condA; rfl; all_goals (intro hb; try subst hb)))
    all_goals rw [List.length_map] at *
    · have hlt : i < d.n.length := by
        have h0 := ‹true = true ↔ cmpP BinOp.lss (Int.ofNat i) (Int.ofNat d.n.length)›.1 rfl
        simp [cmpP] at h0; omega
      have hc : (d.n.map rowC)[i]? = some (rowC d.n[i]) := by rw [List.getElem?_map, List.getElem?_eq_getElem hlt]; rfl
      obtain ⟨o1, o2, o3⟩ := hd.n.ok d.n[i] (List.getElem_mem hlt)
      obtain ⟨w1, _⟩ := shN_len o1
      have ca := shN_cell o1 o3
      have nx : rightRow d.n[i] → WL B tab c9.nt none _ [(1, .ptr ⟨false, p1, 0⟩), (3, .int .i64 (.ofNat (i + 1)))] ((p1, .row (dumpC d)) :: H) _ := fun h => ih _ (by omega) (i + 1) (by rw [List.take_succ_eq_append_getElem hlt, badL_snoc]; rintro (k | k | k); exact hwi (.inl k); exact hwi (.inr k); exact k h) (by omega) rfl
      have rx : ¬ rightRow d.n[i] → ∀ b : Bool, b = false → (b = true ↔ ¬ badD d) := fun h => rt (by have := badL_of (List.getElem_mem hlt) h; unfold badD; grind)
      have hi9 : i + 1 ≤ 9223372036854775807 := by omega
      clear hwi ih rt hw0
      generalize d.n[i] = r at *
      obtain ⟨a, b, c, d1, rfl⟩ := o1
      have hsl := hd.n.sl
      rw [rightN] at nx rx
      replace hc : (d.n.map rowC)[i]? = some [.int .i64 a, .str b, .int .u64 (.ofNat c), .int .u64 (.ofNat d1)] := hc
      clear hd
      repeat' (first
        | apply WOps.nil | apply WC.seq | apply WC.reg | apply WC.skip | apply WC.ret | (apply WC.condT; rfl) | apply WC.block | (apply WOps.ldG; rfl; rfl; (first | exact ld0 rfl | exact ld1 rfl | exact ld2 rfl); rfl) | (apply WOps.bslG; rfl; rfl; rfl; intro _) | (apply WOps.ixSl; rfl; rfl; rfl; exact SlIs.cons hsl; exact hc; intro ax hax) | (apply WOps.ldG; rfl; rfl; exact Ld.part hax 0 1 (by decide); rfl) | (apply WOps.ldG; rfl; rfl; exact Ld.part hax 1 1 (by decide); rfl) | (apply WOps.clR; rfl; rfl; exact out33_ok; rintro _ ⟨x, rfl, hx⟩) | (apply WOps.clR; rfl; rfl; exact long_1; rintro _ ⟨x, rfl, hx⟩) | (apply WOps.addN; rfl; rfl; rfl; exact hi9) | (apply WOps.purG; rfl; (intro _; rfl)) | (apply WOps.skp; rfl) | (apply WOps.ask; rfl; all_goals (intro hb; first | subst hb | fail_if_success (cases hb))) | (apply WC.condA; rfl; all_goals (intro hb; try subst hb)))
      all_goals simp only [List.length_map, cmpP, Int.ofNat_eq_natCast] at *
      all_goals first
        | exact ⟨trivial, [_], ⟨_, [], rfl, rfl, rfl⟩, H, ⟨rfl, false, rfl, rx (by grind) _ rfl⟩, subF (by intro f; simp only [AV.cells, List.append_eq, List.map_cons, List.map_nil, List.sum_nil, List.map_append, List.sum_cons, List.sum_append, List.cons_append, List.nil_append, List.append_assoc, List.append_nil]; omega)⟩
        | exact WL.le (Sub1.cons rfl (Sub1.cons rfl Sub1.nil)) (WL.lessP (H1 := (p1, .row (dumpC d)) :: H) (subF (by intro f; simp only [AV.cells, List.append_eq, List.map_cons, List.map_nil, List.sum_nil, List.map_append, List.sum_cons, List.sum_append, List.cons_append, List.nil_append, List.append_assoc, List.append_nil]; omega)) (nx (by grind)))
        | skip
    · have hge : i = d.n.length := by
        have h0 := eq_of_ff ‹false = true ↔ cmpP BinOp.lss (Int.ofNat i) (Int.ofNat d.n.length)›
        simp [cmpP] at h0; omega
      rw [hge, List.take_length] at hwi
      exact ⟨(), Sub1.cons rfl Sub1.nil, SubP.refl, hwi⟩
  intro _ hw0
  refine WC.cut2 (X := Unit) (fun _ => [(1, .ptr ⟨false, p1, 0⟩)]) (fun _ => (p1, .row (dumpC d)) :: H) (fun _ => ¬ ((longD d ∨ badL d.n) ∨ badL d.s)) ?_ ?_
  · refine WC.seq (WC.reg ?_)
    repeat' (first
      | apply WOps.nil | apply WC.block | (apply WOps.purG; rfl; (intro _; rfl)))
    refine WC.loop ?_
    obtain ⟨i, hi⟩ : ∃ i : Nat, i = 0 := ⟨0, rfl⟩
    refine WL.le (t' := [(1, .ptr ⟨false, p1, 0⟩), (4, .int .i64 (.ofNat i))]) (by subst hi; exact (Sub1.cons rfl (Sub1.cons rfl Sub1.nil))) ?_
    have hwi : ¬ ((longD d ∨ badL d.n) ∨ badL (d.s.take i)) := by subst hi; simpa [badL] using hw0
    have hle : i ≤ d.s.length := by omega
    have hlen := hd.s.len
    clear hi
    induction hk : d.s.length - i using Nat.strongRecOn generalizing i with | _ k ih => ?_
    apply WL.step
    refine WC.seq (WC.seq (WC.reg ?_))
    repeat' (first
      | apply WOps.nil | apply WC.skip | apply WC.exit | (apply WOps.ldG; rfl; rfl; (first | exact ld0 rfl | exact ld1 rfl | exact ld2 rfl); rfl) | (apply WOps.lenS; rfl; rfl; exact SlIs.cons hd.s.sl) | (apply WOps.cmp; rfl; rfl; rfl; rfl; intro _ _) | (apply WOps.purG; rfl; (intro _; rfl)) | (apply WC.condA; rfl; all_goals (intro hb; try subst hb)))
    all_goals rw [List.length_map] at *
    · have hlt : i < d.s.length := by
        have h0 := ‹true = true ↔ cmpP BinOp.lss (Int.ofNat i) (Int.ofNat d.s.length)›.1 rfl
        simp [cmpP] at h0; omega
      have hc : (d.s.map rowC)[i]? = some (rowC d.s[i]) := by rw [List.getElem?_map, List.getElem?_eq_getElem hlt]; rfl
      obtain ⟨o1, o2, o3⟩ := hd.s.ok d.s[i] (List.getElem_mem hlt)
      obtain ⟨w1, _⟩ := shS_len o1
      have ca := shS_cell o1 o3
      have nx : rightRow d.s[i] → WL B tab c9.nt none _ [(1, .ptr ⟨false, p1, 0⟩), (4, .int .i64 (.ofNat (i + 1)))] ((p1, .row (dumpC d)) :: H) _ := fun h => ih _ (by omega) (i + 1) (by rw [List.take_succ_eq_append_getElem hlt, badL_snoc]; rintro (k | k | k); exact hwi (.inl k); exact hwi (.inr k); exact k h) (by omega) rfl
      have rx : ¬ rightRow d.s[i] → ∀ b : Bool, b = false → (b = true ↔ ¬ badD d) := fun h => rt (by have := badL_of (List.getElem_mem hlt) h; unfold badD; grind)
      have hi9 : i + 1 ≤ 9223372036854775807 := by omega
      clear hwi ih rt hw0
      generalize d.s[i] = r at *
      refine WC.seq (WC.block (WC.seq (WC.reg ?_)))
      repeat' (first
        | (apply WOps.ldG; rfl; rfl; (first | exact ld0 rfl | exact ld1 rfl | exact ld2 rfl); rfl) | (apply WOps.alc; rfl; intro _) | (apply WOps.ixSl; rfl; rfl; rfl; exact SlIs.cons hd.s.sl; exact hc; intro ax hax) | (apply WOps.ldG; rfl; rfl; exact hax; rfl) | (apply WOps.purG; rfl; (intro _; rfl)))
      rename_i p7
      refine WOps.st (v := .agg (rowC r)) (cs' := rowC r) rfl rfl Tk.head w1 ca (put_all w1) ?_
      obtain ⟨a, b, c, vd, d1, e, f, g, rfl⟩ := o1
      have tgs : SlIs B H vd 1 (d1.map strC) := o3 (.txs vd d1) (.tail _ (.tail _ (.tail _ (List.Mem.head _))))
      have ct := tgs.cell
      have hd1 : d1.length ≤ 9223372036854775807 := o2 (.txs vd d1) (.tail _ (.tail _ (.tail _ (List.Mem.head _))))
      have hsl := hd.s.sl
      rw [rightS] at nx rx
      replace hc : (d.s.map rowC)[i]? = some [.int .i64 a, .str b, .str c, vd, .int .i64 e, .int .u64 (.ofNat f), .int .u64 (.ofNat g)] := hc
      clear hd
      repeat' (first
        | apply WOps.nil | apply WC.seq | apply WC.reg | apply WC.skip | apply WC.ret | (apply WC.condT; rfl) | (apply WOps.ldG; rfl; rfl; (first | exact ld0 rfl | exact ld1 rfl | exact ld2 rfl); rfl) | (apply WOps.bslG; rfl; rfl; rfl; intro _) | (apply WOps.lenS; rfl; rfl; (repeat' (first | exact tgs | apply SlIs.cons))) | (apply WOps.clR; rfl; rfl; exact out33_ok; rintro _ ⟨x, rfl, hx⟩) | (apply WOps.clR; rfl; rfl; exact long_2; rintro _ ⟨x, rfl, hx⟩) | (apply WOps.clR; rfl; rfl; exact long34_ok (l := d1) (by repeat' (first | exact tgs | apply SlIs.cons)) hd1; rintro _ ⟨x, rfl, hx⟩) | (apply WOps.addN; rfl; rfl; rfl; exact hi9) | (apply WOps.cmp; rfl; rfl; rfl; rfl; intro _ _) | (apply WOps.purG; rfl; (intro _; rfl)) | (apply WOps.skp; rfl) | (apply WOps.ask; rfl; all_goals (intro hb; first | subst hb | fail_if_success (cases hb))) | (apply WC.condA; rfl; all_goals (intro hb; try subst hb)))
      all_goals simp only [List.length_map, cmpP, Int.ofNat_eq_natCast] at *
      all_goals first
        | exact ⟨trivial, [_], ⟨_, [], rfl, rfl, rfl⟩, H, ⟨rfl, false, rfl, rx (by grind) _ rfl⟩, subF (by intro f; simp only [AV.cells, List.append_eq, List.map_cons, List.map_nil, List.sum_nil, List.map_append, List.sum_cons, List.sum_append, List.cons_append, List.nil_append, List.append_assoc, List.append_nil]; omega)⟩
        | exact WL.le (Sub1.cons rfl (Sub1.cons rfl Sub1.nil)) (WL.lessP (H1 := (p1, .row (dumpC d)) :: H) (subF (by intro f; simp only [AV.cells, List.append_eq, List.map_cons, List.map_nil, List.sum_nil, List.map_append, List.sum_cons, List.sum_append, List.cons_append, List.nil_append, List.append_assoc, List.append_nil]; omega)) (nx (by grind)))
        | skip
    · have hge : i = d.s.length := by
        have h0 := eq_of_ff ‹false = true ↔ cmpP BinOp.lss (Int.ofNat i) (Int.ofNat d.s.length)›
        simp [cmpP] at h0; omega
      rw [hge, List.take_length] at hwi
      exact ⟨(), Sub1.cons rfl Sub1.nil, SubP.refl, hwi⟩
  intro _ hw0
  refine WC.cut2 (X := Unit) (fun _ => [(1, .ptr ⟨false, p1, 0⟩)]) (fun _ => (p1, .row (dumpC d)) :: H) (fun _ => ¬ (((longD d ∨ badL d.n) ∨ badL d.s) ∨ badL d.c)) ?_ ?_
  · refine WC.seq (WC.reg ?_)
    repeat' (first
      | apply WOps.nil | apply WC.block | (apply WOps.purG; rfl; (intro _; rfl)))
    refine WC.loop ?_
    obtain ⟨i, hi⟩ : ∃ i : Nat, i = 0 := ⟨0, rfl⟩
    refine WL.le (t' := [(1, .ptr ⟨false, p1, 0⟩), (6, .int .i64 (.ofNat i))]) (by subst hi; exact (Sub1.cons rfl (Sub1.cons rfl Sub1.nil))) ?_
    have hwi : ¬ (((longD d ∨ badL d.n) ∨ badL d.s) ∨ badL (d.c.take i)) := by subst hi; simpa [badL] using hw0
    have hle : i ≤ d.c.length := by omega
    have hlen := hd.c.len
    clear hi
    induction hk : d.c.length - i using Nat.strongRecOn generalizing i with | _ k ih => ?_
    apply WL.step
    refine WC.seq (WC.seq (WC.reg ?_))
    repeat' (first
      | apply WOps.nil | apply WC.skip | apply WC.exit | (apply WOps.ldG; rfl; rfl; (first | exact ld0 rfl | exact ld1 rfl | exact ld2 rfl); rfl) | (apply WOps.lenS; rfl; rfl; exact SlIs.cons hd.c.sl) | (apply WOps.cmp; rfl; rfl; rfl; rfl; intro _ _) | (apply WOps.purG; rfl; (intro _; rfl)) | (apply WC.condA; rfl; all_goals (intro hb; try subst hb)))
    all_goals rw [List.length_map] at *
    · have hlt : i < d.c.length := by
        have h0 := ‹true = true ↔ cmpP BinOp.lss (Int.ofNat i) (Int.ofNat d.c.length)›.1 rfl
        simp [cmpP] at h0; omega
      have hc : (d.c.map rowC)[i]? = some (rowC d.c[i]) := by rw [List.getElem?_map, List.getElem?_eq_getElem hlt]; rfl
      obtain ⟨o1, o2, o3⟩ := hd.c.ok d.c[i] (List.getElem_mem hlt)
      obtain ⟨w1, _⟩ := shC_len o1
      have ca := shC_cell o1 o3
      have nx : rightRow d.c[i] → WL B tab c9.nt none _ [(1, .ptr ⟨false, p1, 0⟩), (6, .int .i64 (.ofNat (i + 1)))] ((p1, .row (dumpC d)) :: H) _ := fun h => ih _ (by omega) (i + 1) (by rw [List.take_succ_eq_append_getElem hlt, badL_snoc]; rintro (k | k | k); exact hwi (.inl k); exact hwi (.inr k); exact k h) (by omega) rfl
      have rx : ¬ rightRow d.c[i] → ∀ b : Bool, b = false → (b = true ↔ ¬ badD d) := fun h => rt (by have := badL_of (List.getElem_mem hlt) h; unfold badD; grind)
      have hi9 : i + 1 ≤ 9223372036854775807 := by omega
      clear hwi ih rt hw0
      generalize d.c[i] = r at *
      refine WC.seq (WC.block (WC.seq (WC.reg ?_)))
      repeat' (first
        | (apply WOps.ldG; rfl; rfl; (first | exact ld0 rfl | exact ld1 rfl | exact ld2 rfl); rfl) | (apply WOps.alc; rfl; intro _) | (apply WOps.ixSl; rfl; rfl; rfl; exact SlIs.cons hd.c.sl; exact hc; intro ax hax) | (apply WOps.ldG; rfl; rfl; exact hax; rfl) | (apply WOps.purG; rfl; (intro _; rfl)))
      rename_i p7
      refine WOps.st (v := .agg (rowC r)) (cs' := rowC r) rfl rfl Tk.head w1 ca (put_all w1) ?_
      obtain ⟨a, b, c, d1, e, f, g, rfl⟩ := o1
      have hsl := hd.c.sl
      rw [rightC] at nx rx
      replace hc : (d.c.map rowC)[i]? = some [.int .i64 a, .str b, .str c, .str d1, .int .i64 e, .int .u64 (.ofNat f), .int .u64 (.ofNat g)] := hc
      clear hd
      repeat' (first
        | apply WOps.nil | apply WC.seq | apply WC.reg | apply WC.skip | apply WC.ret | (apply WC.condT; rfl) | (apply WOps.ldG; rfl; rfl; (first | exact ld0 rfl | exact ld1 rfl | exact ld2 rfl); rfl) | (apply WOps.bslG; rfl; rfl; rfl; intro _) | (apply WOps.clR; rfl; rfl; exact out33_ok; rintro _ ⟨x, rfl, hx⟩) | (apply WOps.clR; rfl; rfl; exact long_3; rintro _ ⟨x, rfl, hx⟩) | (apply WOps.addN; rfl; rfl; rfl; exact hi9) | (apply WOps.purG; rfl; (intro _; rfl)) | (apply WOps.skp; rfl) | (apply WOps.ask; rfl; all_goals (intro hb; first | subst hb | fail_if_success (cases hb))) | (apply WC.condA; rfl; all_goals (intro hb; try subst hb)))
      all_goals simp only [List.length_map, cmpP, Int.ofNat_eq_natCast] at *
      all_goals first
        | exact ⟨trivial, [_], ⟨_, [], rfl, rfl, rfl⟩, H, ⟨rfl, false, rfl, rx (by grind) _ rfl⟩, subF (by intro f; simp only [AV.cells, List.append_eq, List.map_cons, List.map_nil, List.sum_nil, List.map_append, List.sum_cons, List.sum_append, List.cons_append, List.nil_append, List.append_assoc, List.append_nil]; omega)⟩
        | exact WL.le (Sub1.cons rfl (Sub1.cons rfl Sub1.nil)) (WL.lessP (H1 := (p1, .row (dumpC d)) :: H) (subF (by intro f; simp only [AV.cells, List.append_eq, List.map_cons, List.map_nil, List.sum_nil, List.map_append, List.sum_cons, List.sum_append, List.cons_append, List.nil_append, List.append_assoc, List.append_nil]; omega)) (nx (by grind)))
        | skip
    · have hge : i = d.c.length := by
        have h0 := eq_of_ff ‹false = true ↔ cmpP BinOp.lss (Int.ofNat i) (Int.ofNat d.c.length)›
        simp [cmpP] at h0; omega
      rw [hge, List.take_length] at hwi
      exact ⟨(), Sub1.cons rfl Sub1.nil, SubP.refl, hwi⟩
  intro _ hw0
  refine WC.cut2 (X := Unit) (fun _ => [(1, .ptr ⟨false, p1, 0⟩)]) (fun _ => (p1, .row (dumpC d)) :: H) (fun _ => ¬ ((((longD d ∨ badL d.n) ∨ badL d.s) ∨ badL d.c) ∨ badL d.i)) ?_ ?_
  · refine WC.seq (WC.reg ?_)
    repeat' (first
      | apply WOps.nil | apply WC.block | (apply WOps.purG; rfl; (intro _; rfl)))
    refine WC.loop ?_
    obtain ⟨i, hi⟩ : ∃ i : Nat, i = 0 := ⟨0, rfl⟩
    refine WL.le (t' := [(1, .ptr ⟨false, p1, 0⟩), (8, .int .i64 (.ofNat i))]) (by subst hi; exact (Sub1.cons rfl (Sub1.cons rfl Sub1.nil))) ?_
    have hwi : ¬ ((((longD d ∨ badL d.n) ∨ badL d.s) ∨ badL d.c) ∨ badL (d.i.take i)) := by subst hi; simpa [badL] using hw0
    have hle : i ≤ d.i.length := by omega
    have hlen := hd.i.len
    clear hi
    induction hk : d.i.length - i using Nat.strongRecOn generalizing i with | _ k ih => ?_
    apply WL.step
    refine WC.seq (WC.seq (WC.reg ?_))
    repeat' (first
      | apply WOps.nil | apply WC.skip | apply WC.exit | (apply WOps.ldG; rfl; rfl; (first | exact ld0 rfl | exact ld1 rfl | exact ld2 rfl); rfl) | (apply WOps.lenS; rfl; rfl; exact SlIs.cons hd.i.sl) | (apply WOps.cmp; rfl; rfl; rfl; rfl; intro _ _) | (apply WOps.purG; rfl; (intro _; rfl)) | (apply WC.condA; rfl; all_goals (intro hb; try subst hb)))
    all_goals rw [List.length_map] at *
    · have hlt : i < d.i.length := by
        have h0 := ‹true = true ↔ cmpP BinOp.lss (Int.ofNat i) (Int.ofNat d.i.length)›.1 rfl
        simp [cmpP] at h0; omega
      have hc : (d.i.map rowC)[i]? = some (rowC d.i[i]) := by rw [List.getElem?_map, List.getElem?_eq_getElem hlt]; rfl
      obtain ⟨o1, o2, o3⟩ := hd.i.ok d.i[i] (List.getElem_mem hlt)
      obtain ⟨w1, _⟩ := shI_len o1
      have ca := shI_cell o1 o3
      have nx : rightRow d.i[i] → WL B tab c9.nt none _ [(1, .ptr ⟨false, p1, 0⟩), (8, .int .i64 (.ofNat (i + 1)))] ((p1, .row (dumpC d)) :: H) _ := fun h => ih _ (by omega) (i + 1) (by rw [List.take_succ_eq_append_getElem hlt, badL_snoc]; rintro (k | k | k); exact hwi (.inl k); exact hwi (.inr k); exact k h) (by omega) rfl
      have rx : ¬ rightRow d.i[i] → ∀ b : Bool, b = false → (b = true ↔ ¬ badD d) := fun h => rt (by have := badL_of (List.getElem_mem hlt) h; unfold badD; grind)
      have hi9 : i + 1 ≤ 9223372036854775807 := by omega
      clear hwi ih rt hw0
      generalize d.i[i] = r at *
      obtain ⟨a, b, c, d1, e, rfl⟩ := o1
      have hsl := hd.i.sl
      rw [rightI] at nx rx
      replace hc : (d.i.map rowC)[i]? = some [.str a, .str b, .bool c, .int .u64 (.ofNat d1), .int .u64 (.ofNat e)] := hc
      clear hd
      repeat' (first
        | apply WOps.nil | apply WC.seq | apply WC.reg | apply WC.skip | apply WC.ret | apply WC.block | apply WC.dreg | apply WD.nil | (apply WD.bsl; rfl; rfl; (· repeat' (first | rfl | assumption | apply ac1)); intro _) | (apply WD.ixSl; rfl; rfl; rfl; exact SlIs.cons hsl; exact hc; intro ax hax) | (apply WD.load; rfl; · repeat' (first | refine at1 ?_ rfl | apply at2 | exact same0 | refine same1 ?_ rfl | apply same2 | exact rd_ld rfl (Ld.part (hax _ (SlIs.cons hsl)) 0 1 (by decide)) rfl)) | (apply WD.load; rfl; · repeat' (first | refine at1 ?_ rfl | apply at2 | exact same0 | refine same1 ?_ rfl | apply same2 | exact rd_ld rfl (Ld.part (hax _ (SlIs.cons hsl)) 1 1 (by decide)) rfl)) | (apply WD.clR; rfl; rfl; exact long_2; rintro _ ⟨x, rfl, hx⟩) | (apply WOps.addN; rfl; rfl; rfl; exact hi9) | (apply WOps.purG; rfl; (intro _; rfl)) | (apply WD.load; rfl; · repeat' (first | refine at1 ?_ rfl | apply at2 | exact same0 | refine same1 ?_ rfl | apply same2 | (first | exact rd0 rfl rfl rfl | exact rd1 rfl rfl rfl | exact rd2 rfl rfl rfl))) | (apply WD.pur; rfl; (intro _; rfl)) | (apply WC.condA; rfl; all_goals (intro hb; try subst hb)))
      all_goals simp only [List.length_map, cmpP, Int.ofNat_eq_natCast] at *
      all_goals first
        | exact ⟨trivial, [_], ⟨_, [], rfl, rfl, rfl⟩, H, ⟨rfl, false, rfl, rx (by grind) _ rfl⟩, subF (by intro f; simp only [AV.cells, List.append_eq, List.map_cons, List.map_nil, List.sum_nil, List.map_append, List.sum_cons, List.sum_append, List.cons_append, List.nil_append, List.append_assoc, List.append_nil]; omega)⟩
        | exact WL.le (Sub1.cons rfl (Sub1.cons rfl Sub1.nil)) (WL.lessP (H1 := (p1, .row (dumpC d)) :: H) (subF (by intro f; simp only [AV.cells, List.append_eq, List.map_cons, List.map_nil, List.sum_nil, List.map_append, List.sum_cons, List.sum_append, List.cons_append, List.nil_append, List.append_assoc, List.append_nil]; omega)) (nx (by grind)))
        | skip
    · have hge : i = d.i.length := by
        have h0 := eq_of_ff ‹false = true ↔ cmpP BinOp.lss (Int.ofNat i) (Int.ofNat d.i.length)›
        simp [cmpP] at h0; omega
      rw [hge, List.take_length] at hwi
      exact ⟨(), Sub1.cons rfl Sub1.nil, SubP.refl, hwi⟩
  intro _ hw0
  refine WC.cut2 (X := Unit) (fun _ => [(1, .ptr ⟨false, p1, 0⟩)]) (fun _ => (p1, .row (dumpC d)) :: H) (fun _ => ¬ (((((longD d ∨ badL d.n) ∨ badL d.s) ∨ badL d.c) ∨ badL d.i) ∨ badL d.e)) ?_ ?_
  · refine WC.seq (WC.reg ?_)
    repeat' (first
      | apply WOps.nil | apply WC.block | (apply WOps.purG; rfl; (intro _; rfl)))
    refine WC.loop ?_
    obtain ⟨i, hi⟩ : ∃ i : Nat, i = 0 := ⟨0, rfl⟩
    refine WL.le (t' := [(1, .ptr ⟨false, p1, 0⟩), (9, .int .i64 (.ofNat i))]) (by subst hi; exact (Sub1.cons rfl (Sub1.cons rfl Sub1.nil))) ?_
    have hwi : ¬ (((((longD d ∨ badL d.n) ∨ badL d.s) ∨ badL d.c) ∨ badL d.i) ∨ badL (d.e.take i)) := by subst hi; simpa [badL] using hw0
    have hle : i ≤ d.e.length := by omega
    have hlen := hd.e.len
    clear hi
    induction hk : d.e.length - i using Nat.strongRecOn generalizing i with | _ k ih => ?_
    apply WL.step
    refine WC.seq (WC.seq (WC.reg ?_))
    repeat' (first
      | apply WOps.nil | apply WC.skip | apply WC.exit | (apply WOps.ldG; rfl; rfl; (first | exact ld0 rfl | exact ld1 rfl | exact ld2 rfl); rfl) | (apply WOps.lenS; rfl; rfl; exact SlIs.cons hd.e.sl) | (apply WOps.cmp; rfl; rfl; rfl; rfl; intro _ _) | (apply WOps.purG; rfl; (intro _; rfl)) | (apply WC.condA; rfl; all_goals (intro hb; try subst hb)))
    all_goals rw [List.length_map] at *
    · have hlt : i < d.e.length := by
        have h0 := ‹true = true ↔ cmpP BinOp.lss (Int.ofNat i) (Int.ofNat d.e.length)›.1 rfl
        simp [cmpP] at h0; omega
      have hc : (d.e.map rowC)[i]? = some (rowC d.e[i]) := by rw [List.getElem?_map, List.getElem?_eq_getElem hlt]; rfl
      obtain ⟨o1, o2, o3⟩ := hd.e.ok d.e[i] (List.getElem_mem hlt)
      obtain ⟨w1, _⟩ := shE_len o1
      have ca := shE_cell o1 o3
      have nx : rightRow d.e[i] → WL B tab c9.nt none _ [(1, .ptr ⟨false, p1, 0⟩), (9, .int .i64 (.ofNat (i + 1)))] ((p1, .row (dumpC d)) :: H) _ := fun h => ih _ (by omega) (i + 1) (by rw [List.take_succ_eq_append_getElem hlt, badL_snoc]; rintro (k | k | k); exact hwi (.inl k); exact hwi (.inr k); exact k h) (by omega) rfl
      have rx : ¬ rightRow d.e[i] → ∀ b : Bool, b = false → (b = true ↔ ¬ badD d) := fun h => rt (by have := badL_of (List.getElem_mem hlt) h; unfold badD; grind)
      have hi9 : i + 1 ≤ 9223372036854775807 := by omega
      clear hwi ih rt hw0
      generalize d.e[i] = r at *
      obtain ⟨a, b, c, d1, e, f, rfl⟩ := o1
      have hsl := hd.e.sl
      rw [rightE] at nx rx
      replace hc : (d.e.map rowC)[i]? = some [.str a, .str b, .int .u64 (.ofNat c), .int .u64 (.ofNat d1), .int .u64 (.ofNat e), .int .u64 (.ofNat f)] := hc
      clear hd
      repeat' (first
        | apply WOps.nil | apply WC.seq | apply WC.reg | apply WC.skip | apply WC.ret | apply WC.block | apply WC.dreg | apply WD.nil | (apply WD.bsl; rfl; rfl; (· repeat' (first | rfl | assumption | apply ac1)); intro _) | (apply WD.ixSl; rfl; rfl; rfl; exact SlIs.cons hsl; exact hc; intro ax hax) | (apply WD.load; rfl; · repeat' (first | refine at1 ?_ rfl | apply at2 | exact same0 | refine same1 ?_ rfl | apply same2 | exact rd_ld rfl (Ld.part (hax _ (SlIs.cons hsl)) 0 1 (by decide)) rfl)) | (apply WD.load; rfl; · repeat' (first | refine at1 ?_ rfl | apply at2 | exact same0 | refine same1 ?_ rfl | apply same2 | exact rd_ld rfl (Ld.part (hax _ (SlIs.cons hsl)) 1 1 (by decide)) rfl)) | (apply WD.clR; rfl; rfl; exact long_2; rintro _ ⟨x, rfl, hx⟩) | (apply WOps.addN; rfl; rfl; rfl; exact hi9) | (apply WOps.purG; rfl; (intro _; rfl)) | (apply WD.load; rfl; · repeat' (first | refine at1 ?_ rfl | apply at2 | exact same0 | refine same1 ?_ rfl | apply same2 | (first | exact rd0 rfl rfl rfl | exact rd1 rfl rfl rfl | exact rd2 rfl rfl rfl))) | (apply WD.pur; rfl; (intro _; rfl)) | (apply WC.condA; rfl; all_goals (intro hb; try subst hb)))
      all_goals simp only [List.length_map, cmpP, Int.ofNat_eq_natCast] at *
      all_goals first
        | exact ⟨trivial, [_], ⟨_, [], rfl, rfl, rfl⟩, H, ⟨rfl, false, rfl, rx (by grind) _ rfl⟩, subF (by intro f; simp only [AV.cells, List.append_eq, List.map_cons, List.map_nil, List.sum_nil, List.map_append, List.sum_cons, List.sum_append, List.cons_append, List.nil_append, List.append_assoc, List.append_nil]; omega)⟩
        | exact WL.le (Sub1.cons rfl (Sub1.cons rfl Sub1.nil)) (WL.lessP (H1 := (p1, .row (dumpC d)) :: H) (subF (by intro f; simp only [AV.cells, List.append_eq, List.map_cons, List.map_nil, List.sum_nil, List.map_append, List.sum_cons, List.sum_append, List.cons_append, List.nil_append, List.append_assoc, List.append_nil]; omega)) (nx (by grind)))
        | skip
    · have hge : i = d.e.length := by
        have h0 := eq_of_ff ‹false = true ↔ cmpP BinOp.lss (Int.ofNat i) (Int.ofNat d.e.length)›
        simp [cmpP] at h0; omega
      rw [hge, List.take_length] at hwi
      exact ⟨(), Sub1.cons rfl Sub1.nil, SubP.refl, hwi⟩
  intro _ hw0
  refine WC.cut2 (X := Unit) (fun _ => [(1, .ptr ⟨false, p1, 0⟩)]) (fun _ => (p1, .row (dumpC d)) :: H) (fun _ => ¬ ((((((longD d ∨ badL d.n) ∨ badL d.s) ∨ badL d.c) ∨ badL d.i) ∨ badL d.e) ∨ badL d.l)) ?_ ?_
  · refine WC.seq (WC.reg ?_)
    repeat' (first
      | apply WOps.nil | apply WC.block | (apply WOps.purG; rfl; (intro _; rfl)))
    refine WC.loop ?_
    obtain ⟨i, hi⟩ : ∃ i : Nat, i = 0 := ⟨0, rfl⟩
    refine WL.le (t' := [(1, .ptr ⟨false, p1, 0⟩), (10, .int .i64 (.ofNat i))]) (by subst hi; exact (Sub1.cons rfl (Sub1.cons rfl Sub1.nil))) ?_
    have hwi : ¬ ((((((longD d ∨ badL d.n) ∨ badL d.s) ∨ badL d.c) ∨ badL d.i) ∨ badL d.e) ∨ badL (d.l.take i)) := by subst hi; simpa [badL] using hw0
    have hle : i ≤ d.l.length := by omega
    have hlen := hd.l.len
    clear hi
    induction hk : d.l.length - i using Nat.strongRecOn generalizing i with | _ k ih => ?_
    apply WL.step
    refine WC.seq (WC.seq (WC.reg ?_))
    repeat' (first
      | apply WOps.nil | apply WC.skip | apply WC.exit | (apply WOps.ldG; rfl; rfl; (first | exact ld0 rfl | exact ld1 rfl | exact ld2 rfl); rfl) | (apply WOps.lenS; rfl; rfl; exact SlIs.cons hd.l.sl) | (apply WOps.cmp; rfl; rfl; rfl; rfl; intro _ _) | (apply WOps.purG; rfl; (intro _; rfl)) | (apply WC.condA; rfl; all_goals (intro hb; try subst hb)))
    all_goals rw [List.length_map] at *
    · have hlt : i < d.l.length := by
        have h0 := ‹true = true ↔ cmpP BinOp.lss (Int.ofNat i) (Int.ofNat d.l.length)›.1 rfl
        simp [cmpP] at h0; omega
      have hc : (d.l.map rowC)[i]? = some (rowC d.l[i]) := by rw [List.getElem?_map, List.getElem?_eq_getElem hlt]; rfl
      obtain ⟨o1, o2, o3⟩ := hd.l.ok d.l[i] (List.getElem_mem hlt)
      obtain ⟨w1, _⟩ := shL_len o1
      have ca := shL_cell o1 o3
      have nx : rightRow d.l[i] → WL B tab c9.nt none _ [(1, .ptr ⟨false, p1, 0⟩), (10, .int .i64 (.ofNat (i + 1)))] ((p1, .row (dumpC d)) :: H) _ := fun h => ih _ (by omega) (i + 1) (by rw [List.take_succ_eq_append_getElem hlt, badL_snoc]; rintro (k | k | k); exact hwi (.inl k); exact hwi (.inr k); exact k h) (by omega) rfl
      have rx : ¬ rightRow d.l[i] → ∀ b : Bool, b = false → (b = true ↔ ¬ badD d) := fun h => rt (by have := badL_of (List.getElem_mem hlt) h; unfold badD; grind)
      have hi9 : i + 1 ≤ 9223372036854775807 := by omega
      clear hwi ih rt hw0
      generalize d.l[i] = r at *
      obtain ⟨a, b, c, d1, rfl⟩ := o1
      have hsl := hd.l.sl
      rw [rightL] at nx rx
      replace hc : (d.l.map rowC)[i]? = some [.int .u64 (.ofNat a), .int .i64 b, .int .u64 (.ofNat c), .int .u64 (.ofNat d1)] := hc
      clear hd
      repeat' (first
        | apply WOps.nil | apply WC.seq | apply WC.reg | apply WC.skip | apply WC.ret | apply WC.block | (apply WOps.ldG; rfl; rfl; (first | exact ld0 rfl | exact ld1 rfl | exact ld2 rfl); rfl) | (apply WOps.ixSl; rfl; rfl; rfl; exact SlIs.cons hsl; exact hc; intro ax hax) | (apply WOps.ldG; rfl; rfl; exact Ld.part hax 1 1 (by decide); rfl) | (apply WOps.clR; rfl; rfl; exact out33_ok; rintro _ ⟨x, rfl, hx⟩) | (apply WOps.addN; rfl; rfl; rfl; exact hi9) | (apply WOps.purG; rfl; (intro _; rfl)) | (apply WC.condA; rfl; all_goals (intro hb; try subst hb)))
      all_goals simp only [List.length_map, cmpP, Int.ofNat_eq_natCast] at *
      all_goals first
        | exact ⟨trivial, [_], ⟨_, [], rfl, rfl, rfl⟩, H, ⟨rfl, false, rfl, rx (by grind) _ rfl⟩, subF (by intro f; simp only [AV.cells, List.append_eq, List.map_cons, List.map_nil, List.sum_nil, List.map_append, List.sum_cons, List.sum_append, List.cons_append, List.nil_append, List.append_assoc, List.append_nil]; omega)⟩
        | exact WL.le (Sub1.cons rfl (Sub1.cons rfl Sub1.nil)) (WL.lessP (H1 := (p1, .row (dumpC d)) :: H) (subF (by intro f; simp only [AV.cells, List.append_eq, List.map_cons, List.map_nil, List.sum_nil, List.map_append, List.sum_cons, List.sum_append, List.cons_append, List.nil_append, List.append_assoc, List.append_nil]; omega)) (nx (by grind)))
        | skip
    · have hge : i = d.l.length := by
        have h0 := eq_of_ff ‹false = true ↔ cmpP BinOp.lss (Int.ofNat i) (Int.ofNat d.l.length)›
        simp [cmpP] at h0; omega
      rw [hge, List.take_length] at hwi
      exact ⟨(), Sub1.cons rfl Sub1.nil, SubP.refl, hwi⟩
  intro _ hw0
  refine WC.cut2 (X := Unit) (fun _ => [(1, .ptr ⟨false, p1, 0⟩)]) (fun _ => (p1, .row (dumpC d)) :: H) (fun _ => ¬ (((((((longD d ∨ badL d.n) ∨ badL d.s) ∨ badL d.c) ∨ badL d.i) ∨ badL d.e) ∨ badL d.l) ∨ badL d.q)) ?_ ?_
  · refine WC.seq (WC.reg ?_)
    repeat' (first
      | apply WOps.nil | apply WC.block | (apply WOps.purG; rfl; (intro _; rfl)))
    refine WC.loop ?_
    obtain ⟨i, hi⟩ : ∃ i : Nat, i = 0 := ⟨0, rfl⟩
    refine WL.le (t' := [(1, .ptr ⟨false, p1, 0⟩), (11, .int .i64 (.ofNat i))]) (by subst hi; exact (Sub1.cons rfl (Sub1.cons rfl Sub1.nil))) ?_
    have hwi : ¬ (((((((longD d ∨ badL d.n) ∨ badL d.s) ∨ badL d.c) ∨ badL d.i) ∨ badL d.e) ∨ badL d.l) ∨ badL (d.q.take i)) := by subst hi; simpa [badL] using hw0
    have hle : i ≤ d.q.length := by omega
    have hlen := hd.q.len
    clear hi
    induction hk : d.q.length - i using Nat.strongRecOn generalizing i with | _ k ih => ?_
    apply WL.step
    refine WC.seq (WC.seq (WC.reg ?_))
    repeat' (first
      | apply WOps.nil | apply WC.skip | apply WC.exit | (apply WOps.ldG; rfl; rfl; (first | exact ld0 rfl | exact ld1 rfl | exact ld2 rfl); rfl) | (apply WOps.lenS; rfl; rfl; exact SlIs.cons hd.q.sl) | (apply WOps.cmp; rfl; rfl; rfl; rfl; intro _ _) | (apply WOps.purG; rfl; (intro _; rfl)) | (apply WC.condA; rfl; all_goals (intro hb; try subst hb)))
    all_goals rw [List.length_map] at *
    · have hlt : i < d.q.length := by
        have h0 := ‹true = true ↔ cmpP BinOp.lss (Int.ofNat i) (Int.ofNat d.q.length)›.1 rfl
        simp [cmpP] at h0; omega
      have hc : (d.q.map rowC)[i]? = some (rowC d.q[i]) := by rw [List.getElem?_map, List.getElem?_eq_getElem hlt]; rfl
      obtain ⟨o1, o2, o3⟩ := hd.q.ok d.q[i] (List.getElem_mem hlt)
      obtain ⟨w1, _⟩ := shQ_len o1
      have ca := shQ_cell o1 o3
      have nx : rightRow d.q[i] → WL B tab c9.nt none _ [(1, .ptr ⟨false, p1, 0⟩), (11, .int .i64 (.ofNat (i + 1)))] ((p1, .row (dumpC d)) :: H) _ := fun h => ih _ (by omega) (i + 1) (by rw [List.take_succ_eq_append_getElem hlt, badL_snoc]; rintro (k | k | k); exact hwi (.inl k); exact hwi (.inr k); exact k h) (by omega) rfl
      have rx : ¬ rightRow d.q[i] → ∀ b : Bool, b = false → (b = true ↔ ¬ badD d) := fun h => rt (by have := badL_of (List.getElem_mem hlt) h; unfold badD; grind)
      have hi9 : i + 1 ≤ 9223372036854775807 := by omega
      clear hwi ih rt hw0
      generalize d.q[i] = r at *
      obtain ⟨a, b, c, rfl⟩ := o1
      have hsl := hd.q.sl
      rw [rightQ] at nx rx
      replace hc : (d.q.map rowC)[i]? = some [.int .i64 a, .int .u32 (.ofNat b), .int .u64 (.ofNat c)] := hc
      clear hd
      repeat' (first
        | apply WOps.nil | apply WC.seq | apply WC.reg | apply WC.skip | apply WC.ret | apply WC.block | (apply WOps.ldG; rfl; rfl; (first | exact ld0 rfl | exact ld1 rfl | exact ld2 rfl); rfl) | (apply WOps.ixSl; rfl; rfl; rfl; exact SlIs.cons hsl; exact hc; intro ax hax) | (apply WOps.ldG; rfl; rfl; exact Ld.part hax 0 1 (by decide); rfl) | (apply WOps.clR; rfl; rfl; exact out33_ok; rintro _ ⟨x, rfl, hx⟩) | (apply WOps.addN; rfl; rfl; rfl; exact hi9) | (apply WOps.purG; rfl; (intro _; rfl)) | (apply WC.condA; rfl; all_goals (intro hb; try subst hb)))
      all_goals simp only [List.length_map, cmpP, Int.ofNat_eq_natCast] at *
      all_goals first
        | exact ⟨trivial, [_], ⟨_, [], rfl, rfl, rfl⟩, H, ⟨rfl, false, rfl, rx (by grind) _ rfl⟩, subF (by intro f; simp only [AV.cells, List.append_eq, List.map_cons, List.map_nil, List.sum_nil, List.map_append, List.sum_cons, List.sum_append, List.cons_append, List.nil_append, List.append_assoc, List.append_nil]; omega)⟩
        | exact WL.le (Sub1.cons rfl (Sub1.cons rfl Sub1.nil)) (WL.lessP (H1 := (p1, .row (dumpC d)) :: H) (subF (by intro f; simp only [AV.cells, List.append_eq, List.map_cons, List.map_nil, List.sum_nil, List.map_append, List.sum_cons, List.sum_append, List.cons_append, List.nil_append, List.append_assoc, List.append_nil]; omega)) (nx (by grind)))
        | skip
    · have hge : i = d.q.length := by
        have h0 := eq_of_ff ‹false = true ↔ cmpP BinOp.lss (Int.ofNat i) (Int.ofNat d.q.length)›
        simp [cmpP] at h0; omega
      rw [hge, List.take_length] at hwi
      exact ⟨(), Sub1.cons rfl Sub1.nil, SubP.refl, hwi⟩
  intro _ hw0
  repeat' (first
    | apply WOps.nil | apply WC.seq | apply WC.reg | apply WC.ret | (apply WOps.purG; rfl; (intro _; rfl)))
  exact ⟨trivial, [_], ⟨_, [], rfl, rfl, rfl⟩, H, ⟨rfl, true, rfl, by simp only [true_iff]; exact hw0⟩, subF (by intro f; simp only [AV.cells, List.append_eq, List.map_cons, List.map_nil, List.sum_nil, List.map_append, List.sum_cons, List.sum_append, List.cons_append, List.nil_append, List.append_assoc, List.append_nil]; omega)⟩
end Go.Proofs.Ytdcbglljljfleaa.DU
