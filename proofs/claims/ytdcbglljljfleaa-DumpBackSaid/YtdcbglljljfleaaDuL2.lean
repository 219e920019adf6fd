/- What the functions do, shown by the logic. -/
import Derived.Test.YtdcbglljljfleaaDuP4
set_option linter.unusedSimpArgs false
set_option linter.unusedVariables false
set_option linter.unusedSectionVars false
set_option maxRecDepth 20000
namespace Go.Proofs.Ytdcbglljljfleaa.DU
open Go.Proofs.Ytdcbglljljfleaa.Abs
variable {B : Nat → List AV}
theorem dumpB_len {d : DD} {H : HL} (hd : DdAt B H d) (h : ¬ badD d) : (dumpB d).length ≤ 3000000 := by
 have g1 := good_n hd h
 have g2 := good_s hd h
 have g3 := good_c hd h
 have g4 := good_i hd h
 have g5 := good_e hd h
 have g6 := good_l hd h
 have g7 := good_q hd h
 have g8 := nums_len hd
 unfold dumpB
 simp only [List.length_append, List.length_nil]; omega
theorem right8_bad {H : HL} {d : DD} (hd : DdAt B H d) (hb : badD d) : WF B tab (.func 8) [.agg (dumpC d)] H fun r H' => H' = H ∧ r = .bool false := (right8_ok hd).mono fun r _ ⟨h1, b, h2, h3⟩ => ⟨h1, by rw [h2]; cases b; rfl; exact absurd hb (h3.1 rfl)⟩
theorem put7_bad {H : HL} {d : DD} (hd : DdAt B H d) (hb : badD d) : WF B tab (.func 7) [.agg (dumpC d)] H fun r H' => r = .tup [.nilsl, .int .i64 (.ofNat 2)] ∧ H' = H := by
 refine WF.lessP ?_
 refine WF.fn g7 rfl ?_
 have cn := hd.n.sl.cell
 have cs := hd.s.sl.cell
 have cc := hd.c.sl.cell
 have ci := hd.i.sl.cell
 have ce := hd.e.sl.cell
 have cl := hd.l.sl.cell
 have cq := hd.q.sl.cell
 refine WC.seq (WC.reg ?_)
 repeat' (first
  | apply WOps.nil | (apply WOps.bx; rfl; rfl; (· repeat' (first | rfl | assumption | apply ac1)); intro _) | (apply WOps.purG; rfl; (intro _; rfl)))
 rename_i p1
 refine WC.seq (WC.seq (WC.reg ?_))
 repeat' (first
  | apply WOps.nil | (apply WC.condT; rfl) | (apply WOps.ldG; rfl; rfl; (first | exact ld0 rfl | exact ld1 rfl | exact ld2 rfl); rfl) | (apply WOps.clR; rfl; rfl; exact right8_bad (hd.cons (x := (p1, .row (dumpC d)))) hb; rintro _ rfl) | (apply WOps.purG; rfl; (intro _; rfl)))
 repeat' (first
  | apply WOps.nil | apply WC.seq | apply WC.reg | apply WC.ret | (apply WOps.purG; rfl; (intro _; rfl)))
 exact ⟨trivial, [_, _], ⟨_, [_], rfl, rfl, _, [], rfl, rfl, rfl⟩, H, ⟨rfl, rfl⟩, subF (by intro f; simp only [AV.cells, pm] <;> omega)⟩
theorem digs_by : ∀ (k n : Nat), n < k → byL (digs n) := by
 intro k
 induction k with
 | zero => intro n h; omega
 | succ k ih =>
  intro n h
  by_cases hn : n = 0
  ·subst hn; rw [digs_zero]; intro b hb; cases hb
  ·rw [digs_pos (by omega)]
   intro b hb
   rcases List.mem_cons.1 hb with hb | hb
   ·subst hb; omega
   ·exact ih (n / 256) (by omega) b hb
theorem numB_by {n : Nat} (h : n < 18446744073709551616) : byL (numB n) := by
 intro b hb
 rcases List.mem_cons.1 hb with hb | hb
 ·have := digs_8 h; subst hb; omega
 ·exact digs_by _ n (Nat.lt_succ_self n) b (List.mem_reverse.1 hb)
theorem textB_by {s : List Nat} (h : s.length ≤ 80) (k : byL s) : byL (textB s) := (numB_by (by omega)).app k
theorem bytes_by {f : Fd} (w : f.wf) (r : f.right) (h : f.by) : byL f.bytes := by
 cases f with
 | int n m => exact numB_by (by simp only [Fd.right, Fd.wf, Int.ofNat_eq_natCast] at r w; omega)
 | num n => exact numB_by w
 | u32 n => exact numB_by (by simp only [Fd.wf] at w; omega)
 | txt s => exact textB_by r h
 | flg b => intro x hx; cases b <;> simp [Fd.bytes, flagB] at hx <;> omega
 | txs v l =>
  refine (numB_by (by have := r.1; omega)).app ?_
  intro b hb
  obtain ⟨x, hx, hb⟩ := List.mem_flatten.1 hb
  obtain ⟨s, hs, rfl⟩ := List.mem_map.1 hx
  exact textB_by (r.2 s hs) (h s hs) b hb
theorem rowB_by {r : List Fd} (h : rowOk r) (k : ∀ f, f ∈ r → f.by) : byL (rowB r) := by
 intro b hb
 obtain ⟨x, hx, hb⟩ := List.mem_flatten.1 hb
 obtain ⟨f, hf, rfl⟩ := List.mem_map.1 hx
 exact bytes_by (h f hf).1 (h f hf).2 (k f hf) b hb
theorem rowsB_by {l : List (List Fd)} {H : HL} {sh : List Fd → Prop} (h64 : l.length ≤ 64) (h : ∀ r, r ∈ l → sh r ∧ rowOk r ∧ ∀ f, f ∈ r → f.at B H) (k : ∀ r, r ∈ l → ∀ f, f ∈ r → f.by) : byL (rowsB l) := by
 refine (numB_by (by omega)).app ?_
 intro b hb
 obtain ⟨x, hx, hb⟩ := List.mem_flatten.1 hb
 obtain ⟨r, hr, rfl⟩ := List.mem_map.1 hx
 exact rowB_by (h r hr).2.1 (k r hr) b hb
theorem dumpB_by {d : DD} {H : HL} (hd : DdAt B H d) (hb : ¬ badD d) (hy : DdBy d) : byL (dumpB d) := by
 obtain ⟨b0, b1, b2, b3, b4, b5, b6⟩ := hd.b
 obtain ⟨_, kn, ks, kc, ki, ke, kl, kq⟩ := goods hb
 have r1 := rowsB_by (good_n hd hb).2 (rowOk_of hd.n kn) hy.n
 have r2 := rowsB_by (good_s hd hb).2 (rowOk_of hd.s ks) hy.s
 have r3 := rowsB_by (good_c hd hb).2 (rowOk_of hd.c kc) hy.c
 have r4 := rowsB_by (good_i hd hb).2 (rowOk_of hd.i ki) hy.i
 have r5 := rowsB_by (good_e hd hb).2 (rowOk_of hd.e ke) hy.e
 have r6 := rowsB_by (good_l hd hb).2 (rowOk_of hd.l kl) hy.l
 have r7 := rowsB_by (good_q hd hb).2 (rowOk_of hd.q kq) hy.q
 have n0 : byL [] := fun b hb => by cases hb
 exact (((((((((((((n0.app (numB_by b0)).app r1).app r2).app r3).app r4).app r5).app r6).app (numB_by b1)).app (numB_by b2)).app (numB_by b3)).app (numB_by b4)).app (numB_by b5)).app (numB_by b6)).app r7
theorem val_digs : ∀ (k n : Nat), n < k → valB (digs n).reverse = n := by
 intro k
 induction k with
 | zero => intro n h; omega
 | succ k ih =>
  intro n h
  rcases Nat.eq_zero_or_pos n with rfl | hp
  ·rw [digs_zero]; rfl
  ·rw [digs_eq hp, List.reverse_cons, valB_snoc, ih _ (by omega)]; omega
theorem head_digs : ∀ (k n : Nat), n < k → 0 < n → (digs n).reverse.head? ≠ some 0 ∧ (digs n).reverse ≠ [] := by
 intro k
 induction k with
 | zero => intro n h; omega
 | succ k ih =>
  intro n h hp
  rw [digs_eq hp, List.reverse_cons]
  rcases Nat.eq_zero_or_pos (n / 256) with h0 | h0
  ·rw [h0, digs_zero]
   simp only [List.reverse_nil, List.nil_append, List.head?_cons, ne_eq, Option.some.injEq]
   exact ⟨by omega, by simp⟩
  ·obtain ⟨h1, h2⟩ := ih (n / 256) (by omega) h0
   cases hr : (digs (n / 256)).reverse with
   | nil => exact absurd hr h2
   | cons a r =>
    rw [hr] at h1
    exact ⟨h1, by simp⟩
theorem rdN_num {n : Nat} (h : n < 18446744073709551616) (rest : List Nat) : rdN (numB n ++ rest) = (n, (numB n).length, 0) := by
 have h8 := digs_8 h
 have hl : (digs n).reverse.length = (digs n).length := List.length_reverse
 have e : numB n ++ rest = (digs n).length :: ((digs n).reverse ++ rest) := rfl
 rw [e, rdN_ok (by omega) ?_ (by rw [List.length_append]; omega)]
 ·have e2 : ((digs n).reverse ++ rest).take (digs n).length = (digs n).reverse := by rw [← hl]; exact List.take_left' rfl
  rw [e2, val_digs _ n (Nat.lt_succ_self n)]
  simp only [numB, List.length_cons, hl]
 ·rintro ⟨h1, h2⟩
  rcases Nat.eq_zero_or_pos n with rfl | hp
  ·rw [digs_zero] at h1; simp at h1
  ·obtain ⟨h3, h4⟩ := head_digs _ n (Nat.lt_succ_self n) hp
   cases hr : (digs n).reverse with
   | nil => exact absurd hr h4
   | cons a r => rw [hr] at h2 h3; exact h3 h2
theorem numS_num {n m : Nat} (h : n < 18446744073709551616) (hm : n ≤ m) (rest : List Nat) : numS m (numB n ++ rest, 0) = (n, (rest, 0)) := by
 rw [numS_d (rdN_num h rest) hm, List.drop_left' rfl]
theorem textS_text {s : List Nat} (h : s.length ≤ 80) (rest : List Nat) : textS 80 (textB s ++ rest, 0) = (s, (rest, 0)) := by
 have e : textB s ++ rest = numB s.length ++ (s ++ rest) := List.append_assoc _ _ _
 rw [e, textS_e (rdN_num (by omega) _) h (by rw [List.length_append, List.length_append]; omega), List.drop_left' rfl, List.take_left' rfl]
 rw [show numB s.length ++ (s ++ rest) = (numB s.length ++ s) ++ rest from (List.append_assoc _ _ _).symm, List.drop_left' (by rw [List.length_append])]
theorem flagS_flag (b : Bool) (rest : List Nat) : flagS (flagB b ++ rest, 0) = (b, (rest, 0)) := by
 cases b with
 | true =>
  have e : flagB true = numB 1 := numB_one.symm
  rw [e, flagS_d (rdN_num (by omega) rest) (by omega), List.drop_left' rfl]; rfl
 | false =>
  have e : flagB false = numB 0 := numB_zero.symm
  rw [e, flagS_d (rdN_num (by omega) rest) (by omega), List.drop_left' rfl]; rfl
theorem loopS_all {α β : Type} {rd : St → β × St} {by_ : α → List Nat} {f : α → β} : ∀ {l : List α}, (∀ x, x ∈ l → ∀ rest, rd (by_ x ++ rest, 0) = (f x, (rest, 0))) → ∀ rest, loopS rd l.length ((l.map by_).flatten ++ rest, 0) = (l.map f, (rest, 0)) := by
 intro l
 induction l with
 | nil => intro _ rest; rfl
 | cons a l ih =>
  intro h rest
  have e : ((a :: l).map by_).flatten ++ rest = by_ a ++ ((l.map by_).flatten ++ rest) := by simp
  rw [e, List.length_cons, loopS_s rfl, h a List.mem_cons_self, ih (fun x hx => h x (List.mem_cons_of_mem _ hx))]
  rfl
theorem textsS_texts {l : List (List Nat)} (h8 : l.length ≤ 8) (h : ∀ s, s ∈ l → s.length ≤ 80) (rest : List Nat) : textsS 8 80 (textsB l ++ rest, 0) = (l, (rest, 0)) := by
 have e : textsB l ++ rest = numB l.length ++ ((l.map textB).flatten ++ rest) := List.append_assoc _ _ _
 have e2 := loopS_all (rd := textS 80) (by_ := textB) (f := id) (l := l) (fun s hs r => textS_text (h s hs) r) rest
 rw [List.map_id] at e2
 rw [textsS, e, numS_num (by omega) h8]
 simp only [e2, if_pos]
def kindOf : Fd → Kd
 | .int _ m => .int m
 | .num _ => .num
 | .u32 _ => .u32
 | .txt _ => .txt
 | .flg _ => .flg
 | .txs _ _ => .txs
theorem rdF_bytes {f : Fd} (w : f.wf) (r : f.right) (rest : List Nat) : rdF (kindOf f) (f.bytes ++ rest, 0) = (strip f, (rest, 0)) := by
 cases f with
 | int n m =>
  simp only [Fd.wf] at w
  simp only [Fd.right, Int.ofNat_eq_natCast] at r
  have e := numS_num (n := n.toNat) (m := m) (by omega) (by omega) rest
  simp only [kindOf, rdF, Fd.bytes, e, strip]
  rw [show Int.ofNat n.toNat = n by simp only [Int.ofNat_eq_natCast]; omega]
 | num n =>
  simp only [Fd.wf] at w
  have e := numS_num (n := n) (m := 18446744073709551615) w (by omega) rest
  simp only [kindOf, rdF, Fd.bytes, e, strip]
 | u32 n =>
  simp only [Fd.wf] at w
  have e := numS_num (n := n) (m := 4294967295) (by omega) (by omega) rest
  simp only [kindOf, rdF, Fd.bytes, e, strip]
 | txt s => simp only [kindOf, rdF, Fd.bytes, textS_text r rest, strip]
 | flg b => simp only [kindOf, rdF, Fd.bytes, flagS_flag b rest, strip]
 | txs v l => simp only [kindOf, rdF, Fd.bytes, textsS_texts r.1 r.2 rest, strip]
theorem rdR_bytes : ∀ {r : List Fd}, rowOk r → ∀ rest, rdR (r.map kindOf) (rowB r ++ rest, 0) = (stripR r, (rest, 0)) := by
 intro r
 induction r with
 | nil => intro _ rest; rfl
 | cons f r ih =>
  intro ok rest
  have e : rowB (f :: r) ++ rest = f.bytes ++ (rowB r ++ rest) := by simp [rowB]
  obtain ⟨w, ri⟩ := ok f List.mem_cons_self
  rw [List.map_cons, rdR, e, rdF_bytes w ri, ih fun x hx => ok x (List.mem_cons_of_mem _ hx)]
  rfl
theorem rowsS_bytes {ks : List Kd} {l : List (List Fd)} (h64 : l.length ≤ 64) (h : ∀ r, r ∈ l → rowOk r ∧ r.map kindOf = ks) (rest : List Nat) : rowsS ks (rowsB l ++ rest, 0) = (l.map stripR, (rest, 0)) := by
 have e : rowsB l ++ rest = numB l.length ++ ((l.map rowB).flatten ++ rest) := List.append_assoc _ _ _
 rw [rowsS, e, numS_num (by omega) h64]
 exact loopS_all (f := stripR) (fun r hr x => by rw [← (h r hr).2]; exact rdR_bytes (h r hr).1 x) rest
theorem kdN {r : List Fd} (h : shN r) : r.map kindOf = kN := by obtain ⟨_, _, _, _, rfl⟩ := h; rfl
theorem kdS {r : List Fd} (h : shS r) : r.map kindOf = kS := by obtain ⟨_, _, _, _, _, _, _, _, rfl⟩ := h; rfl
theorem kdC {r : List Fd} (h : shC r) : r.map kindOf = kC := by obtain ⟨_, _, _, _, _, _, _, rfl⟩ := h; rfl
theorem kdI {r : List Fd} (h : shI r) : r.map kindOf = kI := by obtain ⟨_, _, _, _, _, rfl⟩ := h; rfl
theorem kdE {r : List Fd} (h : shE r) : r.map kindOf = kE := by obtain ⟨_, _, _, _, _, _, rfl⟩ := h; rfl
theorem kdL {r : List Fd} (h : shL r) : r.map kindOf = kL := by obtain ⟨_, _, _, _, rfl⟩ := h; rfl
theorem kdQ {r : List Fd} (h : shQ r) : r.map kindOf = kQ := by obtain ⟨_, _, _, rfl⟩ := h; rfl
theorem rowsS_at {ks : List Kd} {l : List (List Fd)} {H : HL} {v : AV} {w : Nat} {sh : List Fd → Prop} (h : LAt B H v w sh l) (nb : ¬ badL l) (h64 : l.length ≤ 64) (kd : ∀ r, sh r → r.map kindOf = ks) (rest : List Nat) : rowsS ks (rowsB l ++ rest, 0) = (l.map stripR, (rest, 0)) :=
 rowsS_bytes h64 (fun r hr => ⟨(rowOk_of h nb r hr).2.1, kd r (h.ok r hr).1⟩) rest
theorem getS_dump {H : HL} {d : DD} (hd : DdAt B H d) (hb : ¬ badD d) : getS (dumpB d) = (stripD d, ([], 0)) := by
 obtain ⟨b0, b1, b2, b3, b4, b5, b6⟩ := hd.b
 obtain ⟨_, kn, ks, kc, ki, ke, kl, kq⟩ := goods hb
 have e : dumpB d = numB d.ix ++ (rowsB d.n ++ (rowsB d.s ++ (rowsB d.c ++ (rowsB d.i ++ (rowsB d.e ++ (rowsB d.l ++ (numB d.l0 ++ (numB d.l1 ++ (numB d.l2 ++ (numB d.l3 ++ (numB d.l4 ++ (numB d.l5 ++ (rowsB d.q ++ []))))))))))))) := by
  simp only [dumpB, List.nil_append, List.append_assoc, List.append_nil]
 have m : ∀ {n : Nat} (h : n < 18446744073709551616) rest, numS 18446744073709551615 (numB n ++ rest, 0) = (n, (rest, 0)) := fun h rest => numS_num h (by omega) rest
 unfold getS
 simp only [e, m b0, m b1, m b2, m b3, m b4, m b5, m b6, rowsS_at hd.n kn (good_n hd hb).2 (fun _ => kdN), rowsS_at hd.s ks (good_s hd hb).2 (fun _ => kdS), rowsS_at hd.c kc (good_c hd hb).2 (fun _ => kdC), rowsS_at hd.i ki (good_i hd hb).2 (fun _ => kdI), rowsS_at hd.e ke (good_e hd hb).2 (fun _ => kdE), rowsS_at hd.l kl (good_l hd hb).2 (fun _ => kdL), rowsS_at hd.q kq (good_q hd hb).2 (fun _ => kdQ)]
 rfl
theorem getD_dump {H : HL} {d : DD} (hd : DdAt B H d) (hb : ¬ badD d) : getD (dumpB d) = (stripD d, 0) := by
 rw [getD, getS_dump hd hb]
 rfl
set_option maxHeartbeats 4000000 in
theorem back_ok {d : DD} (hd : DdAt B [] d) (hy : DdBy d) : WF B tab (.func 5) [.agg (dumpC d)] [] fun v _ => v = .bool true := by
 have ad := dumpC_cell hd
 refine WF.fn g5 rfl ?_
 refine WC.seq (WC.reg ?_)
 repeat' (first
  | apply WOps.nil | (apply WOps.bx; rfl; rfl; (· repeat' (first | rfl | assumption | apply ac1)); intro _) | (apply WOps.purG; rfl; (intro _; rfl)))
 rename_i p1
 have h1 := hd.cons (x := (p1, .row (dumpC d)))
 by_cases hb : badD d
 ·refine WC.seq (WC.reg ?_)
  repeat' (first
   | apply WOps.nil | apply WC.seq | apply WC.reg | apply WC.ret | (apply WC.condT; rfl) | (apply WOps.ldG; rfl; rfl; (first | exact ld0 rfl | exact ld1 rfl | exact ld2 rfl); rfl) | (apply WOps.cT; rfl; rfl; rfl; rfl; focus (simp only [cmpP, Int.ofNat_eq_natCast, List.length_cons, List.length_map, List.length_nil, Classical.not_not, not_true_eq_false, not_false_eq_true]; first | done | omega | decide)) | (apply WOps.clA; rfl; rfl; exact put7_bad h1 hb; rintro _ _ ⟨rfl, rfl⟩) | (apply WOps.clR; rfl; rfl; exact works10; rintro _ rfl) | (apply WOps.purG; rfl; (intro _; rfl)))
  exact ⟨trivial, [_], ⟨_, _, rfl, rfl, rfl⟩, rfl⟩
 ·have eD := getD_dump hd hb
  refine WC.seq (WC.reg ?_)
  repeat' (first
   | apply WOps.nil | (apply WOps.ldG; rfl; rfl; (first | exact ld0 rfl | exact ld1 rfl | exact ld2 rfl); rfl) | (apply WOps.clA; rfl; rfl; exact put7_ok h1 hb; rintro _ _ ⟨v, h', rfl, o, rfl⟩) | (apply WOps.purG; rfl; (intro _; rfl)))
  have w12 := get12_ok (B := B) (R := h' ++ [(p1, .row (dumpC d))]) (SrcIs.left (own_src o)) (dumpB_by hd hb hy) (by have := dumpB_len hd hb; omega)
  rw [eD] at w12
  refine WC.seq (WC.seq (WC.reg ?_))
  repeat' (first
   | apply WOps.nil | apply WC.skip | (apply WC.condF; rfl) | (apply WOps.cF; rfl; rfl; rfl; rfl; focus (simp only [cmpP, Int.ofNat_eq_natCast, List.length_cons, List.length_map, List.length_nil, Classical.not_not, not_true_eq_false, not_false_eq_true]; first | done | omega | decide)) | (apply WOps.purG; rfl; (intro _; rfl)))
  refine WC.seq (WC.reg ?_)
  repeat' (first
   | apply WOps.nil | (apply WOps.st; rfl; rfl; (first | exact tk0 | exact tk1 | exact tk2); rfl; (· repeat' (first | rfl | assumption | apply ac1)); rfl) | (apply WOps.alc; rfl; intro _) | (apply WOps.clA; rfl; rfl; exact w12; rintro _ H2 ⟨c, X, rfl, hc, e2, rfl⟩; have ac := dumpC_cell hc) | (apply WOps.purG; rfl; (intro _; rfl)))
  rename_i p5
  repeat' (first
   | apply WOps.nil | apply WC.seq | apply WC.reg | apply WC.ret | (apply WOps.ldG; rfl; rfl; (first | exact ld0 rfl | exact ld1 rfl | exact ld2 rfl); rfl) | (apply WOps.cT; rfl; rfl; rfl; rfl; focus (simp only [cmpP, Int.ofNat_eq_natCast, List.length_cons, List.length_map, List.length_nil, Classical.not_not, not_true_eq_false, not_false_eq_true]; first | done | omega | decide)) | (apply WOps.ldG; rfl; rfl; exact Ld.cons (Ld.right (Ld.right (Ld.own Tk.head rfl))); rfl) | (apply WOps.clR; rfl; rfl; exact same14_ok ((h1.app h').app X).cons hc.left.cons e2.symm; rintro _ rfl) | (apply WOps.clR; rfl; rfl; exact works10; rintro _ rfl) | (apply WOps.purG; rfl; (intro _; rfl)))
  exact ⟨trivial, [_], ⟨_, _, rfl, rfl, rfl⟩, rfl⟩
theorem t3 : tyOf Try.prog 3 = .int .i64 := by kernel_rfl
theorem t9 : tyOf Try.prog 9 = .str := by kernel_rfl
theorem t22 : tyOf Try.prog 22 = .int .u64 := by kernel_rfl
theorem t4 : tyOf Try.prog 4 = .bool := by kernel_rfl
theorem t100 : tyOf Try.prog 100 = .int .u32 := by kernel_rfl
theorem t59 : tyOf Try.prog 59 = .sl 9 1 := by kernel_rfl
theorem t5 : tyOf Try.prog 5 = .int .u8 := by kernel_rfl
theorem t52 : tyOf Try.prog 52 = .st [(0, 1, 3), (1, 1, 9), (2, 1, 22), (3, 1, 22)] := by kernel_rfl
theorem t23 : tyOf Try.prog 23 = .sl 52 4 := by kernel_rfl
theorem t61 : tyOf Try.prog 61 = .st [(0, 1, 3), (1, 1, 9), (2, 1, 9), (3, 1, 59), (4, 1, 3), (5, 1, 22), (6, 1, 22)] := by kernel_rfl
theorem t24 : tyOf Try.prog 24 = .sl 61 7 := by kernel_rfl
theorem t69 : tyOf Try.prog 69 = .st [(0, 1, 3), (1, 1, 9), (2, 1, 9), (3, 1, 9), (4, 1, 3), (5, 1, 22), (6, 1, 22)] := by kernel_rfl
theorem t25 : tyOf Try.prog 25 = .sl 69 7 := by kernel_rfl
theorem t77 : tyOf Try.prog 77 = .st [(0, 1, 9), (1, 1, 9), (2, 1, 4), (3, 1, 22), (4, 1, 22)] := by kernel_rfl
theorem t26 : tyOf Try.prog 26 = .sl 77 5 := by kernel_rfl
theorem t85 : tyOf Try.prog 85 = .st [(0, 1, 9), (1, 1, 9), (2, 1, 22), (3, 1, 22), (4, 1, 22), (5, 1, 22)] := by kernel_rfl
theorem t27 : tyOf Try.prog 27 = .sl 85 6 := by kernel_rfl
theorem t93 : tyOf Try.prog 93 = .st [(0, 1, 22), (1, 1, 3), (2, 1, 22), (3, 1, 22)] := by kernel_rfl
theorem t28 : tyOf Try.prog 28 = .sl 93 4 := by kernel_rfl
theorem t102 : tyOf Try.prog 102 = .st [(0, 1, 3), (1, 1, 100), (2, 1, 22)] := by kernel_rfl
theorem t30 : tyOf Try.prog 30 = .sl 102 3 := by kernel_rfl
theorem t29 : tyOf Try.prog 29 = .st [(0, 1, 22), (1, 1, 22), (2, 1, 22), (3, 1, 22), (4, 1, 22), (5, 1, 22)] := by kernel_rfl
theorem t32 : tyOf Try.prog 32 = .st [(0, 1, 22), (1, 1, 23), (2, 1, 24), (3, 1, 25), (4, 1, 26), (5, 1, 27), (6, 1, 28), (7, 6, 29), (13, 1, 30)] := by kernel_rfl
theorem b9 : Try.prog.bytesOf 9 = 16 := by kernel_rfl
theorem list_of {α : Type} {P : α → Prop} {f : α → List AV} {xs : List (List AV)} (h : ∀ (i : Nat) c, xs[i]? = some c → ∃ a, c = f a ∧ P a) : ∃ l : List α, xs = l.map f ∧ ∀ a, a ∈ l → P a := by
  induction xs with
  | nil => exact ⟨[], rfl, fun a ha => by cases ha⟩
  | cons c xs ih =>
    obtain ⟨l, e, hl⟩ := ih fun i c' h' => h (i + 1) c' (by simpa using h')
    obtain ⟨a, e2, ha⟩ := h 0 c (by simp)
    refine ⟨a :: l, by rw [e, e2]; rfl, fun b hb => ?_⟩
    rcases List.mem_cons.1 hb with h3 | h3
    · rw [h3]; exact ha
    · exact hl b h3
theorem nat_of {n : Int} (h : 0 ≤ n) (k : n ≤ 18446744073709551615) : ∃ m : Nat, n = .ofNat m ∧ m < 18446744073709551616 := ⟨n.toNat, by simp only [Int.ofNat_eq_natCast]; omega, by omega⟩
theorem nat_of32 {n : Int} (h : 0 ≤ n) (k : n ≤ 4294967295) : ∃ m : Nat, n = .ofNat m ∧ m < 4294967296 := ⟨n.toNat, by simp only [Int.ofNat_eq_natCast]; omega, by omega⟩
theorem m64 : IntKind.u64.min = 0 ∧ IntKind.u64.max = 18446744073709551615 := by decide
theorem m32 : IntKind.u32.min = 0 ∧ IntKind.u32.max = 4294967295 := by decide
def FOk (B : Nat → List AV) (f : Fd) : Prop := f.wf ∧ f.at B [] ∧ f.by
theorem fok {sh : List Fd → Prop} {r : List Fd} (h : sh r) (k : ∀ f, f ∈ r → FOk B f) : (sh r ∧ (∀ f, f ∈ r → f.wf) ∧ ∀ f, f ∈ r → f.at B []) ∧ ∀ f, f ∈ r → f.by := ⟨⟨h, fun f hf => (k f hf).1, fun f hf => (k f hf).2.1⟩, fun f hf => (k f hf).2.2⟩
theorem cons_ok {f : Fd} {r : List Fd} (h : FOk B f) (k : ∀ f, f ∈ r → FOk B f) : ∀ g, g ∈ f :: r → FOk B g := fun g hg => (List.mem_cons.1 hg).elim (fun e => e ▸ h) (k g)
theorem nil_ok : ∀ g, g ∈ ([] : List Fd) → FOk B g := fun g hg => by cases hg
theorem tags_of {n : Nat} {c : List AV} (h : Is Try.prog B n 59 c) : ∃ (v : AV) (l : List (List Nat)), c = [v] ∧ SlIs B [] v 1 (l.map strC) ∧ l.length ≤ 9223372036854775807 ∧ ∀ s, s ∈ l → byL s := by
  obtain ⟨m2, tg, xs, e4, k1, k2, k4⟩ := h.slice t59
  obtain ⟨tags, kt, ks⟩ := list_of (α := List Nat) (P := fun s => byL s) (f := strC) (xs := xs) fun i c hc => by
    obtain ⟨s, e, hb, _⟩ := (k4 i c hc).str t9
    exact ⟨s, e, hb⟩
  subst kt
  rw [List.length_map] at k2
  exact ⟨tg, tags, e4, k1, k2, ks⟩
theorem row_N {n : Nat} {c : List AV} (h : Is Try.prog B n 52 c) : ∃ r, c = rowC r ∧ ((shN r ∧ (∀ f, f ∈ r → f.wf) ∧ ∀ f, f ∈ r → f.at B []) ∧ ∀ f, f ∈ r → f.by) := by
  obtain ⟨m, h0⟩ := h.st t52
  obtain ⟨a, r1, e1, lo1, hi1, h1⟩ := h0.int t3
  obtain ⟨b, r2, e2, y2, _, h2⟩ := h1.str t9
  obtain ⟨c, r3, e3, lo3, hi3, h3⟩ := h2.int t22
  rw [m64.1] at lo3
  rw [m64.2] at hi3
  obtain ⟨nc, q3, w3⟩ := nat_of lo3 hi3
  obtain ⟨d, r4, e4, lo4, hi4, h4⟩ := h3.int t22
  rw [m64.1] at lo4
  rw [m64.2] at hi4
  obtain ⟨nd, q4, w4⟩ := nat_of lo4 hi4
  have e0 := h4.nil
  exact ⟨[.int a 255, .txt b, .num nc, .num nd], by rw [e1, e2, e3, q3, e4, q4, e0]; rfl, fok ⟨a, b, nc, nd, rfl⟩ (cons_ok ⟨(by simp only [Fd.wf]; omega), trivial, trivial⟩ (cons_ok ⟨trivial, trivial, y2⟩ (cons_ok ⟨w3, trivial, trivial⟩ (cons_ok ⟨w4, trivial, trivial⟩ nil_ok))))⟩
theorem row_S {n : Nat} {c : List AV} (h : Is Try.prog B n 61 c) : ∃ r, c = rowC r ∧ ((shS r ∧ (∀ f, f ∈ r → f.wf) ∧ ∀ f, f ∈ r → f.at B []) ∧ ∀ f, f ∈ r → f.by) := by
  obtain ⟨m, h0⟩ := h.st t61
  obtain ⟨a, r1, e1, lo1, hi1, h1⟩ := h0.int t3
  obtain ⟨b, r2, e2, y2, _, h2⟩ := h1.str t9
  obtain ⟨c, r3, e3, y3, _, h3⟩ := h2.str t9
  obtain ⟨p4, r4, e4, _, g4, h4⟩ := h3.cons
  obtain ⟨vd, d, f4, s4, w4, y4⟩ := tags_of g4
  obtain ⟨e, r5, e5, lo5, hi5, h5⟩ := h4.int t3
  obtain ⟨f, r6, e6, lo6, hi6, h6⟩ := h5.int t22
  rw [m64.1] at lo6
  rw [m64.2] at hi6
  obtain ⟨nf, q6, w6⟩ := nat_of lo6 hi6
  obtain ⟨g, r7, e7, lo7, hi7, h7⟩ := h6.int t22
  rw [m64.1] at lo7
  rw [m64.2] at hi7
  obtain ⟨ng, q7, w7⟩ := nat_of lo7 hi7
  have e0 := h7.nil
  exact ⟨[.int a 255, .txt b, .txt c, .txs vd d, .int e 65535, .num nf, .num ng], by rw [e1, e2, e3, e4, f4, e5, e6, q6, e7, q7, e0]; rfl, fok ⟨a, b, c, vd, d, e, nf, ng, rfl⟩ (cons_ok ⟨(by simp only [Fd.wf]; omega), trivial, trivial⟩ (cons_ok ⟨trivial, trivial, y2⟩ (cons_ok ⟨trivial, trivial, y3⟩ (cons_ok ⟨w4, s4, y4⟩ (cons_ok ⟨(by simp only [Fd.wf]; omega), trivial, trivial⟩ (cons_ok ⟨w6, trivial, trivial⟩ (cons_ok ⟨w7, trivial, trivial⟩ nil_ok)))))))⟩
theorem row_C {n : Nat} {c : List AV} (h : Is Try.prog B n 69 c) : ∃ r, c = rowC r ∧ ((shC r ∧ (∀ f, f ∈ r → f.wf) ∧ ∀ f, f ∈ r → f.at B []) ∧ ∀ f, f ∈ r → f.by) := by
  obtain ⟨m, h0⟩ := h.st t69
  obtain ⟨a, r1, e1, lo1, hi1, h1⟩ := h0.int t3
  obtain ⟨b, r2, e2, y2, _, h2⟩ := h1.str t9
  obtain ⟨c, r3, e3, y3, _, h3⟩ := h2.str t9
  obtain ⟨d, r4, e4, y4, _, h4⟩ := h3.str t9
  obtain ⟨e, r5, e5, lo5, hi5, h5⟩ := h4.int t3
  obtain ⟨f, r6, e6, lo6, hi6, h6⟩ := h5.int t22
  rw [m64.1] at lo6
  rw [m64.2] at hi6
  obtain ⟨nf, q6, w6⟩ := nat_of lo6 hi6
  obtain ⟨g, r7, e7, lo7, hi7, h7⟩ := h6.int t22
  rw [m64.1] at lo7
  rw [m64.2] at hi7
  obtain ⟨ng, q7, w7⟩ := nat_of lo7 hi7
  have e0 := h7.nil
  exact ⟨[.int a 255, .txt b, .txt c, .txt d, .int e 255, .num nf, .num ng], by rw [e1, e2, e3, e4, e5, e6, q6, e7, q7, e0]; rfl, fok ⟨a, b, c, d, e, nf, ng, rfl⟩ (cons_ok ⟨(by simp only [Fd.wf]; omega), trivial, trivial⟩ (cons_ok ⟨trivial, trivial, y2⟩ (cons_ok ⟨trivial, trivial, y3⟩ (cons_ok ⟨trivial, trivial, y4⟩ (cons_ok ⟨(by simp only [Fd.wf]; omega), trivial, trivial⟩ (cons_ok ⟨w6, trivial, trivial⟩ (cons_ok ⟨w7, trivial, trivial⟩ nil_ok)))))))⟩
theorem row_I {n : Nat} {c : List AV} (h : Is Try.prog B n 77 c) : ∃ r, c = rowC r ∧ ((shI r ∧ (∀ f, f ∈ r → f.wf) ∧ ∀ f, f ∈ r → f.at B []) ∧ ∀ f, f ∈ r → f.by) := by
  obtain ⟨m, h0⟩ := h.st t77
  obtain ⟨a, r1, e1, y1, _, h1⟩ := h0.str t9
  obtain ⟨b, r2, e2, y2, _, h2⟩ := h1.str t9
  obtain ⟨p3, r3, e3, _, g3, h3⟩ := h2.cons
  obtain ⟨c, f3⟩ := g3.bool t4
  obtain ⟨d, r4, e4, lo4, hi4, h4⟩ := h3.int t22
  rw [m64.1] at lo4
  rw [m64.2] at hi4
  obtain ⟨nd, q4, w4⟩ := nat_of lo4 hi4
  obtain ⟨e, r5, e5, lo5, hi5, h5⟩ := h4.int t22
  rw [m64.1] at lo5
  rw [m64.2] at hi5
  obtain ⟨ne, q5, w5⟩ := nat_of lo5 hi5
  have e0 := h5.nil
  exact ⟨[.txt a, .txt b, .flg c, .num nd, .num ne], by rw [e1, e2, e3, f3, e4, q4, e5, q5, e0]; rfl, fok ⟨a, b, c, nd, ne, rfl⟩ (cons_ok ⟨trivial, trivial, y1⟩ (cons_ok ⟨trivial, trivial, y2⟩ (cons_ok ⟨trivial, trivial, trivial⟩ (cons_ok ⟨w4, trivial, trivial⟩ (cons_ok ⟨w5, trivial, trivial⟩ nil_ok)))))⟩
theorem row_E {n : Nat} {c : List AV} (h : Is Try.prog B n 85 c) : ∃ r, c = rowC r ∧ ((shE r ∧ (∀ f, f ∈ r → f.wf) ∧ ∀ f, f ∈ r → f.at B []) ∧ ∀ f, f ∈ r → f.by) := by
  obtain ⟨m, h0⟩ := h.st t85
  obtain ⟨a, r1, e1, y1, _, h1⟩ := h0.str t9
  obtain ⟨b, r2, e2, y2, _, h2⟩ := h1.str t9
  obtain ⟨c, r3, e3, lo3, hi3, h3⟩ := h2.int t22
  rw [m64.1] at lo3
  rw [m64.2] at hi3
  obtain ⟨nc, q3, w3⟩ := nat_of lo3 hi3
  obtain ⟨d, r4, e4, lo4, hi4, h4⟩ := h3.int t22
  rw [m64.1] at lo4
  rw [m64.2] at hi4
  obtain ⟨nd, q4, w4⟩ := nat_of lo4 hi4
  obtain ⟨e, r5, e5, lo5, hi5, h5⟩ := h4.int t22
  rw [m64.1] at lo5
  rw [m64.2] at hi5
  obtain ⟨ne, q5, w5⟩ := nat_of lo5 hi5
  obtain ⟨f, r6, e6, lo6, hi6, h6⟩ := h5.int t22
  rw [m64.1] at lo6
  rw [m64.2] at hi6
  obtain ⟨nf, q6, w6⟩ := nat_of lo6 hi6
  have e0 := h6.nil
  exact ⟨[.txt a, .txt b, .num nc, .num nd, .num ne, .num nf], by rw [e1, e2, e3, q3, e4, q4, e5, q5, e6, q6, e0]; rfl, fok ⟨a, b, nc, nd, ne, nf, rfl⟩ (cons_ok ⟨trivial, trivial, y1⟩ (cons_ok ⟨trivial, trivial, y2⟩ (cons_ok ⟨w3, trivial, trivial⟩ (cons_ok ⟨w4, trivial, trivial⟩ (cons_ok ⟨w5, trivial, trivial⟩ (cons_ok ⟨w6, trivial, trivial⟩ nil_ok))))))⟩
theorem row_L {n : Nat} {c : List AV} (h : Is Try.prog B n 93 c) : ∃ r, c = rowC r ∧ ((shL r ∧ (∀ f, f ∈ r → f.wf) ∧ ∀ f, f ∈ r → f.at B []) ∧ ∀ f, f ∈ r → f.by) := by
  obtain ⟨m, h0⟩ := h.st t93
  obtain ⟨a, r1, e1, lo1, hi1, h1⟩ := h0.int t22
  rw [m64.1] at lo1
  rw [m64.2] at hi1
  obtain ⟨na, q1, w1⟩ := nat_of lo1 hi1
  obtain ⟨b, r2, e2, lo2, hi2, h2⟩ := h1.int t3
  obtain ⟨c, r3, e3, lo3, hi3, h3⟩ := h2.int t22
  rw [m64.1] at lo3
  rw [m64.2] at hi3
  obtain ⟨nc, q3, w3⟩ := nat_of lo3 hi3
  obtain ⟨d, r4, e4, lo4, hi4, h4⟩ := h3.int t22
  rw [m64.1] at lo4
  rw [m64.2] at hi4
  obtain ⟨nd, q4, w4⟩ := nat_of lo4 hi4
  have e0 := h4.nil
  exact ⟨[.num na, .int b 255, .num nc, .num nd], by rw [e1, q1, e2, e3, q3, e4, q4, e0]; rfl, fok ⟨na, b, nc, nd, rfl⟩ (cons_ok ⟨w1, trivial, trivial⟩ (cons_ok ⟨(by simp only [Fd.wf]; omega), trivial, trivial⟩ (cons_ok ⟨w3, trivial, trivial⟩ (cons_ok ⟨w4, trivial, trivial⟩ nil_ok))))⟩
theorem row_Q {n : Nat} {c : List AV} (h : Is Try.prog B n 102 c) : ∃ r, c = rowC r ∧ ((shQ r ∧ (∀ f, f ∈ r → f.wf) ∧ ∀ f, f ∈ r → f.at B []) ∧ ∀ f, f ∈ r → f.by) := by
  obtain ⟨m, h0⟩ := h.st t102
  obtain ⟨a, r1, e1, lo1, hi1, h1⟩ := h0.int t3
  obtain ⟨b, r2, e2, lo2, hi2, h2⟩ := h1.int t100
  rw [m32.1] at lo2
  rw [m32.2] at hi2
  obtain ⟨nb, q2, w2⟩ := nat_of32 lo2 hi2
  obtain ⟨c, r3, e3, lo3, hi3, h3⟩ := h2.int t22
  rw [m64.1] at lo3
  rw [m64.2] at hi3
  obtain ⟨nc, q3, w3⟩ := nat_of lo3 hi3
  have e0 := h3.nil
  exact ⟨[.int a 255, .u32 nb, .num nc], by rw [e1, e2, q2, e3, q3, e0]; rfl, fok ⟨a, nb, nc, rfl⟩ (cons_ok ⟨(by simp only [Fd.wf]; omega), trivial, trivial⟩ (cons_ok ⟨w2, trivial, trivial⟩ (cons_ok ⟨w3, trivial, trivial⟩ nil_ok)))⟩
theorem dump_of {n : Nat} {c : List AV} (h : Is Try.prog B n 32 c) : ∃ d : DD, c = dumpC d ∧ DdAt B [] d ∧ DdBy d := by
  obtain ⟨m, h0⟩ := h.st t32
  obtain ⟨a0, r0, e0, lo0, hi0, h1⟩ := h0.int t22
  rw [m64.1] at lo0
  rw [m64.2] at hi0
  obtain ⟨n0, q0, w0⟩ := nat_of lo0 hi0
  obtain ⟨p1, r1, e1, _, g1, h2⟩ := h1.cons
  obtain ⟨_, vN, xN, kN, sN, lN, yN⟩ := g1.slice t23
  obtain ⟨zN, iN, oN⟩ := list_of (f := rowC) fun i c hc => row_N (yN i c hc)
  rw [iN] at sN lN
  rw [List.length_map] at lN
  obtain ⟨p2, r2, e2, _, g2, h3⟩ := h2.cons
  obtain ⟨_, vS, xS, kS, sS, lS, yS⟩ := g2.slice t24
  obtain ⟨zS, iS, oS⟩ := list_of (f := rowC) fun i c hc => row_S (yS i c hc)
  rw [iS] at sS lS
  rw [List.length_map] at lS
  obtain ⟨p3, r3, e3, _, g3, h4⟩ := h3.cons
  obtain ⟨_, vC, xC, kC, sC, lC, yC⟩ := g3.slice t25
  obtain ⟨zC, iC, oC⟩ := list_of (f := rowC) fun i c hc => row_C (yC i c hc)
  rw [iC] at sC lC
  rw [List.length_map] at lC
  obtain ⟨p4, r4, e4, _, g4, h5⟩ := h4.cons
  obtain ⟨_, vI, xI, kI, sI, lI, yI⟩ := g4.slice t26
  obtain ⟨zI, iI, oI⟩ := list_of (f := rowC) fun i c hc => row_I (yI i c hc)
  rw [iI] at sI lI
  rw [List.length_map] at lI
  obtain ⟨p5, r5, e5, _, g5, h6⟩ := h5.cons
  obtain ⟨_, vE, xE, kE, sE, lE, yE⟩ := g5.slice t27
  obtain ⟨zE, iE, oE⟩ := list_of (f := rowC) fun i c hc => row_E (yE i c hc)
  rw [iE] at sE lE
  rw [List.length_map] at lE
  obtain ⟨p6, r6, e6, _, g6, h7⟩ := h6.cons
  obtain ⟨_, vL, xL, kL, sL, lL, yL⟩ := g6.slice t28
  obtain ⟨zL, iL, oL⟩ := list_of (f := rowC) fun i c hc => row_L (yL i c hc)
  rw [iL] at sL lL
  rw [List.length_map] at lL
  obtain ⟨p7, r7, e7, _, g7, h8⟩ := h7.cons
  obtain ⟨m7, j0⟩ := g7.st t29
  obtain ⟨b0, u0, f0, ll0, lh0, j1⟩ := j0.int t22
  rw [m64.1] at ll0
  rw [m64.2] at lh0
  obtain ⟨c0, d0, x0⟩ := nat_of ll0 lh0
  obtain ⟨b1, u1, f1, ll1, lh1, j2⟩ := j1.int t22
  rw [m64.1] at ll1
  rw [m64.2] at lh1
  obtain ⟨c1, d1, x1⟩ := nat_of ll1 lh1
  obtain ⟨b2, u2, f2, ll2, lh2, j3⟩ := j2.int t22
  rw [m64.1] at ll2
  rw [m64.2] at lh2
  obtain ⟨c2, d2, x2⟩ := nat_of ll2 lh2
  obtain ⟨b3, u3, f3, ll3, lh3, j4⟩ := j3.int t22
  rw [m64.1] at ll3
  rw [m64.2] at lh3
  obtain ⟨c3, d3, x3⟩ := nat_of ll3 lh3
  obtain ⟨b4, u4, f4, ll4, lh4, j5⟩ := j4.int t22
  rw [m64.1] at ll4
  rw [m64.2] at lh4
  obtain ⟨c4, d4, x4⟩ := nat_of ll4 lh4
  obtain ⟨b5, u5, f5, ll5, lh5, j6⟩ := j5.int t22
  rw [m64.1] at ll5
  rw [m64.2] at lh5
  obtain ⟨c5, d5, x5⟩ := nat_of ll5 lh5
  have f6 := j6.nil
  obtain ⟨p8, r8, e8, _, g8, h9⟩ := h8.cons
  obtain ⟨_, vQ, xQ, kQ, sQ, lQ, yQ⟩ := g8.slice t30
  obtain ⟨zQ, iQ, oQ⟩ := list_of (f := rowC) fun i c hc => row_Q (yQ i c hc)
  rw [iQ] at sQ lQ
  rw [List.length_map] at lQ
  have e9 := h9.nil
  exact ⟨⟨n0, vN, vS, vC, vI, vE, vL, c0, c1, c2, c3, c4, c5, vQ, zN, zS, zC, zI, zE, zL, zQ⟩, by rw [e0, q0, e1, kN, e2, kS, e3, kC, e4, kI, e5, kE, e6, kL, e7, f0, d0, f1, d1, f2, d2, f3, d3, f4, d4, f5, d5, f6, e8, kQ, e9]; rfl, ⟨⟨sN, fun r hr => (oN r hr).1, lN⟩, ⟨sS, fun r hr => (oS r hr).1, lS⟩, ⟨sC, fun r hr => (oC r hr).1, lC⟩, ⟨sI, fun r hr => (oI r hr).1, lI⟩, ⟨sE, fun r hr => (oE r hr).1, lE⟩, ⟨sL, fun r hr => (oL r hr).1, lL⟩, ⟨sQ, fun r hr => (oQ r hr).1, lQ⟩, ⟨w0, x0, x1, x2, x3, x4, x5⟩⟩, ⟨fun r hr => (oN r hr).2, fun r hr => (oS r hr).2, fun r hr => (oC r hr).2, fun r hr => (oI r hr).2, fun r hr => (oE r hr).2, fun r hr => (oL r hr).2, fun r hr => (oQ r hr).2⟩⟩
theorem dumpBack_wf (B : Nat → List AV) (args : List AV) (h : ArgIs Try.prog B Try.f5.params.toList args) : WF B tab (.func 5) args [] fun v _ => v = .bool true := by
  rw [show Try.f5.params.toList = [32] from by kernel_rfl] at h
  match args, h with
  | [a], ⟨⟨n, cs, h, ha⟩, _⟩ =>
    rw [show (shapeOf Try.prog 32).1 = true from by kernel_rfl] at ha
    simp only at ha
    obtain ⟨d, e, h1, h2⟩ := dump_of h
    rw [e] at ha
    cases ha
    exact back_ok h1 h2
end Go.Proofs.Ytdcbglljljfleaa.DU
