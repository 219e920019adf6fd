/- What the functions do, shown by the logic. -/
import Derived.Test.YtdcbglljljfleaaDuC
set_option linter.unusedSimpArgs false
set_option linter.unusedVariables false
set_option linter.unusedSectionVars false
set_option maxRecDepth 20000
namespace Go.Proofs.Ytdcbglljljfleaa.DU
open Go.Proofs.Ytdcbglljljfleaa.Abs
variable {B : Nat → List AV}
theorem fill_all {t : EL} {z r : List AV} {w : Nat} {x : AO} (hx : gl t x = some (.agg r)) (hz : z.length = w) (hr : r.length = w) : fillN t z [(0, w, x)] = some r := by
 have e : putAt z 0 r = some r := by
  unfold putAt
  have : Nat.ble (0 + r.length) z.length = true := by rw [Nat.ble_eq]; omega
  rw [this]
  simp only []
  rw [List.take_zero, List.drop_eq_nil_of_le (by omega)]
  simp
 have e2 : Nat.beq r.length w = true := by rw [hr]; exact Nat.beq_refl w
 unfold fillN
 simp only [fillL, hx, cells_agg, e2, e, forceL_eq]
theorem rowC_nil {w : Nat} : OwnSl .nilsl ((List.map rowC []).flatten) (List.map rowC []).length w [] := .inl ⟨rfl, rfl, rfl, rfl⟩
theorem got {sh : List Fd → Prop} {hh G : HL} {w : Nat} {v : AV} {acc : List (List Fd)} (hl : acc.length ≤ 64) (hw : ∀ r, sh r → (rowC r).length = w) (ok : ∀ r, r ∈ acc → sh r ∧ (∀ f, f ∈ r → f.wf) ∧ ∀ f, f ∈ r → f.at B G) (o : OwnSl v (acc.map rowC).flatten (acc.map rowC).length w hh) : LAt B (hh ++ G) v w sh acc :=
 ⟨SlIs.left (o.sl (by intro c hc; obtain ⟨x, hx, rfl⟩ := List.mem_map.1 hc; exact hw x (ok x hx).1)), fun r hr => ⟨(ok r hr).1, (ok r hr).2.1, fun f hf => Fd.at_app ((ok r hr).2.2 f hf) hh⟩, by omega⟩
theorem ok_snoc {sh : List Fd → Prop} {G X : HL} {acc : List (List Fd)} {r : List Fd} (ok : ∀ r, r ∈ acc → sh r ∧ (∀ f, f ∈ r → f.wf) ∧ ∀ f, f ∈ r → f.at B G) (h1 : sh r) (h2 : ∀ f, f ∈ r → f.wf) (h3 : ∀ f, f ∈ r → f.at B X) : ∀ r', r' ∈ acc ++ [r] → sh r' ∧ (∀ f, f ∈ r' → f.wf) ∧ ∀ f, f ∈ r' → f.at B (G ++ X) := by
 intro r' hr
 rcases List.mem_append.1 hr with hr | hr
 ·exact ⟨(ok r' hr).1, (ok r' hr).2.1, fun f hf => by
   have := (ok r' hr).2.2 f hf
   cases f <;> first | trivial | exact SlIs.left this⟩
 ·obtain rfl := List.mem_singleton.1 hr
  exact ⟨h1, h2, fun f hf => Fd.at_app (h3 f hf) G⟩
set_option maxHeartbeats 2000000 in
theorem get42_ok {H Y R : HL} {p : Nat} {s s' : St} {l : List (List Fd)} (h : RdAt B true H p s Y R) (e : rowsS kN s = (l, s')) :
  WF B tab (.func 42) [.agg [.ptr ⟨false, p, 0⟩], .agg [.fn (.func 63) [] [], .fn (.func 66) [] []]] H fun v H' => ∃ l' X, LAt B X v 4 shN l' ∧ l'.map stripR = l ∧ RdAt B true H' p s' Y (X ++ R) := by
 refine WF.lessP ?_
 refine WF.fn g42 rfl ?_
 obtain ⟨n, s1, en⟩ : ∃ n s1, numS 64 s = (n, s1) := ⟨_, _, rfl⟩
 have hn := num_le h en
 rw [rowsS, en] at e
 dsimp only at e
 refine WC.seq (WC.reg ?_)
 repeat' (first
  | apply WOps.nil | (apply WOps.bx; rfl; rfl; (· repeat' (first | rfl | assumption | apply ac1)); intro _) | (apply WOps.purG; rfl; (intro _; rfl)))
 rename_i p2 p3
 have b0 := (h.cons (x := (p2, .row [.ptr ⟨false, p, 0⟩]))).cons (x := (p3, .row [.fn (.func 63) [] [], .fn (.func 66) [] []]))
 have l2 : ∀ {G : HL} {v o n}, takeN (v.drop o) n = some [AV.ptr ⟨false, p, 0⟩] → v = [AV.ptr ⟨false, p, 0⟩] → Ld B ((p3, .row [.fn (.func 63) [] [], .fn (.func 66) [] []]) :: (p2, .row [.ptr ⟨false, p, 0⟩]) :: G) ⟨false, p2, o⟩ n [AV.ptr ⟨false, p, 0⟩] := fun e1 e2 => by subst e2; exact Ld.cons (Ld.own Tk.head e1)
 have l3 : ∀ {G : HL} {o n x}, takeN ([.fn (.func 63) [] [], .fn (.func 66) [] []].drop o) n = some x → Ld B ((p3, .row [.fn (.func 63) [] [], .fn (.func 66) [] []]) :: (p2, .row [.ptr ⟨false, p, 0⟩]) :: G) ⟨false, p3, o⟩ n x := fun e1 => Ld.own Tk.head e1
 repeat' (first
  | apply WOps.nil | apply WC.seq | apply WC.reg | apply WC.block | (apply WOps.ldG; rfl; rfl; (first | exact ld0 rfl | exact ld1 rfl | exact ld2 rfl); rfl) | (apply WOps.clA; rfl; rfl; exact numT b0 en; rintro _ H1 ⟨rfl, h1⟩) | (apply WOps.purG; rfl; (intro _; rfl)))
 refine WC.loop ?_
 obtain ⟨i, hi⟩ : ∃ i : Nat, i = 0 := ⟨0, rfl⟩
 obtain ⟨acc, hacc⟩ : ∃ l : List (List Fd), l = [] := ⟨_, rfl⟩
 obtain ⟨v, hv⟩ : ∃ v : AV, v = .nilsl := ⟨_, rfl⟩
 obtain ⟨hh, hhh⟩ : ∃ l : HL, l = [] := ⟨_, rfl⟩
 obtain ⟨G, hG⟩ : ∃ l : HL, l = [] := ⟨_, rfl⟩
 refine WL.le (t' := [(2, .ptr ⟨false, p2, 0⟩), (3, .ptr ⟨false, p3, 0⟩), (5, .int .u64 (.ofNat n)), (6, v), (7, .int .u64 (.ofNat i))]) (by subst hi hv; exact Sub1.cons rfl (Sub1.cons rfl (Sub1.cons rfl (Sub1.cons rfl (Sub1.cons rfl Sub1.nil))))) ?_
 have o : OwnSl v (acc.map rowC).flatten (acc.map rowC).length 4 hh := by subst hv hacc hhh; exact rowC_nil
 have ok : ∀ r, r ∈ acc → shN r ∧ (∀ f, f ∈ r → f.wf) ∧ ∀ f, f ∈ r → f.at B G := by subst hacc; intro r hr; cases hr
 have h2 : RdAt B true H1 p s1 Y (hh ++ (G ++ ((p3, .row [.fn (.func 63) [] [], .fn (.func 66) [] []]) :: (p2, .row [.ptr ⟨false, p, 0⟩]) :: R))) := by subst hhh hG; exact h1
 have ht : (acc.map stripR ++ (loopS (rdR kN) (n - i) s1).1, (loopS (rdR kN) (n - i) s1).2) = (l, s') := by subst hi hacc; rw [← e]; simp
 have hal : acc.length ≤ i := by subst hacc; simp
 have hle : i ≤ n := by omega
 have h64 := hn.1
 clear hi hacc hv hhh hG h1 hn en e
 induction hk : n - i using Nat.strongRecOn generalizing i acc v hh G H1 s1 with | _ k ih => ?_
 apply WL.step
 by_cases hlt : i < n
 ·by_cases hs : s1.2 = 0
  ·obtain ⟨r, s2, er⟩ : ∃ r s2, rdR kN s1 = (r, s2) := ⟨_, _, rfl⟩
   have ht2 := tot_step (x := r) (l := (loopS (rdR kN) (n - (i + 1)) s2).1) (s := (loopS (rdR kN) (n - (i + 1)) s2).2) ht (by rw [show n - i = (n - (i + 1)) + 1 by omega, loopS_s hs, er])
   have w1 := read66_ok h2 er
   repeat' (first
    | apply WOps.nil | apply WC.seq | apply WC.reg | apply WC.skip | (apply WC.condT; rfl) | apply WC.block | (apply WOps.cT; rfl; rfl; rfl; rfl; focus (simp only [cmpP, Int.ofNat_eq_natCast, List.length_cons, List.length_map, List.length_nil, Classical.not_not, not_true_eq_false, not_false_eq_true]; first | done | omega | decide)) | (apply WOps.ldG; rfl; rfl; exact h2.ld (Ld.right (Ld.right (l2 rfl rfl))); rfl) | (apply WOps.ldG; rfl; rfl; exact h2.ld (Ld.right (Ld.right (l3 rfl))); rfl) | (apply WOps.clR; rfl; rfl; exact wrong89_ok h2; intro _ hv; subst hv) | (apply WOps.cvA; rfl; rfl; rfl; exact w1; rintro _ H2 ⟨r', X, rfl, rfl, a1, a2, a3, g2⟩; have a4 := shN_len a1; have a5 := shN_cell a1 a3) | (apply WOps.bsl; exact fill_all rfl rfl a4.1; exact a5; intro _) | (apply WOps.purG; rfl; (intro _; rfl)))
   rename_i q
   have g3 := g2.permR (R' := hh ++ ((G ++ X) ++ ((p3, .row [.fn (.func 63) [] [], .fn (.func 66) [] []]) :: (p2, .row [.ptr ⟨false, p, 0⟩]) :: R))) (permF (by intro f; simp only [AV.cells, pm] <;> omega))
   obtain ⟨Z, pz, fz⟩ := g3.split
   refine WOps.app (h := hh) (R := (q, .row (rowC r')) :: Z) (n := (acc.map rowC).length) (m := 1) (xs := rowC r') rfl rfl rfl o ((pz.cons _).trans (permF (by intro f; simp only [AV.cells, pm] <;> omega))) (.inr ⟨_, rfl, .inr (Ld.own Tk.head (take_all (by rw [a4.1])))⟩) (ac_flat fun x hx => shN_cell (ok x hx).1 (ok x hx).2.2) a5 (by rw [a4.1]) (by rw [List.length_map]; omega) ?_
   intro v2 h4 o2
   have o3 : OwnSl v2 ((acc ++ [r']).map rowC).flatten ((acc ++ [r']).map rowC).length 4 h4 := own_snoc o2
   repeat' (first
    | apply WOps.nil | apply WC.reg | (apply WOps.addU; rfl; rfl; rfl; omega) | (apply WOps.purG; rfl; (intro _; rfl)))
   refine WL.le (Sub1.cons rfl (Sub1.cons rfl (Sub1.cons rfl (Sub1.cons rfl (Sub1.cons rfl Sub1.nil))))) (WL.lessP (H1 := h4 ++ Z) (subF (by intro f; simp only [AV.cells, pm] <;> omega)) (ih _ (by omega) _ _ (i + 1) _ v2 h4 (G ++ X) o3 (ok_snoc ok a1 a2 a3) (fz h4) (by rw [List.map_append]; exact ht2) (by rw [List.length_append, List.length_singleton]; omega) (by omega) rfl))
  ·have ht2 := tot_end (l := acc.map stripR) ht (loopS_e hs)
   obtain ⟨rfl, rfl⟩ := Prod.mk.inj ht2
   repeat' (first
    | apply WOps.nil | apply WC.seq | apply WC.reg | apply WC.ret | apply WC.exit | (apply WC.condF; rfl) | (apply WOps.cT; rfl; rfl; rfl; rfl; focus (simp only [cmpP, Int.ofNat_eq_natCast, List.length_cons, List.length_map, List.length_nil, Classical.not_not, not_true_eq_false, not_false_eq_true]; first | done | omega | decide)) | (apply WOps.cF; rfl; rfl; rfl; rfl; focus (simp only [cmpP, Int.ofNat_eq_natCast, List.length_cons, List.length_map, List.length_nil, Classical.not_not, not_true_eq_false, not_false_eq_true]; first | done | omega | decide)) | (apply WOps.ldG; rfl; rfl; exact h2.ld (Ld.right (Ld.right (l2 rfl rfl))); rfl) | (apply WOps.clR; rfl; rfl; exact wrong89_ok h2; intro _ hv; subst hv) | (apply WOps.purG; rfl; (intro _; rfl)))
   obtain ⟨H5, b5, s5⟩ := h2.less (R1 := (hh ++ G) ++ R) (subF (by intro f; simp only [AV.cells, pm] <;> omega))
   exact ⟨trivial, [_], ⟨_, _, rfl, rfl, rfl⟩, H5, ⟨acc, hh ++ G, got (by omega) (fun r h => (shN_len h).1) ok o, rfl, b5⟩, s5⟩
 ·have ht2 := tot_end (l := acc.map stripR) ht (by rw [show n - i = 0 by omega]; exact loopS_0)
  obtain ⟨rfl, rfl⟩ := Prod.mk.inj ht2
  repeat' (first
   | apply WOps.nil | apply WC.seq | apply WC.reg | apply WC.ret | apply WC.exit | (apply WC.condF; rfl) | (apply WOps.cF; rfl; rfl; rfl; rfl; focus (simp only [cmpP, Int.ofNat_eq_natCast, List.length_cons, List.length_map, List.length_nil, Classical.not_not, not_true_eq_false, not_false_eq_true]; first | done | omega | decide)) | (apply WOps.purG; rfl; (intro _; rfl)) | (apply WOps.skp; rfl))
  obtain ⟨H5, b5, s5⟩ := h2.less (R1 := (hh ++ G) ++ R) (subF (by intro f; simp only [AV.cells, pm] <;> omega))
  exact ⟨trivial, [_], ⟨_, _, rfl, rfl, rfl⟩, H5, ⟨acc, hh ++ G, got (by omega) (fun r h => (shN_len h).1) ok o, rfl, b5⟩, s5⟩
set_option maxHeartbeats 2000000 in
theorem get43_ok {H Y R : HL} {p : Nat} {s s' : St} {l : List (List Fd)} (h : RdAt B true H p s Y R) (e : rowsS kS s = (l, s')) :
  WF B tab (.func 43) [.agg [.ptr ⟨false, p, 0⟩], .agg [.fn (.func 70) [] [], .fn (.func 72) [] []]] H fun v H' => ∃ l' X, LAt B X v 7 shS l' ∧ l'.map stripR = l ∧ RdAt B true H' p s' Y (X ++ R) := by
 refine WF.lessP ?_
 refine WF.fn g43 rfl ?_
 obtain ⟨n, s1, en⟩ : ∃ n s1, numS 64 s = (n, s1) := ⟨_, _, rfl⟩
 have hn := num_le h en
 rw [rowsS, en] at e
 dsimp only at e
 refine WC.seq (WC.reg ?_)
 repeat' (first
  | apply WOps.nil | (apply WOps.bx; rfl; rfl; (· repeat' (first | rfl | assumption | apply ac1)); intro _) | (apply WOps.purG; rfl; (intro _; rfl)))
 rename_i p2 p3
 have b0 := (h.cons (x := (p2, .row [.ptr ⟨false, p, 0⟩]))).cons (x := (p3, .row [.fn (.func 70) [] [], .fn (.func 72) [] []]))
 have l2 : ∀ {G : HL} {v o n}, takeN (v.drop o) n = some [AV.ptr ⟨false, p, 0⟩] → v = [AV.ptr ⟨false, p, 0⟩] → Ld B ((p3, .row [.fn (.func 70) [] [], .fn (.func 72) [] []]) :: (p2, .row [.ptr ⟨false, p, 0⟩]) :: G) ⟨false, p2, o⟩ n [AV.ptr ⟨false, p, 0⟩] := fun e1 e2 => by subst e2; exact Ld.cons (Ld.own Tk.head e1)
 have l3 : ∀ {G : HL} {o n x}, takeN ([.fn (.func 70) [] [], .fn (.func 72) [] []].drop o) n = some x → Ld B ((p3, .row [.fn (.func 70) [] [], .fn (.func 72) [] []]) :: (p2, .row [.ptr ⟨false, p, 0⟩]) :: G) ⟨false, p3, o⟩ n x := fun e1 => Ld.own Tk.head e1
 repeat' (first
  | apply WOps.nil | apply WC.seq | apply WC.reg | apply WC.block | (apply WOps.ldG; rfl; rfl; (first | exact ld0 rfl | exact ld1 rfl | exact ld2 rfl); rfl) | (apply WOps.clA; rfl; rfl; exact numT b0 en; rintro _ H1 ⟨rfl, h1⟩) | (apply WOps.purG; rfl; (intro _; rfl)))
 refine WC.loop ?_
 obtain ⟨i, hi⟩ : ∃ i : Nat, i = 0 := ⟨0, rfl⟩
 obtain ⟨acc, hacc⟩ : ∃ l : List (List Fd), l = [] := ⟨_, rfl⟩
 obtain ⟨v, hv⟩ : ∃ v : AV, v = .nilsl := ⟨_, rfl⟩
 obtain ⟨hh, hhh⟩ : ∃ l : HL, l = [] := ⟨_, rfl⟩
 obtain ⟨G, hG⟩ : ∃ l : HL, l = [] := ⟨_, rfl⟩
 refine WL.le (t' := [(2, .ptr ⟨false, p2, 0⟩), (3, .ptr ⟨false, p3, 0⟩), (5, .int .u64 (.ofNat n)), (6, v), (7, .int .u64 (.ofNat i))]) (by subst hi hv; exact Sub1.cons rfl (Sub1.cons rfl (Sub1.cons rfl (Sub1.cons rfl (Sub1.cons rfl Sub1.nil))))) ?_
 have o : OwnSl v (acc.map rowC).flatten (acc.map rowC).length 7 hh := by subst hv hacc hhh; exact rowC_nil
 have ok : ∀ r, r ∈ acc → shS r ∧ (∀ f, f ∈ r → f.wf) ∧ ∀ f, f ∈ r → f.at B G := by subst hacc; intro r hr; cases hr
 have h2 : RdAt B true H1 p s1 Y (hh ++ (G ++ ((p3, .row [.fn (.func 70) [] [], .fn (.func 72) [] []]) :: (p2, .row [.ptr ⟨false, p, 0⟩]) :: R))) := by subst hhh hG; exact h1
 have ht : (acc.map stripR ++ (loopS (rdR kS) (n - i) s1).1, (loopS (rdR kS) (n - i) s1).2) = (l, s') := by subst hi hacc; rw [← e]; simp
 have hal : acc.length ≤ i := by subst hacc; simp
 have hle : i ≤ n := by omega
 have h64 := hn.1
 clear hi hacc hv hhh hG h1 hn en e
 induction hk : n - i using Nat.strongRecOn generalizing i acc v hh G H1 s1 with | _ k ih => ?_
 apply WL.step
 by_cases hlt : i < n
 ·by_cases hs : s1.2 = 0
  ·obtain ⟨r, s2, er⟩ : ∃ r s2, rdR kS s1 = (r, s2) := ⟨_, _, rfl⟩
   have ht2 := tot_step (x := r) (l := (loopS (rdR kS) (n - (i + 1)) s2).1) (s := (loopS (rdR kS) (n - (i + 1)) s2).2) ht (by rw [show n - i = (n - (i + 1)) + 1 by omega, loopS_s hs, er])
   have w1 := read72_ok h2 er
   repeat' (first
    | apply WOps.nil | apply WC.seq | apply WC.reg | apply WC.skip | (apply WC.condT; rfl) | apply WC.block | (apply WOps.cT; rfl; rfl; rfl; rfl; focus (simp only [cmpP, Int.ofNat_eq_natCast, List.length_cons, List.length_map, List.length_nil, Classical.not_not, not_true_eq_false, not_false_eq_true]; first | done | omega | decide)) | (apply WOps.ldG; rfl; rfl; exact h2.ld (Ld.right (Ld.right (l2 rfl rfl))); rfl) | (apply WOps.ldG; rfl; rfl; exact h2.ld (Ld.right (Ld.right (l3 rfl))); rfl) | (apply WOps.clR; rfl; rfl; exact wrong89_ok h2; intro _ hv; subst hv) | (apply WOps.cvA; rfl; rfl; rfl; exact w1; rintro _ H2 ⟨r', X, rfl, rfl, a1, a2, a3, g2⟩; have a4 := shS_len a1; have a5 := shS_cell a1 a3) | (apply WOps.bsl; exact fill_all rfl rfl a4.1; exact a5; intro _) | (apply WOps.purG; rfl; (intro _; rfl)))
   rename_i q
   have g3 := g2.permR (R' := hh ++ ((G ++ X) ++ ((p3, .row [.fn (.func 70) [] [], .fn (.func 72) [] []]) :: (p2, .row [.ptr ⟨false, p, 0⟩]) :: R))) (permF (by intro f; simp only [AV.cells, pm] <;> omega))
   obtain ⟨Z, pz, fz⟩ := g3.split
   refine WOps.app (h := hh) (R := (q, .row (rowC r')) :: Z) (n := (acc.map rowC).length) (m := 1) (xs := rowC r') rfl rfl rfl o ((pz.cons _).trans (permF (by intro f; simp only [AV.cells, pm] <;> omega))) (.inr ⟨_, rfl, .inr (Ld.own Tk.head (take_all (by rw [a4.1])))⟩) (ac_flat fun x hx => shS_cell (ok x hx).1 (ok x hx).2.2) a5 (by rw [a4.1]) (by rw [List.length_map]; omega) ?_
   intro v2 h4 o2
   have o3 : OwnSl v2 ((acc ++ [r']).map rowC).flatten ((acc ++ [r']).map rowC).length 7 h4 := own_snoc o2
   repeat' (first
    | apply WOps.nil | apply WC.reg | (apply WOps.addU; rfl; rfl; rfl; omega) | (apply WOps.purG; rfl; (intro _; rfl)))
   refine WL.le (Sub1.cons rfl (Sub1.cons rfl (Sub1.cons rfl (Sub1.cons rfl (Sub1.cons rfl Sub1.nil))))) (WL.lessP (H1 := h4 ++ Z) (subF (by intro f; simp only [AV.cells, pm] <;> omega)) (ih _ (by omega) _ _ (i + 1) _ v2 h4 (G ++ X) o3 (ok_snoc ok a1 a2 a3) (fz h4) (by rw [List.map_append]; exact ht2) (by rw [List.length_append, List.length_singleton]; omega) (by omega) rfl))
  ·have ht2 := tot_end (l := acc.map stripR) ht (loopS_e hs)
   obtain ⟨rfl, rfl⟩ := Prod.mk.inj ht2
   repeat' (first
    | apply WOps.nil | apply WC.seq | apply WC.reg | apply WC.ret | apply WC.exit | (apply WC.condF; rfl) | (apply WOps.cT; rfl; rfl; rfl; rfl; focus (simp only [cmpP, Int.ofNat_eq_natCast, List.length_cons, List.length_map, List.length_nil, Classical.not_not, not_true_eq_false, not_false_eq_true]; first | done | omega | decide)) | (apply WOps.cF; rfl; rfl; rfl; rfl; focus (simp only [cmpP, Int.ofNat_eq_natCast, List.length_cons, List.length_map, List.length_nil, Classical.not_not, not_true_eq_false, not_false_eq_true]; first | done | omega | decide)) | (apply WOps.ldG; rfl; rfl; exact h2.ld (Ld.right (Ld.right (l2 rfl rfl))); rfl) | (apply WOps.clR; rfl; rfl; exact wrong89_ok h2; intro _ hv; subst hv) | (apply WOps.purG; rfl; (intro _; rfl)))
   obtain ⟨H5, b5, s5⟩ := h2.less (R1 := (hh ++ G) ++ R) (subF (by intro f; simp only [AV.cells, pm] <;> omega))
   exact ⟨trivial, [_], ⟨_, _, rfl, rfl, rfl⟩, H5, ⟨acc, hh ++ G, got (by omega) (fun r h => (shS_len h).1) ok o, rfl, b5⟩, s5⟩
 ·have ht2 := tot_end (l := acc.map stripR) ht (by rw [show n - i = 0 by omega]; exact loopS_0)
  obtain ⟨rfl, rfl⟩ := Prod.mk.inj ht2
  repeat' (first
   | apply WOps.nil | apply WC.seq | apply WC.reg | apply WC.ret | apply WC.exit | (apply WC.condF; rfl) | (apply WOps.cF; rfl; rfl; rfl; rfl; focus (simp only [cmpP, Int.ofNat_eq_natCast, List.length_cons, List.length_map, List.length_nil, Classical.not_not, not_true_eq_false, not_false_eq_true]; first | done | omega | decide)) | (apply WOps.purG; rfl; (intro _; rfl)) | (apply WOps.skp; rfl))
  obtain ⟨H5, b5, s5⟩ := h2.less (R1 := (hh ++ G) ++ R) (subF (by intro f; simp only [AV.cells, pm] <;> omega))
  exact ⟨trivial, [_], ⟨_, _, rfl, rfl, rfl⟩, H5, ⟨acc, hh ++ G, got (by omega) (fun r h => (shS_len h).1) ok o, rfl, b5⟩, s5⟩
set_option maxHeartbeats 2000000 in
theorem get44_ok {H Y R : HL} {p : Nat} {s s' : St} {l : List (List Fd)} (h : RdAt B true H p s Y R) (e : rowsS kC s = (l, s')) :
  WF B tab (.func 44) [.agg [.ptr ⟨false, p, 0⟩], .agg [.fn (.func 75) [] [], .fn (.func 76) [] []]] H fun v H' => ∃ l' X, LAt B X v 7 shC l' ∧ l'.map stripR = l ∧ RdAt B true H' p s' Y (X ++ R) := by
 refine WF.lessP ?_
 refine WF.fn g44 rfl ?_
 obtain ⟨n, s1, en⟩ : ∃ n s1, numS 64 s = (n, s1) := ⟨_, _, rfl⟩
 have hn := num_le h en
 rw [rowsS, en] at e
 dsimp only at e
 refine WC.seq (WC.reg ?_)
 repeat' (first
  | apply WOps.nil | (apply WOps.bx; rfl; rfl; (· repeat' (first | rfl | assumption | apply ac1)); intro _) | (apply WOps.purG; rfl; (intro _; rfl)))
 rename_i p2 p3
 have b0 := (h.cons (x := (p2, .row [.ptr ⟨false, p, 0⟩]))).cons (x := (p3, .row [.fn (.func 75) [] [], .fn (.func 76) [] []]))
 have l2 : ∀ {G : HL} {v o n}, takeN (v.drop o) n = some [AV.ptr ⟨false, p, 0⟩] → v = [AV.ptr ⟨false, p, 0⟩] → Ld B ((p3, .row [.fn (.func 75) [] [], .fn (.func 76) [] []]) :: (p2, .row [.ptr ⟨false, p, 0⟩]) :: G) ⟨false, p2, o⟩ n [AV.ptr ⟨false, p, 0⟩] := fun e1 e2 => by subst e2; exact Ld.cons (Ld.own Tk.head e1)
 have l3 : ∀ {G : HL} {o n x}, takeN ([.fn (.func 75) [] [], .fn (.func 76) [] []].drop o) n = some x → Ld B ((p3, .row [.fn (.func 75) [] [], .fn (.func 76) [] []]) :: (p2, .row [.ptr ⟨false, p, 0⟩]) :: G) ⟨false, p3, o⟩ n x := fun e1 => Ld.own Tk.head e1
 repeat' (first
  | apply WOps.nil | apply WC.seq | apply WC.reg | apply WC.block | (apply WOps.ldG; rfl; rfl; (first | exact ld0 rfl | exact ld1 rfl | exact ld2 rfl); rfl) | (apply WOps.clA; rfl; rfl; exact numT b0 en; rintro _ H1 ⟨rfl, h1⟩) | (apply WOps.purG; rfl; (intro _; rfl)))
 refine WC.loop ?_
 obtain ⟨i, hi⟩ : ∃ i : Nat, i = 0 := ⟨0, rfl⟩
 obtain ⟨acc, hacc⟩ : ∃ l : List (List Fd), l = [] := ⟨_, rfl⟩
 obtain ⟨v, hv⟩ : ∃ v : AV, v = .nilsl := ⟨_, rfl⟩
 obtain ⟨hh, hhh⟩ : ∃ l : HL, l = [] := ⟨_, rfl⟩
 obtain ⟨G, hG⟩ : ∃ l : HL, l = [] := ⟨_, rfl⟩
 refine WL.le (t' := [(2, .ptr ⟨false, p2, 0⟩), (3, .ptr ⟨false, p3, 0⟩), (5, .int .u64 (.ofNat n)), (6, v), (7, .int .u64 (.ofNat i))]) (by subst hi hv; exact Sub1.cons rfl (Sub1.cons rfl (Sub1.cons rfl (Sub1.cons rfl (Sub1.cons rfl Sub1.nil))))) ?_
 have o : OwnSl v (acc.map rowC).flatten (acc.map rowC).length 7 hh := by subst hv hacc hhh; exact rowC_nil
 have ok : ∀ r, r ∈ acc → shC r ∧ (∀ f, f ∈ r → f.wf) ∧ ∀ f, f ∈ r → f.at B G := by subst hacc; intro r hr; cases hr
 have h2 : RdAt B true H1 p s1 Y (hh ++ (G ++ ((p3, .row [.fn (.func 75) [] [], .fn (.func 76) [] []]) :: (p2, .row [.ptr ⟨false, p, 0⟩]) :: R))) := by subst hhh hG; exact h1
 have ht : (acc.map stripR ++ (loopS (rdR kC) (n - i) s1).1, (loopS (rdR kC) (n - i) s1).2) = (l, s') := by subst hi hacc; rw [← e]; simp
 have hal : acc.length ≤ i := by subst hacc; simp
 have hle : i ≤ n := by omega
 have h64 := hn.1
 clear hi hacc hv hhh hG h1 hn en e
 induction hk : n - i using Nat.strongRecOn generalizing i acc v hh G H1 s1 with | _ k ih => ?_
 apply WL.step
 by_cases hlt : i < n
 ·by_cases hs : s1.2 = 0
  ·obtain ⟨r, s2, er⟩ : ∃ r s2, rdR kC s1 = (r, s2) := ⟨_, _, rfl⟩
   have ht2 := tot_step (x := r) (l := (loopS (rdR kC) (n - (i + 1)) s2).1) (s := (loopS (rdR kC) (n - (i + 1)) s2).2) ht (by rw [show n - i = (n - (i + 1)) + 1 by omega, loopS_s hs, er])
   have w1 := read76_ok h2 er
   repeat' (first
    | apply WOps.nil | apply WC.seq | apply WC.reg | apply WC.skip | (apply WC.condT; rfl) | apply WC.block | (apply WOps.cT; rfl; rfl; rfl; rfl; focus (simp only [cmpP, Int.ofNat_eq_natCast, List.length_cons, List.length_map, List.length_nil, Classical.not_not, not_true_eq_false, not_false_eq_true]; first | done | omega | decide)) | (apply WOps.ldG; rfl; rfl; exact h2.ld (Ld.right (Ld.right (l2 rfl rfl))); rfl) | (apply WOps.ldG; rfl; rfl; exact h2.ld (Ld.right (Ld.right (l3 rfl))); rfl) | (apply WOps.clR; rfl; rfl; exact wrong89_ok h2; intro _ hv; subst hv) | (apply WOps.cvA; rfl; rfl; rfl; exact w1; rintro _ H2 ⟨r', X, rfl, rfl, a1, a2, a3, g2⟩; have a4 := shC_len a1; have a5 := shC_cell a1 a3) | (apply WOps.bsl; exact fill_all rfl rfl a4.1; exact a5; intro _) | (apply WOps.purG; rfl; (intro _; rfl)))
   rename_i q
   have g3 := g2.permR (R' := hh ++ ((G ++ X) ++ ((p3, .row [.fn (.func 75) [] [], .fn (.func 76) [] []]) :: (p2, .row [.ptr ⟨false, p, 0⟩]) :: R))) (permF (by intro f; simp only [AV.cells, pm] <;> omega))
   obtain ⟨Z, pz, fz⟩ := g3.split
   refine WOps.app (h := hh) (R := (q, .row (rowC r')) :: Z) (n := (acc.map rowC).length) (m := 1) (xs := rowC r') rfl rfl rfl o ((pz.cons _).trans (permF (by intro f; simp only [AV.cells, pm] <;> omega))) (.inr ⟨_, rfl, .inr (Ld.own Tk.head (take_all (by rw [a4.1])))⟩) (ac_flat fun x hx => shC_cell (ok x hx).1 (ok x hx).2.2) a5 (by rw [a4.1]) (by rw [List.length_map]; omega) ?_
   intro v2 h4 o2
   have o3 : OwnSl v2 ((acc ++ [r']).map rowC).flatten ((acc ++ [r']).map rowC).length 7 h4 := own_snoc o2
   repeat' (first
    | apply WOps.nil | apply WC.reg | (apply WOps.addU; rfl; rfl; rfl; omega) | (apply WOps.purG; rfl; (intro _; rfl)))
   refine WL.le (Sub1.cons rfl (Sub1.cons rfl (Sub1.cons rfl (Sub1.cons rfl (Sub1.cons rfl Sub1.nil))))) (WL.lessP (H1 := h4 ++ Z) (subF (by intro f; simp only [AV.cells, pm] <;> omega)) (ih _ (by omega) _ _ (i + 1) _ v2 h4 (G ++ X) o3 (ok_snoc ok a1 a2 a3) (fz h4) (by rw [List.map_append]; exact ht2) (by rw [List.length_append, List.length_singleton]; omega) (by omega) rfl))
  ·have ht2 := tot_end (l := acc.map stripR) ht (loopS_e hs)
   obtain ⟨rfl, rfl⟩ := Prod.mk.inj ht2
   repeat' (first
    | apply WOps.nil | apply WC.seq | apply WC.reg | apply WC.ret | apply WC.exit | (apply WC.condF; rfl) | (apply WOps.cT; rfl; rfl; rfl; rfl; focus (simp only [cmpP, Int.ofNat_eq_natCast, List.length_cons, List.length_map, List.length_nil, Classical.not_not, not_true_eq_false, not_false_eq_true]; first | done | omega | decide)) | (apply WOps.cF; rfl; rfl; rfl; rfl; focus (simp only [cmpP, Int.ofNat_eq_natCast, List.length_cons, List.length_map, List.length_nil, Classical.not_not, not_true_eq_false, not_false_eq_true]; first | done | omega | decide)) | (apply WOps.ldG; rfl; rfl; exact h2.ld (Ld.right (Ld.right (l2 rfl rfl))); rfl) | (apply WOps.clR; rfl; rfl; exact wrong89_ok h2; intro _ hv; subst hv) | (apply WOps.purG; rfl; (intro _; rfl)))
   obtain ⟨H5, b5, s5⟩ := h2.less (R1 := (hh ++ G) ++ R) (subF (by intro f; simp only [AV.cells, pm] <;> omega))
   exact ⟨trivial, [_], ⟨_, _, rfl, rfl, rfl⟩, H5, ⟨acc, hh ++ G, got (by omega) (fun r h => (shC_len h).1) ok o, rfl, b5⟩, s5⟩
 ·have ht2 := tot_end (l := acc.map stripR) ht (by rw [show n - i = 0 by omega]; exact loopS_0)
  obtain ⟨rfl, rfl⟩ := Prod.mk.inj ht2
  repeat' (first
   | apply WOps.nil | apply WC.seq | apply WC.reg | apply WC.ret | apply WC.exit | (apply WC.condF; rfl) | (apply WOps.cF; rfl; rfl; rfl; rfl; focus (simp only [cmpP, Int.ofNat_eq_natCast, List.length_cons, List.length_map, List.length_nil, Classical.not_not, not_true_eq_false, not_false_eq_true]; first | done | omega | decide)) | (apply WOps.purG; rfl; (intro _; rfl)) | (apply WOps.skp; rfl))
  obtain ⟨H5, b5, s5⟩ := h2.less (R1 := (hh ++ G) ++ R) (subF (by intro f; simp only [AV.cells, pm] <;> omega))
  exact ⟨trivial, [_], ⟨_, _, rfl, rfl, rfl⟩, H5, ⟨acc, hh ++ G, got (by omega) (fun r h => (shC_len h).1) ok o, rfl, b5⟩, s5⟩
set_option maxHeartbeats 2000000 in
theorem get45_ok {H Y R : HL} {p : Nat} {s s' : St} {l : List (List Fd)} (h : RdAt B true H p s Y R) (e : rowsS kI s = (l, s')) :
  WF B tab (.func 45) [.agg [.ptr ⟨false, p, 0⟩], .agg [.fn (.func 77) [] [], .fn (.func 79) [] []]] H fun v H' => ∃ l' X, LAt B X v 5 shI l' ∧ l'.map stripR = l ∧ RdAt B true H' p s' Y (X ++ R) := by
 refine WF.lessP ?_
 refine WF.fn g45 rfl ?_
 obtain ⟨n, s1, en⟩ : ∃ n s1, numS 64 s = (n, s1) := ⟨_, _, rfl⟩
 have hn := num_le h en
 rw [rowsS, en] at e
 dsimp only at e
 refine WC.seq (WC.reg ?_)
 repeat' (first
  | apply WOps.nil | (apply WOps.bx; rfl; rfl; (· repeat' (first | rfl | assumption | apply ac1)); intro _) | (apply WOps.purG; rfl; (intro _; rfl)))
 rename_i p2 p3
 have b0 := (h.cons (x := (p2, .row [.ptr ⟨false, p, 0⟩]))).cons (x := (p3, .row [.fn (.func 77) [] [], .fn (.func 79) [] []]))
 have l2 : ∀ {G : HL} {v o n}, takeN (v.drop o) n = some [AV.ptr ⟨false, p, 0⟩] → v = [AV.ptr ⟨false, p, 0⟩] → Ld B ((p3, .row [.fn (.func 77) [] [], .fn (.func 79) [] []]) :: (p2, .row [.ptr ⟨false, p, 0⟩]) :: G) ⟨false, p2, o⟩ n [AV.ptr ⟨false, p, 0⟩] := fun e1 e2 => by subst e2; exact Ld.cons (Ld.own Tk.head e1)
 have l3 : ∀ {G : HL} {o n x}, takeN ([.fn (.func 77) [] [], .fn (.func 79) [] []].drop o) n = some x → Ld B ((p3, .row [.fn (.func 77) [] [], .fn (.func 79) [] []]) :: (p2, .row [.ptr ⟨false, p, 0⟩]) :: G) ⟨false, p3, o⟩ n x := fun e1 => Ld.own Tk.head e1
 repeat' (first
  | apply WOps.nil | apply WC.seq | apply WC.reg | apply WC.block | (apply WOps.ldG; rfl; rfl; (first | exact ld0 rfl | exact ld1 rfl | exact ld2 rfl); rfl) | (apply WOps.clA; rfl; rfl; exact numT b0 en; rintro _ H1 ⟨rfl, h1⟩) | (apply WOps.purG; rfl; (intro _; rfl)))
 refine WC.loop ?_
 obtain ⟨i, hi⟩ : ∃ i : Nat, i = 0 := ⟨0, rfl⟩
 obtain ⟨acc, hacc⟩ : ∃ l : List (List Fd), l = [] := ⟨_, rfl⟩
 obtain ⟨v, hv⟩ : ∃ v : AV, v = .nilsl := ⟨_, rfl⟩
 obtain ⟨hh, hhh⟩ : ∃ l : HL, l = [] := ⟨_, rfl⟩
 obtain ⟨G, hG⟩ : ∃ l : HL, l = [] := ⟨_, rfl⟩
 refine WL.le (t' := [(2, .ptr ⟨false, p2, 0⟩), (3, .ptr ⟨false, p3, 0⟩), (5, .int .u64 (.ofNat n)), (6, v), (7, .int .u64 (.ofNat i))]) (by subst hi hv; exact Sub1.cons rfl (Sub1.cons rfl (Sub1.cons rfl (Sub1.cons rfl (Sub1.cons rfl Sub1.nil))))) ?_
 have o : OwnSl v (acc.map rowC).flatten (acc.map rowC).length 5 hh := by subst hv hacc hhh; exact rowC_nil
 have ok : ∀ r, r ∈ acc → shI r ∧ (∀ f, f ∈ r → f.wf) ∧ ∀ f, f ∈ r → f.at B G := by subst hacc; intro r hr; cases hr
 have h2 : RdAt B true H1 p s1 Y (hh ++ (G ++ ((p3, .row [.fn (.func 77) [] [], .fn (.func 79) [] []]) :: (p2, .row [.ptr ⟨false, p, 0⟩]) :: R))) := by subst hhh hG; exact h1
 have ht : (acc.map stripR ++ (loopS (rdR kI) (n - i) s1).1, (loopS (rdR kI) (n - i) s1).2) = (l, s') := by subst hi hacc; rw [← e]; simp
 have hal : acc.length ≤ i := by subst hacc; simp
 have hle : i ≤ n := by omega
 have h64 := hn.1
 clear hi hacc hv hhh hG h1 hn en e
 induction hk : n - i using Nat.strongRecOn generalizing i acc v hh G H1 s1 with | _ k ih => ?_
 apply WL.step
 by_cases hlt : i < n
 ·by_cases hs : s1.2 = 0
  ·obtain ⟨r, s2, er⟩ : ∃ r s2, rdR kI s1 = (r, s2) := ⟨_, _, rfl⟩
   have ht2 := tot_step (x := r) (l := (loopS (rdR kI) (n - (i + 1)) s2).1) (s := (loopS (rdR kI) (n - (i + 1)) s2).2) ht (by rw [show n - i = (n - (i + 1)) + 1 by omega, loopS_s hs, er])
   have w1 := read79_ok h2 er
   repeat' (first
    | apply WOps.nil | apply WC.seq | apply WC.reg | apply WC.skip | (apply WC.condT; rfl) | apply WC.block | (apply WOps.cT; rfl; rfl; rfl; rfl; focus (simp only [cmpP, Int.ofNat_eq_natCast, List.length_cons, List.length_map, List.length_nil, Classical.not_not, not_true_eq_false, not_false_eq_true]; first | done | omega | decide)) | (apply WOps.ldG; rfl; rfl; exact h2.ld (Ld.right (Ld.right (l2 rfl rfl))); rfl) | (apply WOps.ldG; rfl; rfl; exact h2.ld (Ld.right (Ld.right (l3 rfl))); rfl) | (apply WOps.clR; rfl; rfl; exact wrong89_ok h2; intro _ hv; subst hv) | (apply WOps.cvA; rfl; rfl; rfl; exact w1; rintro _ H2 ⟨r', X, rfl, rfl, a1, a2, a3, g2⟩; have a4 := shI_len a1; have a5 := shI_cell a1 a3) | (apply WOps.bsl; exact fill_all rfl rfl a4.1; exact a5; intro _) | (apply WOps.purG; rfl; (intro _; rfl)))
   rename_i q
   have g3 := g2.permR (R' := hh ++ ((G ++ X) ++ ((p3, .row [.fn (.func 77) [] [], .fn (.func 79) [] []]) :: (p2, .row [.ptr ⟨false, p, 0⟩]) :: R))) (permF (by intro f; simp only [AV.cells, pm] <;> omega))
   obtain ⟨Z, pz, fz⟩ := g3.split
   refine WOps.app (h := hh) (R := (q, .row (rowC r')) :: Z) (n := (acc.map rowC).length) (m := 1) (xs := rowC r') rfl rfl rfl o ((pz.cons _).trans (permF (by intro f; simp only [AV.cells, pm] <;> omega))) (.inr ⟨_, rfl, .inr (Ld.own Tk.head (take_all (by rw [a4.1])))⟩) (ac_flat fun x hx => shI_cell (ok x hx).1 (ok x hx).2.2) a5 (by rw [a4.1]) (by rw [List.length_map]; omega) ?_
   intro v2 h4 o2
   have o3 : OwnSl v2 ((acc ++ [r']).map rowC).flatten ((acc ++ [r']).map rowC).length 5 h4 := own_snoc o2
   repeat' (first
    | apply WOps.nil | apply WC.reg | (apply WOps.addU; rfl; rfl; rfl; omega) | (apply WOps.purG; rfl; (intro _; rfl)))
   refine WL.le (Sub1.cons rfl (Sub1.cons rfl (Sub1.cons rfl (Sub1.cons rfl (Sub1.cons rfl Sub1.nil))))) (WL.lessP (H1 := h4 ++ Z) (subF (by intro f; simp only [AV.cells, pm] <;> omega)) (ih _ (by omega) _ _ (i + 1) _ v2 h4 (G ++ X) o3 (ok_snoc ok a1 a2 a3) (fz h4) (by rw [List.map_append]; exact ht2) (by rw [List.length_append, List.length_singleton]; omega) (by omega) rfl))
  ·have ht2 := tot_end (l := acc.map stripR) ht (loopS_e hs)
   obtain ⟨rfl, rfl⟩ := Prod.mk.inj ht2
   repeat' (first
    | apply WOps.nil | apply WC.seq | apply WC.reg | apply WC.ret | apply WC.exit | (apply WC.condF; rfl) | (apply WOps.cT; rfl; rfl; rfl; rfl; focus (simp only [cmpP, Int.ofNat_eq_natCast, List.length_cons, List.length_map, List.length_nil, Classical.not_not, not_true_eq_false, not_false_eq_true]; first | done | omega | decide)) | (apply WOps.cF; rfl; rfl; rfl; rfl; focus (simp only [cmpP, Int.ofNat_eq_natCast, List.length_cons, List.length_map, List.length_nil, Classical.not_not, not_true_eq_false, not_false_eq_true]; first | done | omega | decide)) | (apply WOps.ldG; rfl; rfl; exact h2.ld (Ld.right (Ld.right (l2 rfl rfl))); rfl) | (apply WOps.clR; rfl; rfl; exact wrong89_ok h2; intro _ hv; subst hv) | (apply WOps.purG; rfl; (intro _; rfl)))
   obtain ⟨H5, b5, s5⟩ := h2.less (R1 := (hh ++ G) ++ R) (subF (by intro f; simp only [AV.cells, pm] <;> omega))
   exact ⟨trivial, [_], ⟨_, _, rfl, rfl, rfl⟩, H5, ⟨acc, hh ++ G, got (by omega) (fun r h => (shI_len h).1) ok o, rfl, b5⟩, s5⟩
 ·have ht2 := tot_end (l := acc.map stripR) ht (by rw [show n - i = 0 by omega]; exact loopS_0)
  obtain ⟨rfl, rfl⟩ := Prod.mk.inj ht2
  repeat' (first
   | apply WOps.nil | apply WC.seq | apply WC.reg | apply WC.ret | apply WC.exit | (apply WC.condF; rfl) | (apply WOps.cF; rfl; rfl; rfl; rfl; focus (simp only [cmpP, Int.ofNat_eq_natCast, List.length_cons, List.length_map, List.length_nil, Classical.not_not, not_true_eq_false, not_false_eq_true]; first | done | omega | decide)) | (apply WOps.purG; rfl; (intro _; rfl)) | (apply WOps.skp; rfl))
  obtain ⟨H5, b5, s5⟩ := h2.less (R1 := (hh ++ G) ++ R) (subF (by intro f; simp only [AV.cells, pm] <;> omega))
  exact ⟨trivial, [_], ⟨_, _, rfl, rfl, rfl⟩, H5, ⟨acc, hh ++ G, got (by omega) (fun r h => (shI_len h).1) ok o, rfl, b5⟩, s5⟩
set_option maxHeartbeats 2000000 in
theorem get46_ok {H Y R : HL} {p : Nat} {s s' : St} {l : List (List Fd)} (h : RdAt B true H p s Y R) (e : rowsS kE s = (l, s')) :
  WF B tab (.func 46) [.agg [.ptr ⟨false, p, 0⟩], .agg [.fn (.func 81) [] [], .fn (.func 82) [] []]] H fun v H' => ∃ l' X, LAt B X v 6 shE l' ∧ l'.map stripR = l ∧ RdAt B true H' p s' Y (X ++ R) := by
 refine WF.lessP ?_
 refine WF.fn g46 rfl ?_
 obtain ⟨n, s1, en⟩ : ∃ n s1, numS 64 s = (n, s1) := ⟨_, _, rfl⟩
 have hn := num_le h en
 rw [rowsS, en] at e
 dsimp only at e
 refine WC.seq (WC.reg ?_)
 repeat' (first
  | apply WOps.nil | (apply WOps.bx; rfl; rfl; (· repeat' (first | rfl | assumption | apply ac1)); intro _) | (apply WOps.purG; rfl; (intro _; rfl)))
 rename_i p2 p3
 have b0 := (h.cons (x := (p2, .row [.ptr ⟨false, p, 0⟩]))).cons (x := (p3, .row [.fn (.func 81) [] [], .fn (.func 82) [] []]))
 have l2 : ∀ {G : HL} {v o n}, takeN (v.drop o) n = some [AV.ptr ⟨false, p, 0⟩] → v = [AV.ptr ⟨false, p, 0⟩] → Ld B ((p3, .row [.fn (.func 81) [] [], .fn (.func 82) [] []]) :: (p2, .row [.ptr ⟨false, p, 0⟩]) :: G) ⟨false, p2, o⟩ n [AV.ptr ⟨false, p, 0⟩] := fun e1 e2 => by subst e2; exact Ld.cons (Ld.own Tk.head e1)
 have l3 : ∀ {G : HL} {o n x}, takeN ([.fn (.func 81) [] [], .fn (.func 82) [] []].drop o) n = some x → Ld B ((p3, .row [.fn (.func 81) [] [], .fn (.func 82) [] []]) :: (p2, .row [.ptr ⟨false, p, 0⟩]) :: G) ⟨false, p3, o⟩ n x := fun e1 => Ld.own Tk.head e1
 repeat' (first
  | apply WOps.nil | apply WC.seq | apply WC.reg | apply WC.block | (apply WOps.ldG; rfl; rfl; (first | exact ld0 rfl | exact ld1 rfl | exact ld2 rfl); rfl) | (apply WOps.clA; rfl; rfl; exact numT b0 en; rintro _ H1 ⟨rfl, h1⟩) | (apply WOps.purG; rfl; (intro _; rfl)))
 refine WC.loop ?_
 obtain ⟨i, hi⟩ : ∃ i : Nat, i = 0 := ⟨0, rfl⟩
 obtain ⟨acc, hacc⟩ : ∃ l : List (List Fd), l = [] := ⟨_, rfl⟩
 obtain ⟨v, hv⟩ : ∃ v : AV, v = .nilsl := ⟨_, rfl⟩
 obtain ⟨hh, hhh⟩ : ∃ l : HL, l = [] := ⟨_, rfl⟩
 obtain ⟨G, hG⟩ : ∃ l : HL, l = [] := ⟨_, rfl⟩
 refine WL.le (t' := [(2, .ptr ⟨false, p2, 0⟩), (3, .ptr ⟨false, p3, 0⟩), (5, .int .u64 (.ofNat n)), (6, v), (7, .int .u64 (.ofNat i))]) (by subst hi hv; exact Sub1.cons rfl (Sub1.cons rfl (Sub1.cons rfl (Sub1.cons rfl (Sub1.cons rfl Sub1.nil))))) ?_
 have o : OwnSl v (acc.map rowC).flatten (acc.map rowC).length 6 hh := by subst hv hacc hhh; exact rowC_nil
 have ok : ∀ r, r ∈ acc → shE r ∧ (∀ f, f ∈ r → f.wf) ∧ ∀ f, f ∈ r → f.at B G := by subst hacc; intro r hr; cases hr
 have h2 : RdAt B true H1 p s1 Y (hh ++ (G ++ ((p3, .row [.fn (.func 81) [] [], .fn (.func 82) [] []]) :: (p2, .row [.ptr ⟨false, p, 0⟩]) :: R))) := by subst hhh hG; exact h1
 have ht : (acc.map stripR ++ (loopS (rdR kE) (n - i) s1).1, (loopS (rdR kE) (n - i) s1).2) = (l, s') := by subst hi hacc; rw [← e]; simp
 have hal : acc.length ≤ i := by subst hacc; simp
 have hle : i ≤ n := by omega
 have h64 := hn.1
 clear hi hacc hv hhh hG h1 hn en e
 induction hk : n - i using Nat.strongRecOn generalizing i acc v hh G H1 s1 with | _ k ih => ?_
 apply WL.step
 by_cases hlt : i < n
 ·by_cases hs : s1.2 = 0
  ·obtain ⟨r, s2, er⟩ : ∃ r s2, rdR kE s1 = (r, s2) := ⟨_, _, rfl⟩
   have ht2 := tot_step (x := r) (l := (loopS (rdR kE) (n - (i + 1)) s2).1) (s := (loopS (rdR kE) (n - (i + 1)) s2).2) ht (by rw [show n - i = (n - (i + 1)) + 1 by omega, loopS_s hs, er])
   have w1 := read82_ok h2 er
   repeat' (first
    | apply WOps.nil | apply WC.seq | apply WC.reg | apply WC.skip | (apply WC.condT; rfl) | apply WC.block | (apply WOps.cT; rfl; rfl; rfl; rfl; focus (simp only [cmpP, Int.ofNat_eq_natCast, List.length_cons, List.length_map, List.length_nil, Classical.not_not, not_true_eq_false, not_false_eq_true]; first | done | omega | decide)) | (apply WOps.ldG; rfl; rfl; exact h2.ld (Ld.right (Ld.right (l2 rfl rfl))); rfl) | (apply WOps.ldG; rfl; rfl; exact h2.ld (Ld.right (Ld.right (l3 rfl))); rfl) | (apply WOps.clR; rfl; rfl; exact wrong89_ok h2; intro _ hv; subst hv) | (apply WOps.cvA; rfl; rfl; rfl; exact w1; rintro _ H2 ⟨r', X, rfl, rfl, a1, a2, a3, g2⟩; have a4 := shE_len a1; have a5 := shE_cell a1 a3) | (apply WOps.bsl; exact fill_all rfl rfl a4.1; exact a5; intro _) | (apply WOps.purG; rfl; (intro _; rfl)))
   rename_i q
   have g3 := g2.permR (R' := hh ++ ((G ++ X) ++ ((p3, .row [.fn (.func 81) [] [], .fn (.func 82) [] []]) :: (p2, .row [.ptr ⟨false, p, 0⟩]) :: R))) (permF (by intro f; simp only [AV.cells, pm] <;> omega))
   obtain ⟨Z, pz, fz⟩ := g3.split
   refine WOps.app (h := hh) (R := (q, .row (rowC r')) :: Z) (n := (acc.map rowC).length) (m := 1) (xs := rowC r') rfl rfl rfl o ((pz.cons _).trans (permF (by intro f; simp only [AV.cells, pm] <;> omega))) (.inr ⟨_, rfl, .inr (Ld.own Tk.head (take_all (by rw [a4.1])))⟩) (ac_flat fun x hx => shE_cell (ok x hx).1 (ok x hx).2.2) a5 (by rw [a4.1]) (by rw [List.length_map]; omega) ?_
   intro v2 h4 o2
   have o3 : OwnSl v2 ((acc ++ [r']).map rowC).flatten ((acc ++ [r']).map rowC).length 6 h4 := own_snoc o2
   repeat' (first
    | apply WOps.nil | apply WC.reg | (apply WOps.addU; rfl; rfl; rfl; omega) | (apply WOps.purG; rfl; (intro _; rfl)))
   refine WL.le (Sub1.cons rfl (Sub1.cons rfl (Sub1.cons rfl (Sub1.cons rfl (Sub1.cons rfl Sub1.nil))))) (WL.lessP (H1 := h4 ++ Z) (subF (by intro f; simp only [AV.cells, pm] <;> omega)) (ih _ (by omega) _ _ (i + 1) _ v2 h4 (G ++ X) o3 (ok_snoc ok a1 a2 a3) (fz h4) (by rw [List.map_append]; exact ht2) (by rw [List.length_append, List.length_singleton]; omega) (by omega) rfl))
  ·have ht2 := tot_end (l := acc.map stripR) ht (loopS_e hs)
   obtain ⟨rfl, rfl⟩ := Prod.mk.inj ht2
   repeat' (first
    | apply WOps.nil | apply WC.seq | apply WC.reg | apply WC.ret | apply WC.exit | (apply WC.condF; rfl) | (apply WOps.cT; rfl; rfl; rfl; rfl; focus (simp only [cmpP, Int.ofNat_eq_natCast, List.length_cons, List.length_map, List.length_nil, Classical.not_not, not_true_eq_false, not_false_eq_true]; first | done | omega | decide)) | (apply WOps.cF; rfl; rfl; rfl; rfl; focus (simp only [cmpP, Int.ofNat_eq_natCast, List.length_cons, List.length_map, List.length_nil, Classical.not_not, not_true_eq_false, not_false_eq_true]; first | done | omega | decide)) | (apply WOps.ldG; rfl; rfl; exact h2.ld (Ld.right (Ld.right (l2 rfl rfl))); rfl) | (apply WOps.clR; rfl; rfl; exact wrong89_ok h2; intro _ hv; subst hv) | (apply WOps.purG; rfl; (intro _; rfl)))
   obtain ⟨H5, b5, s5⟩ := h2.less (R1 := (hh ++ G) ++ R) (subF (by intro f; simp only [AV.cells, pm] <;> omega))
   exact ⟨trivial, [_], ⟨_, _, rfl, rfl, rfl⟩, H5, ⟨acc, hh ++ G, got (by omega) (fun r h => (shE_len h).1) ok o, rfl, b5⟩, s5⟩
 ·have ht2 := tot_end (l := acc.map stripR) ht (by rw [show n - i = 0 by omega]; exact loopS_0)
  obtain ⟨rfl, rfl⟩ := Prod.mk.inj ht2
  repeat' (first
   | apply WOps.nil | apply WC.seq | apply WC.reg | apply WC.ret | apply WC.exit | (apply WC.condF; rfl) | (apply WOps.cF; rfl; rfl; rfl; rfl; focus (simp only [cmpP, Int.ofNat_eq_natCast, List.length_cons, List.length_map, List.length_nil, Classical.not_not, not_true_eq_false, not_false_eq_true]; first | done | omega | decide)) | (apply WOps.purG; rfl; (intro _; rfl)) | (apply WOps.skp; rfl))
  obtain ⟨H5, b5, s5⟩ := h2.less (R1 := (hh ++ G) ++ R) (subF (by intro f; simp only [AV.cells, pm] <;> omega))
  exact ⟨trivial, [_], ⟨_, _, rfl, rfl, rfl⟩, H5, ⟨acc, hh ++ G, got (by omega) (fun r h => (shE_len h).1) ok o, rfl, b5⟩, s5⟩
set_option maxHeartbeats 2000000 in
theorem get47_ok {H Y R : HL} {p : Nat} {s s' : St} {l : List (List Fd)} (h : RdAt B true H p s Y R) (e : rowsS kL s = (l, s')) :
  WF B tab (.func 47) [.agg [.ptr ⟨false, p, 0⟩], .agg [.fn (.func 83) [] [], .fn (.func 84) [] []]] H fun v H' => ∃ l' X, LAt B X v 4 shL l' ∧ l'.map stripR = l ∧ RdAt B true H' p s' Y (X ++ R) := by
 refine WF.lessP ?_
 refine WF.fn g47 rfl ?_
 obtain ⟨n, s1, en⟩ : ∃ n s1, numS 64 s = (n, s1) := ⟨_, _, rfl⟩
 have hn := num_le h en
 rw [rowsS, en] at e
 dsimp only at e
 refine WC.seq (WC.reg ?_)
 repeat' (first
  | apply WOps.nil | (apply WOps.bx; rfl; rfl; (· repeat' (first | rfl | assumption | apply ac1)); intro _) | (apply WOps.purG; rfl; (intro _; rfl)))
 rename_i p2 p3
 have b0 := (h.cons (x := (p2, .row [.ptr ⟨false, p, 0⟩]))).cons (x := (p3, .row [.fn (.func 83) [] [], .fn (.func 84) [] []]))
 have l2 : ∀ {G : HL} {v o n}, takeN (v.drop o) n = some [AV.ptr ⟨false, p, 0⟩] → v = [AV.ptr ⟨false, p, 0⟩] → Ld B ((p3, .row [.fn (.func 83) [] [], .fn (.func 84) [] []]) :: (p2, .row [.ptr ⟨false, p, 0⟩]) :: G) ⟨false, p2, o⟩ n [AV.ptr ⟨false, p, 0⟩] := fun e1 e2 => by subst e2; exact Ld.cons (Ld.own Tk.head e1)
 have l3 : ∀ {G : HL} {o n x}, takeN ([.fn (.func 83) [] [], .fn (.func 84) [] []].drop o) n = some x → Ld B ((p3, .row [.fn (.func 83) [] [], .fn (.func 84) [] []]) :: (p2, .row [.ptr ⟨false, p, 0⟩]) :: G) ⟨false, p3, o⟩ n x := fun e1 => Ld.own Tk.head e1
 repeat' (first
  | apply WOps.nil | apply WC.seq | apply WC.reg | apply WC.block | (apply WOps.ldG; rfl; rfl; (first | exact ld0 rfl | exact ld1 rfl | exact ld2 rfl); rfl) | (apply WOps.clA; rfl; rfl; exact numT b0 en; rintro _ H1 ⟨rfl, h1⟩) | (apply WOps.purG; rfl; (intro _; rfl)))
 refine WC.loop ?_
 obtain ⟨i, hi⟩ : ∃ i : Nat, i = 0 := ⟨0, rfl⟩
 obtain ⟨acc, hacc⟩ : ∃ l : List (List Fd), l = [] := ⟨_, rfl⟩
 obtain ⟨v, hv⟩ : ∃ v : AV, v = .nilsl := ⟨_, rfl⟩
 obtain ⟨hh, hhh⟩ : ∃ l : HL, l = [] := ⟨_, rfl⟩
 obtain ⟨G, hG⟩ : ∃ l : HL, l = [] := ⟨_, rfl⟩
 refine WL.le (t' := [(2, .ptr ⟨false, p2, 0⟩), (3, .ptr ⟨false, p3, 0⟩), (5, .int .u64 (.ofNat n)), (6, v), (7, .int .u64 (.ofNat i))]) (by subst hi hv; exact Sub1.cons rfl (Sub1.cons rfl (Sub1.cons rfl (Sub1.cons rfl (Sub1.cons rfl Sub1.nil))))) ?_
 have o : OwnSl v (acc.map rowC).flatten (acc.map rowC).length 4 hh := by subst hv hacc hhh; exact rowC_nil
 have ok : ∀ r, r ∈ acc → shL r ∧ (∀ f, f ∈ r → f.wf) ∧ ∀ f, f ∈ r → f.at B G := by subst hacc; intro r hr; cases hr
 have h2 : RdAt B true H1 p s1 Y (hh ++ (G ++ ((p3, .row [.fn (.func 83) [] [], .fn (.func 84) [] []]) :: (p2, .row [.ptr ⟨false, p, 0⟩]) :: R))) := by subst hhh hG; exact h1
 have ht : (acc.map stripR ++ (loopS (rdR kL) (n - i) s1).1, (loopS (rdR kL) (n - i) s1).2) = (l, s') := by subst hi hacc; rw [← e]; simp
 have hal : acc.length ≤ i := by subst hacc; simp
 have hle : i ≤ n := by omega
 have h64 := hn.1
 clear hi hacc hv hhh hG h1 hn en e
 induction hk : n - i using Nat.strongRecOn generalizing i acc v hh G H1 s1 with | _ k ih => ?_
 apply WL.step
 by_cases hlt : i < n
 ·by_cases hs : s1.2 = 0
  ·obtain ⟨r, s2, er⟩ : ∃ r s2, rdR kL s1 = (r, s2) := ⟨_, _, rfl⟩
   have ht2 := tot_step (x := r) (l := (loopS (rdR kL) (n - (i + 1)) s2).1) (s := (loopS (rdR kL) (n - (i + 1)) s2).2) ht (by rw [show n - i = (n - (i + 1)) + 1 by omega, loopS_s hs, er])
   have w1 := read84_ok h2 er
   repeat' (first
    | apply WOps.nil | apply WC.seq | apply WC.reg | apply WC.skip | (apply WC.condT; rfl) | apply WC.block | (apply WOps.cT; rfl; rfl; rfl; rfl; focus (simp only [cmpP, Int.ofNat_eq_natCast, List.length_cons, List.length_map, List.length_nil, Classical.not_not, not_true_eq_false, not_false_eq_true]; first | done | omega | decide)) | (apply WOps.ldG; rfl; rfl; exact h2.ld (Ld.right (Ld.right (l2 rfl rfl))); rfl) | (apply WOps.ldG; rfl; rfl; exact h2.ld (Ld.right (Ld.right (l3 rfl))); rfl) | (apply WOps.clR; rfl; rfl; exact wrong89_ok h2; intro _ hv; subst hv) | (apply WOps.cvA; rfl; rfl; rfl; exact w1; rintro _ H2 ⟨r', X, rfl, rfl, a1, a2, a3, g2⟩; have a4 := shL_len a1; have a5 := shL_cell a1 a3) | (apply WOps.bsl; exact fill_all rfl rfl a4.1; exact a5; intro _) | (apply WOps.purG; rfl; (intro _; rfl)))
   rename_i q
   have g3 := g2.permR (R' := hh ++ ((G ++ X) ++ ((p3, .row [.fn (.func 83) [] [], .fn (.func 84) [] []]) :: (p2, .row [.ptr ⟨false, p, 0⟩]) :: R))) (permF (by intro f; simp only [AV.cells, pm] <;> omega))
   obtain ⟨Z, pz, fz⟩ := g3.split
   refine WOps.app (h := hh) (R := (q, .row (rowC r')) :: Z) (n := (acc.map rowC).length) (m := 1) (xs := rowC r') rfl rfl rfl o ((pz.cons _).trans (permF (by intro f; simp only [AV.cells, pm] <;> omega))) (.inr ⟨_, rfl, .inr (Ld.own Tk.head (take_all (by rw [a4.1])))⟩) (ac_flat fun x hx => shL_cell (ok x hx).1 (ok x hx).2.2) a5 (by rw [a4.1]) (by rw [List.length_map]; omega) ?_
   intro v2 h4 o2
   have o3 : OwnSl v2 ((acc ++ [r']).map rowC).flatten ((acc ++ [r']).map rowC).length 4 h4 := own_snoc o2
   repeat' (first
    | apply WOps.nil | apply WC.reg | (apply WOps.addU; rfl; rfl; rfl; omega) | (apply WOps.purG; rfl; (intro _; rfl)))
   refine WL.le (Sub1.cons rfl (Sub1.cons rfl (Sub1.cons rfl (Sub1.cons rfl (Sub1.cons rfl Sub1.nil))))) (WL.lessP (H1 := h4 ++ Z) (subF (by intro f; simp only [AV.cells, pm] <;> omega)) (ih _ (by omega) _ _ (i + 1) _ v2 h4 (G ++ X) o3 (ok_snoc ok a1 a2 a3) (fz h4) (by rw [List.map_append]; exact ht2) (by rw [List.length_append, List.length_singleton]; omega) (by omega) rfl))
  ·have ht2 := tot_end (l := acc.map stripR) ht (loopS_e hs)
   obtain ⟨rfl, rfl⟩ := Prod.mk.inj ht2
   repeat' (first
    | apply WOps.nil | apply WC.seq | apply WC.reg | apply WC.ret | apply WC.exit | (apply WC.condF; rfl) | (apply WOps.cT; rfl; rfl; rfl; rfl; focus (simp only [cmpP, Int.ofNat_eq_natCast, List.length_cons, List.length_map, List.length_nil, Classical.not_not, not_true_eq_false, not_false_eq_true]; first | done | omega | decide)) | (apply WOps.cF; rfl; rfl; rfl; rfl; focus (simp only [cmpP, Int.ofNat_eq_natCast, List.length_cons, List.length_map, List.length_nil, Classical.not_not, not_true_eq_false, not_false_eq_true]; first | done | omega | decide)) | (apply WOps.ldG; rfl; rfl; exact h2.ld (Ld.right (Ld.right (l2 rfl rfl))); rfl) | (apply WOps.clR; rfl; rfl; exact wrong89_ok h2; intro _ hv; subst hv) | (apply WOps.purG; rfl; (intro _; rfl)))
   obtain ⟨H5, b5, s5⟩ := h2.less (R1 := (hh ++ G) ++ R) (subF (by intro f; simp only [AV.cells, pm] <;> omega))
   exact ⟨trivial, [_], ⟨_, _, rfl, rfl, rfl⟩, H5, ⟨acc, hh ++ G, got (by omega) (fun r h => (shL_len h).1) ok o, rfl, b5⟩, s5⟩
 ·have ht2 := tot_end (l := acc.map stripR) ht (by rw [show n - i = 0 by omega]; exact loopS_0)
  obtain ⟨rfl, rfl⟩ := Prod.mk.inj ht2
  repeat' (first
   | apply WOps.nil | apply WC.seq | apply WC.reg | apply WC.ret | apply WC.exit | (apply WC.condF; rfl) | (apply WOps.cF; rfl; rfl; rfl; rfl; focus (simp only [cmpP, Int.ofNat_eq_natCast, List.length_cons, List.length_map, List.length_nil, Classical.not_not, not_true_eq_false, not_false_eq_true]; first | done | omega | decide)) | (apply WOps.purG; rfl; (intro _; rfl)) | (apply WOps.skp; rfl))
  obtain ⟨H5, b5, s5⟩ := h2.less (R1 := (hh ++ G) ++ R) (subF (by intro f; simp only [AV.cells, pm] <;> omega))
  exact ⟨trivial, [_], ⟨_, _, rfl, rfl, rfl⟩, H5, ⟨acc, hh ++ G, got (by omega) (fun r h => (shL_len h).1) ok o, rfl, b5⟩, s5⟩
set_option maxHeartbeats 2000000 in
theorem get48_ok {H Y R : HL} {p : Nat} {s s' : St} {l : List (List Fd)} (h : RdAt B true H p s Y R) (e : rowsS kQ s = (l, s')) :
  WF B tab (.func 48) [.agg [.ptr ⟨false, p, 0⟩], .agg [.fn (.func 85) [] [], .fn (.func 86) [] []]] H fun v H' => ∃ l' X, LAt B X v 3 shQ l' ∧ l'.map stripR = l ∧ RdAt B true H' p s' Y (X ++ R) := by
 refine WF.lessP ?_
 refine WF.fn g48 rfl ?_
 obtain ⟨n, s1, en⟩ : ∃ n s1, numS 64 s = (n, s1) := ⟨_, _, rfl⟩
 have hn := num_le h en
 rw [rowsS, en] at e
 dsimp only at e
 refine WC.seq (WC.reg ?_)
 repeat' (first
  | apply WOps.nil | (apply WOps.bx; rfl; rfl; (· repeat' (first | rfl | assumption | apply ac1)); intro _) | (apply WOps.purG; rfl; (intro _; rfl)))
 rename_i p2 p3
 have b0 := (h.cons (x := (p2, .row [.ptr ⟨false, p, 0⟩]))).cons (x := (p3, .row [.fn (.func 85) [] [], .fn (.func 86) [] []]))
 have l2 : ∀ {G : HL} {v o n}, takeN (v.drop o) n = some [AV.ptr ⟨false, p, 0⟩] → v = [AV.ptr ⟨false, p, 0⟩] → Ld B ((p3, .row [.fn (.func 85) [] [], .fn (.func 86) [] []]) :: (p2, .row [.ptr ⟨false, p, 0⟩]) :: G) ⟨false, p2, o⟩ n [AV.ptr ⟨false, p, 0⟩] := fun e1 e2 => by subst e2; exact Ld.cons (Ld.own Tk.head e1)
 have l3 : ∀ {G : HL} {o n x}, takeN ([.fn (.func 85) [] [], .fn (.func 86) [] []].drop o) n = some x → Ld B ((p3, .row [.fn (.func 85) [] [], .fn (.func 86) [] []]) :: (p2, .row [.ptr ⟨false, p, 0⟩]) :: G) ⟨false, p3, o⟩ n x := fun e1 => Ld.own Tk.head e1
 repeat' (first
  | apply WOps.nil | apply WC.seq | apply WC.reg | apply WC.block | (apply WOps.ldG; rfl; rfl; (first | exact ld0 rfl | exact ld1 rfl | exact ld2 rfl); rfl) | (apply WOps.clA; rfl; rfl; exact numT b0 en; rintro _ H1 ⟨rfl, h1⟩) | (apply WOps.purG; rfl; (intro _; rfl)))
 refine WC.loop ?_
 obtain ⟨i, hi⟩ : ∃ i : Nat, i = 0 := ⟨0, rfl⟩
 obtain ⟨acc, hacc⟩ : ∃ l : List (List Fd), l = [] := ⟨_, rfl⟩
 obtain ⟨v, hv⟩ : ∃ v : AV, v = .nilsl := ⟨_, rfl⟩
 obtain ⟨hh, hhh⟩ : ∃ l : HL, l = [] := ⟨_, rfl⟩
 obtain ⟨G, hG⟩ : ∃ l : HL, l = [] := ⟨_, rfl⟩
 refine WL.le (t' := [(2, .ptr ⟨false, p2, 0⟩), (3, .ptr ⟨false, p3, 0⟩), (5, .int .u64 (.ofNat n)), (6, v), (7, .int .u64 (.ofNat i))]) (by subst hi hv; exact Sub1.cons rfl (Sub1.cons rfl (Sub1.cons rfl (Sub1.cons rfl (Sub1.cons rfl Sub1.nil))))) ?_
 have o : OwnSl v (acc.map rowC).flatten (acc.map rowC).length 3 hh := by subst hv hacc hhh; exact rowC_nil
 have ok : ∀ r, r ∈ acc → shQ r ∧ (∀ f, f ∈ r → f.wf) ∧ ∀ f, f ∈ r → f.at B G := by subst hacc; intro r hr; cases hr
 have h2 : RdAt B true H1 p s1 Y (hh ++ (G ++ ((p3, .row [.fn (.func 85) [] [], .fn (.func 86) [] []]) :: (p2, .row [.ptr ⟨false, p, 0⟩]) :: R))) := by subst hhh hG; exact h1
 have ht : (acc.map stripR ++ (loopS (rdR kQ) (n - i) s1).1, (loopS (rdR kQ) (n - i) s1).2) = (l, s') := by subst hi hacc; rw [← e]; simp
 have hal : acc.length ≤ i := by subst hacc; simp
 have hle : i ≤ n := by omega
 have h64 := hn.1
 clear hi hacc hv hhh hG h1 hn en e
 induction hk : n - i using Nat.strongRecOn generalizing i acc v hh G H1 s1 with | _ k ih => ?_
 apply WL.step
 by_cases hlt : i < n
 ·by_cases hs : s1.2 = 0
  ·obtain ⟨r, s2, er⟩ : ∃ r s2, rdR kQ s1 = (r, s2) := ⟨_, _, rfl⟩
   have ht2 := tot_step (x := r) (l := (loopS (rdR kQ) (n - (i + 1)) s2).1) (s := (loopS (rdR kQ) (n - (i + 1)) s2).2) ht (by rw [show n - i = (n - (i + 1)) + 1 by omega, loopS_s hs, er])
   have w1 := read86_ok h2 er
   repeat' (first
    | apply WOps.nil | apply WC.seq | apply WC.reg | apply WC.skip | (apply WC.condT; rfl) | apply WC.block | (apply WOps.cT; rfl; rfl; rfl; rfl; focus (simp only [cmpP, Int.ofNat_eq_natCast, List.length_cons, List.length_map, List.length_nil, Classical.not_not, not_true_eq_false, not_false_eq_true]; first | done | omega | decide)) | (apply WOps.ldG; rfl; rfl; exact h2.ld (Ld.right (Ld.right (l2 rfl rfl))); rfl) | (apply WOps.ldG; rfl; rfl; exact h2.ld (Ld.right (Ld.right (l3 rfl))); rfl) | (apply WOps.clR; rfl; rfl; exact wrong89_ok h2; intro _ hv; subst hv) | (apply WOps.cvA; rfl; rfl; rfl; exact w1; rintro _ H2 ⟨r', X, rfl, rfl, a1, a2, a3, g2⟩; have a4 := shQ_len a1; have a5 := shQ_cell a1 a3) | (apply WOps.bsl; exact fill_all rfl rfl a4.1; exact a5; intro _) | (apply WOps.purG; rfl; (intro _; rfl)))
   rename_i q
   have g3 := g2.permR (R' := hh ++ ((G ++ X) ++ ((p3, .row [.fn (.func 85) [] [], .fn (.func 86) [] []]) :: (p2, .row [.ptr ⟨false, p, 0⟩]) :: R))) (permF (by intro f; simp only [AV.cells, pm] <;> omega))
   obtain ⟨Z, pz, fz⟩ := g3.split
   refine WOps.app (h := hh) (R := (q, .row (rowC r')) :: Z) (n := (acc.map rowC).length) (m := 1) (xs := rowC r') rfl rfl rfl o ((pz.cons _).trans (permF (by intro f; simp only [AV.cells, pm] <;> omega))) (.inr ⟨_, rfl, .inr (Ld.own Tk.head (take_all (by rw [a4.1])))⟩) (ac_flat fun x hx => shQ_cell (ok x hx).1 (ok x hx).2.2) a5 (by rw [a4.1]) (by rw [List.length_map]; omega) ?_
   intro v2 h4 o2
   have o3 : OwnSl v2 ((acc ++ [r']).map rowC).flatten ((acc ++ [r']).map rowC).length 3 h4 := own_snoc o2
   repeat' (first
    | apply WOps.nil | apply WC.reg | (apply WOps.addU; rfl; rfl; rfl; omega) | (apply WOps.purG; rfl; (intro _; rfl)))
   refine WL.le (Sub1.cons rfl (Sub1.cons rfl (Sub1.cons rfl (Sub1.cons rfl (Sub1.cons rfl Sub1.nil))))) (WL.lessP (H1 := h4 ++ Z) (subF (by intro f; simp only [AV.cells, pm] <;> omega)) (ih _ (by omega) _ _ (i + 1) _ v2 h4 (G ++ X) o3 (ok_snoc ok a1 a2 a3) (fz h4) (by rw [List.map_append]; exact ht2) (by rw [List.length_append, List.length_singleton]; omega) (by omega) rfl))
  ·have ht2 := tot_end (l := acc.map stripR) ht (loopS_e hs)
   obtain ⟨rfl, rfl⟩ := Prod.mk.inj ht2
   repeat' (first
    | apply WOps.nil | apply WC.seq | apply WC.reg | apply WC.ret | apply WC.exit | (apply WC.condF; rfl) | (apply WOps.cT; rfl; rfl; rfl; rfl; focus (simp only [cmpP, Int.ofNat_eq_natCast, List.length_cons, List.length_map, List.length_nil, Classical.not_not, not_true_eq_false, not_false_eq_true]; first | done | omega | decide)) | (apply WOps.cF; rfl; rfl; rfl; rfl; focus (simp only [cmpP, Int.ofNat_eq_natCast, List.length_cons, List.length_map, List.length_nil, Classical.not_not, not_true_eq_false, not_false_eq_true]; first | done | omega | decide)) | (apply WOps.ldG; rfl; rfl; exact h2.ld (Ld.right (Ld.right (l2 rfl rfl))); rfl) | (apply WOps.clR; rfl; rfl; exact wrong89_ok h2; intro _ hv; subst hv) | (apply WOps.purG; rfl; (intro _; rfl)))
   obtain ⟨H5, b5, s5⟩ := h2.less (R1 := (hh ++ G) ++ R) (subF (by intro f; simp only [AV.cells, pm] <;> omega))
   exact ⟨trivial, [_], ⟨_, _, rfl, rfl, rfl⟩, H5, ⟨acc, hh ++ G, got (by omega) (fun r h => (shQ_len h).1) ok o, rfl, b5⟩, s5⟩
 ·have ht2 := tot_end (l := acc.map stripR) ht (by rw [show n - i = 0 by omega]; exact loopS_0)
  obtain ⟨rfl, rfl⟩ := Prod.mk.inj ht2
  repeat' (first
   | apply WOps.nil | apply WC.seq | apply WC.reg | apply WC.ret | apply WC.exit | (apply WC.condF; rfl) | (apply WOps.cF; rfl; rfl; rfl; rfl; focus (simp only [cmpP, Int.ofNat_eq_natCast, List.length_cons, List.length_map, List.length_nil, Classical.not_not, not_true_eq_false, not_false_eq_true]; first | done | omega | decide)) | (apply WOps.purG; rfl; (intro _; rfl)) | (apply WOps.skp; rfl))
  obtain ⟨H5, b5, s5⟩ := h2.less (R1 := (hh ++ G) ++ R) (subF (by intro f; simp only [AV.cells, pm] <;> omega))
  exact ⟨trivial, [_], ⟨_, _, rfl, rfl, rfl⟩, H5, ⟨acc, hh ++ G, got (by omega) (fun r h => (shQ_len h).1) ok o, rfl, b5⟩, s5⟩
end Go.Proofs.Ytdcbglljljfleaa.DU
