/- What the functions do, shown by the logic. -/
import Derived.Test.YtdcbglljljfleaaDuA
set_option linter.unusedSimpArgs false
set_option linter.unusedVariables false
set_option maxRecDepth 20000
namespace Go.Proofs.Ytdcbglljljfleaa.DU
open Go.Proofs.Ytdcbglljljfleaa.Abs
variable {B : Nat → List AV}
/-- Rows of this kind. -/
def shN (r : List Fd) : Prop := ∃ (a : Int) (b : List Nat) (c : Nat) (d : Nat), r = [.int a 255, .txt b, .num c, .num d]
set_option maxHeartbeats 2000000 in
theorem lay63_ok {H R : HL} {wp : Nat} {us : List Nat} {r : List Fd} (sh : shN r) (ok : rowOk r) (at_ : ∀ f, f ∈ r → f.at B R) (h : WrAt H wp us R) (hl : us.length ≤ 100000000) :
    WF B tab (.func 63) ([] ++ ([.ptr ⟨false, wp, 0⟩, .agg (rowC r)] ++ [])) H fun _ H' => WrAt H' wp (us ++ rowB r) R := by
  obtain ⟨a, b, c, d, rfl⟩ := sh
  obtain ⟨wa, ra⟩ := ok _ (List.Mem.head _)
  obtain ⟨na, ea⟩ : ∃ n : Nat, a = .ofNat n := ⟨a.toNat, by simp only [Fd.right] at ra; simp only [Int.ofNat_eq_natCast]; omega⟩
  subst ea
  have la : na < 65536 := by simp only [Fd.right, Fd.wf, Int.ofNat_eq_natCast] at ra wa; omega
  obtain ⟨wb, rb⟩ := ok _ (.tail _ (List.Mem.head _))
  obtain ⟨wc, rc⟩ := ok _ (.tail _ (.tail _ (List.Mem.head _)))
  obtain ⟨wd, rd⟩ := ok _ (.tail _ (.tail _ (.tail _ (List.Mem.head _))))
  have qa := numB_len (n := na) (by omega)
  have qb := textB_len (s := b) rb
  have qc := numB_len (n := c) (by simp only [Fd.wf] at *; omega)
  have qd := numB_len (n := d) (by simp only [Fd.wf] at *; omega)
  refine WF.lessP ?_
  refine WF.fn g63 rfl ?_
  refine WC.seq (WC.reg ?_)
  repeat' (first
    | apply WOps.nil | (apply WOps.bx; rfl; rfl; (· repeat' (first | rfl | assumption | apply ac1)); intro _))
  rename_i p3
  have b0 := h.cons (x := (p3, .row (rowC [.int (.ofNat na) 255, .txt b, .num c, .num d])))
  have lp : ∀ {G : HL} {n o l}, takeN ((rowC [.int (.ofNat na) 255, .txt b, .num c, .num d]).drop o) n = some l → Ld B ((p3, .row (rowC [.int (.ofNat na) 255, .txt b, .num c, .num d])) :: R) ⟨false, p3, o⟩ n l := fun e => Ld.own Tk.head e
  repeat' (first
    | apply WOps.nil | apply WC.seq | apply WC.reg | (apply WOps.ldG; rfl; rfl; (first | exact ld0 rfl | exact ld1 rfl | exact ld2 rfl); rfl) | (apply WOps.ldG; rfl; rfl; exact (by first | exact b0.ld (Ld.own Tk.head rfl) | exact b1.ld (Ld.own Tk.head rfl) | exact b2.ld (Ld.own Tk.head rfl) | exact b3.ld (Ld.own Tk.head rfl)); rfl) | (apply WOps.clA; rfl; rfl; exact int62_ok b0 (n := na) (by omega) (by first | omega | (simp only [List.length_append]; omega)); intro _ H1 b1) | (apply WOps.clA; rfl; rfl; exact text64_ok b1 rb (by first | omega | (simp only [List.length_append]; omega)); intro _ H2 b2) | (apply WOps.clA; rfl; rfl; exact ends65_ok b2 wc wd (by first | omega | (simp only [List.length_append]; omega)); intro _ H3 b3) | (apply WOps.purG; rfl; (intro _; rfl)))
  obtain ⟨H9, b9, s9⟩ := b3.less (R1 := R) (subF (by intro f; simp only [AV.cells, List.append_eq, List.map_cons, List.map_nil, List.sum_nil, List.map_append, List.sum_cons, List.sum_append, List.cons_append, List.nil_append, List.append_assoc, List.append_nil]; omega))
  exact ⟨trivial, [], rfl, H9, b9.heq (by simp [rowB, Fd.bytes]), s9⟩
/-- Rows of this kind. -/
def shS (r : List Fd) : Prop := ∃ (a : Int) (b : List Nat) (c : List Nat) (vd : AV) (d : List (List Nat)) (e : Int) (f : Nat) (g : Nat), r = [.int a 255, .txt b, .txt c, .txs vd d, .int e 65535, .num f, .num g]
set_option maxHeartbeats 2000000 in
theorem lay70_ok {H R : HL} {wp : Nat} {us : List Nat} {r : List Fd} (sh : shS r) (ok : rowOk r) (at_ : ∀ f, f ∈ r → f.at B R) (h : WrAt H wp us R) (hl : us.length ≤ 100000000) :
    WF B tab (.func 70) ([] ++ ([.ptr ⟨false, wp, 0⟩, .agg (rowC r)] ++ [])) H fun _ H' => WrAt H' wp (us ++ rowB r) R := by
  obtain ⟨a, b, c, vd, d, e, f, g, rfl⟩ := sh
  obtain ⟨wa, ra⟩ := ok _ (List.Mem.head _)
  obtain ⟨na, ea⟩ : ∃ n : Nat, a = .ofNat n := ⟨a.toNat, by simp only [Fd.right] at ra; simp only [Int.ofNat_eq_natCast]; omega⟩
  subst ea
  have la : na < 65536 := by simp only [Fd.right, Fd.wf, Int.ofNat_eq_natCast] at ra wa; omega
  obtain ⟨wb, rb⟩ := ok _ (.tail _ (List.Mem.head _))
  obtain ⟨wc, rc⟩ := ok _ (.tail _ (.tail _ (List.Mem.head _)))
  obtain ⟨wd, rd⟩ := ok _ (.tail _ (.tail _ (.tail _ (List.Mem.head _))))
  obtain ⟨we, re⟩ := ok _ (.tail _ (.tail _ (.tail _ (.tail _ (List.Mem.head _)))))
  obtain ⟨ne, ee⟩ : ∃ n : Nat, e = .ofNat n := ⟨e.toNat, by simp only [Fd.right] at re; simp only [Int.ofNat_eq_natCast]; omega⟩
  subst ee
  have le : ne < 65536 := by simp only [Fd.right, Fd.wf, Int.ofNat_eq_natCast] at re we; omega
  obtain ⟨wf, rf⟩ := ok _ (.tail _ (.tail _ (.tail _ (.tail _ (.tail _ (List.Mem.head _))))))
  obtain ⟨wg, rg⟩ := ok _ (.tail _ (.tail _ (.tail _ (.tail _ (.tail _ (.tail _ (List.Mem.head _)))))))
  have qa := numB_len (n := na) (by omega)
  have qb := textB_len (s := b) rb
  have qc := textB_len (s := c) rc
  have qd : (textsB d).length ≤ 721 := bytes_len (f := .txs vd d) wd rd
  have qe := numB_len (n := ne) (by omega)
  have qf := numB_len (n := f) (by simp only [Fd.wf] at *; omega)
  have qg := numB_len (n := g) (by simp only [Fd.wf] at *; omega)
  have tg : SlIs B R vd 1 (d.map strC) := at_ _ (.tail _ (.tail _ (.tail _ (List.Mem.head _))))
  have ct := tg.cell
  refine WF.lessP ?_
  refine WF.fn g70 rfl ?_
  refine WC.seq (WC.reg ?_)
  repeat' (first
    | apply WOps.nil | (apply WOps.bx; rfl; rfl; (· repeat' (first | rfl | assumption | apply ac1)); intro _))
  rename_i p3
  have b0 := h.cons (x := (p3, .row (rowC [.int (.ofNat na) 255, .txt b, .txt c, .txs vd d, .int (.ofNat ne) 65535, .num f, .num g])))
  have lp : ∀ {G : HL} {n o l}, takeN ((rowC [.int (.ofNat na) 255, .txt b, .txt c, .txs vd d, .int (.ofNat ne) 65535, .num f, .num g]).drop o) n = some l → Ld B ((p3, .row (rowC [.int (.ofNat na) 255, .txt b, .txt c, .txs vd d, .int (.ofNat ne) 65535, .num f, .num g])) :: R) ⟨false, p3, o⟩ n l := fun e => Ld.own Tk.head e
  repeat' (first
    | apply WOps.nil | apply WC.seq | apply WC.reg | (apply WOps.ldG; rfl; rfl; (first | exact ld0 rfl | exact ld1 rfl | exact ld2 rfl); rfl) | (apply WOps.ldG; rfl; rfl; exact (by first | exact b0.ld (Ld.own Tk.head rfl) | exact b1.ld (Ld.own Tk.head rfl) | exact b2.ld (Ld.own Tk.head rfl) | exact b3.ld (Ld.own Tk.head rfl) | exact b4.ld (Ld.own Tk.head rfl) | exact b5.ld (Ld.own Tk.head rfl) | exact b6.ld (Ld.own Tk.head rfl)); rfl) | (apply WOps.clA; rfl; rfl; exact int62_ok b0 (n := na) (by omega) (by first | omega | (simp only [List.length_append]; omega)); intro _ H1 b1) | (apply WOps.clA; rfl; rfl; exact text64_ok b1 rb (by first | omega | (simp only [List.length_append]; omega)); intro _ H2 b2) | (apply WOps.clA; rfl; rfl; exact text64_ok b2 rc (by first | omega | (simp only [List.length_append]; omega)); intro _ H3 b3) | (apply WOps.clA; rfl; rfl; exact texts71_ok b3 (b3.sl (SlIs.cons tg)) rd.1 rd.2 (by first | omega | (simp only [List.length_append]; omega)); intro _ H4 b4) | (apply WOps.clA; rfl; rfl; exact int62_ok b4 (n := ne) (by omega) (by first | omega | (simp only [List.length_append]; omega)); intro _ H5 b5) | (apply WOps.clA; rfl; rfl; exact ends65_ok b5 wf wg (by first | omega | (simp only [List.length_append]; omega)); intro _ H6 b6) | (apply WOps.purG; rfl; (intro _; rfl)))
  obtain ⟨H9, b9, s9⟩ := b6.less (R1 := R) (subF (by intro f; simp only [AV.cells, List.append_eq, List.map_cons, List.map_nil, List.sum_nil, List.map_append, List.sum_cons, List.sum_append, List.cons_append, List.nil_append, List.append_assoc, List.append_nil]; omega))
  exact ⟨trivial, [], rfl, H9, b9.heq (by simp [rowB, Fd.bytes]), s9⟩
/-- Rows of this kind. -/
def shC (r : List Fd) : Prop := ∃ (a : Int) (b : List Nat) (c : List Nat) (d : List Nat) (e : Int) (f : Nat) (g : Nat), r = [.int a 255, .txt b, .txt c, .txt d, .int e 255, .num f, .num g]
set_option maxHeartbeats 2000000 in
theorem lay75_ok {H R : HL} {wp : Nat} {us : List Nat} {r : List Fd} (sh : shC r) (ok : rowOk r) (at_ : ∀ f, f ∈ r → f.at B R) (h : WrAt H wp us R) (hl : us.length ≤ 100000000) :
    WF B tab (.func 75) ([] ++ ([.ptr ⟨false, wp, 0⟩, .agg (rowC r)] ++ [])) H fun _ H' => WrAt H' wp (us ++ rowB r) R := by
  obtain ⟨a, b, c, d, e, f, g, rfl⟩ := sh
  obtain ⟨wa, ra⟩ := ok _ (List.Mem.head _)
  obtain ⟨na, ea⟩ : ∃ n : Nat, a = .ofNat n := ⟨a.toNat, by simp only [Fd.right] at ra; simp only [Int.ofNat_eq_natCast]; omega⟩
  subst ea
  have la : na < 65536 := by simp only [Fd.right, Fd.wf, Int.ofNat_eq_natCast] at ra wa; omega
  obtain ⟨wb, rb⟩ := ok _ (.tail _ (List.Mem.head _))
  obtain ⟨wc, rc⟩ := ok _ (.tail _ (.tail _ (List.Mem.head _)))
  obtain ⟨wd, rd⟩ := ok _ (.tail _ (.tail _ (.tail _ (List.Mem.head _))))
  obtain ⟨we, re⟩ := ok _ (.tail _ (.tail _ (.tail _ (.tail _ (List.Mem.head _)))))
  obtain ⟨ne, ee⟩ : ∃ n : Nat, e = .ofNat n := ⟨e.toNat, by simp only [Fd.right] at re; simp only [Int.ofNat_eq_natCast]; omega⟩
  subst ee
  have le : ne < 65536 := by simp only [Fd.right, Fd.wf, Int.ofNat_eq_natCast] at re we; omega
  obtain ⟨wf, rf⟩ := ok _ (.tail _ (.tail _ (.tail _ (.tail _ (.tail _ (List.Mem.head _))))))
  obtain ⟨wg, rg⟩ := ok _ (.tail _ (.tail _ (.tail _ (.tail _ (.tail _ (.tail _ (List.Mem.head _)))))))
  have qa := numB_len (n := na) (by omega)
  have qb := textB_len (s := b) rb
  have qc := textB_len (s := c) rc
  have qd := textB_len (s := d) rd
  have qe := numB_len (n := ne) (by omega)
  have qf := numB_len (n := f) (by simp only [Fd.wf] at *; omega)
  have qg := numB_len (n := g) (by simp only [Fd.wf] at *; omega)
  refine WF.lessP ?_
  refine WF.fn g75 rfl ?_
  refine WC.seq (WC.reg ?_)
  repeat' (first
    | apply WOps.nil | (apply WOps.bx; rfl; rfl; (· repeat' (first | rfl | assumption | apply ac1)); intro _))
  rename_i p3
  have b0 := h.cons (x := (p3, .row (rowC [.int (.ofNat na) 255, .txt b, .txt c, .txt d, .int (.ofNat ne) 255, .num f, .num g])))
  have lp : ∀ {G : HL} {n o l}, takeN ((rowC [.int (.ofNat na) 255, .txt b, .txt c, .txt d, .int (.ofNat ne) 255, .num f, .num g]).drop o) n = some l → Ld B ((p3, .row (rowC [.int (.ofNat na) 255, .txt b, .txt c, .txt d, .int (.ofNat ne) 255, .num f, .num g])) :: R) ⟨false, p3, o⟩ n l := fun e => Ld.own Tk.head e
  repeat' (first
    | apply WOps.nil | apply WC.seq | apply WC.reg | (apply WOps.ldG; rfl; rfl; (first | exact ld0 rfl | exact ld1 rfl | exact ld2 rfl); rfl) | (apply WOps.ldG; rfl; rfl; exact (by first | exact b0.ld (Ld.own Tk.head rfl) | exact b1.ld (Ld.own Tk.head rfl) | exact b2.ld (Ld.own Tk.head rfl) | exact b3.ld (Ld.own Tk.head rfl) | exact b4.ld (Ld.own Tk.head rfl) | exact b5.ld (Ld.own Tk.head rfl) | exact b6.ld (Ld.own Tk.head rfl)); rfl) | (apply WOps.clA; rfl; rfl; exact int62_ok b0 (n := na) (by omega) (by first | omega | (simp only [List.length_append]; omega)); intro _ H1 b1) | (apply WOps.clA; rfl; rfl; exact text64_ok b1 rb (by first | omega | (simp only [List.length_append]; omega)); intro _ H2 b2) | (apply WOps.clA; rfl; rfl; exact text64_ok b2 rc (by first | omega | (simp only [List.length_append]; omega)); intro _ H3 b3) | (apply WOps.clA; rfl; rfl; exact text64_ok b3 rd (by first | omega | (simp only [List.length_append]; omega)); intro _ H4 b4) | (apply WOps.clA; rfl; rfl; exact int62_ok b4 (n := ne) (by omega) (by first | omega | (simp only [List.length_append]; omega)); intro _ H5 b5) | (apply WOps.clA; rfl; rfl; exact ends65_ok b5 wf wg (by first | omega | (simp only [List.length_append]; omega)); intro _ H6 b6) | (apply WOps.purG; rfl; (intro _; rfl)))
  obtain ⟨H9, b9, s9⟩ := b6.less (R1 := R) (subF (by intro f; simp only [AV.cells, List.append_eq, List.map_cons, List.map_nil, List.sum_nil, List.map_append, List.sum_cons, List.sum_append, List.cons_append, List.nil_append, List.append_assoc, List.append_nil]; omega))
  exact ⟨trivial, [], rfl, H9, b9.heq (by simp [rowB, Fd.bytes]), s9⟩
/-- Rows of this kind. -/
def shI (r : List Fd) : Prop := ∃ (a : List Nat) (b : List Nat) (c : Bool) (d : Nat) (e : Nat), r = [.txt a, .txt b, .flg c, .num d, .num e]
set_option maxHeartbeats 2000000 in
theorem lay77_ok {H R : HL} {wp : Nat} {us : List Nat} {r : List Fd} (sh : shI r) (ok : rowOk r) (at_ : ∀ f, f ∈ r → f.at B R) (h : WrAt H wp us R) (hl : us.length ≤ 100000000) :
    WF B tab (.func 77) ([] ++ ([.ptr ⟨false, wp, 0⟩, .agg (rowC r)] ++ [])) H fun _ H' => WrAt H' wp (us ++ rowB r) R := by
  obtain ⟨a, b, c, d, e, rfl⟩ := sh
  obtain ⟨wa, ra⟩ := ok _ (List.Mem.head _)
  obtain ⟨wb, rb⟩ := ok _ (.tail _ (List.Mem.head _))
  obtain ⟨wc, rc⟩ := ok _ (.tail _ (.tail _ (List.Mem.head _)))
  obtain ⟨wd, rd⟩ := ok _ (.tail _ (.tail _ (.tail _ (List.Mem.head _))))
  obtain ⟨we, re⟩ := ok _ (.tail _ (.tail _ (.tail _ (.tail _ (List.Mem.head _)))))
  have qa := textB_len (s := a) ra
  have qb := textB_len (s := b) rb
  have qc : (flagB c).length ≤ 2 := by cases c <;> simp [flagB]
  have qd := numB_len (n := d) (by simp only [Fd.wf] at *; omega)
  have qe := numB_len (n := e) (by simp only [Fd.wf] at *; omega)
  refine WF.lessP ?_
  refine WF.fn g77 rfl ?_
  refine WC.seq (WC.reg ?_)
  repeat' (first
    | apply WOps.nil | (apply WOps.bx; rfl; rfl; (· repeat' (first | rfl | assumption | apply ac1)); intro _))
  rename_i p3
  have b0 := h.cons (x := (p3, .row (rowC [.txt a, .txt b, .flg c, .num d, .num e])))
  have lp : ∀ {G : HL} {n o l}, takeN ((rowC [.txt a, .txt b, .flg c, .num d, .num e]).drop o) n = some l → Ld B ((p3, .row (rowC [.txt a, .txt b, .flg c, .num d, .num e])) :: R) ⟨false, p3, o⟩ n l := fun e => Ld.own Tk.head e
  repeat' (first
    | apply WOps.nil | apply WC.seq | apply WC.reg | (apply WOps.ldG; rfl; rfl; (first | exact ld0 rfl | exact ld1 rfl | exact ld2 rfl); rfl) | (apply WOps.ldG; rfl; rfl; exact (by first | exact b0.ld (Ld.own Tk.head rfl) | exact b1.ld (Ld.own Tk.head rfl) | exact b2.ld (Ld.own Tk.head rfl) | exact b3.ld (Ld.own Tk.head rfl) | exact b4.ld (Ld.own Tk.head rfl)); rfl) | (apply WOps.clA; rfl; rfl; exact text64_ok b0 ra (by first | omega | (simp only [List.length_append]; omega)); intro _ H1 b1) | (apply WOps.clA; rfl; rfl; exact text64_ok b1 rb (by first | omega | (simp only [List.length_append]; omega)); intro _ H2 b2) | (apply WOps.clA; rfl; rfl; exact flag78_ok (b := c) b2 (by first | omega | (simp only [List.length_append]; omega)); intro _ H3 b3) | (apply WOps.clA; rfl; rfl; exact ends65_ok b3 wd we (by first | omega | (simp only [List.length_append]; omega)); intro _ H4 b4) | (apply WOps.purG; rfl; (intro _; rfl)))
  obtain ⟨H9, b9, s9⟩ := b4.less (R1 := R) (subF (by intro f; simp only [AV.cells, List.append_eq, List.map_cons, List.map_nil, List.sum_nil, List.map_append, List.sum_cons, List.sum_append, List.cons_append, List.nil_append, List.append_assoc, List.append_nil]; omega))
  exact ⟨trivial, [], rfl, H9, b9.heq (by simp [rowB, Fd.bytes]), s9⟩
/-- Rows of this kind. -/
def shE (r : List Fd) : Prop := ∃ (a : List Nat) (b : List Nat) (c : Nat) (d : Nat) (e : Nat) (f : Nat), r = [.txt a, .txt b, .num c, .num d, .num e, .num f]
set_option maxHeartbeats 2000000 in
theorem lay81_ok {H R : HL} {wp : Nat} {us : List Nat} {r : List Fd} (sh : shE r) (ok : rowOk r) (at_ : ∀ f, f ∈ r → f.at B R) (h : WrAt H wp us R) (hl : us.length ≤ 100000000) :
    WF B tab (.func 81) ([] ++ ([.ptr ⟨false, wp, 0⟩, .agg (rowC r)] ++ [])) H fun _ H' => WrAt H' wp (us ++ rowB r) R := by
  obtain ⟨a, b, c, d, e, f, rfl⟩ := sh
  obtain ⟨wa, ra⟩ := ok _ (List.Mem.head _)
  obtain ⟨wb, rb⟩ := ok _ (.tail _ (List.Mem.head _))
  obtain ⟨wc, rc⟩ := ok _ (.tail _ (.tail _ (List.Mem.head _)))
  obtain ⟨wd, rd⟩ := ok _ (.tail _ (.tail _ (.tail _ (List.Mem.head _))))
  obtain ⟨we, re⟩ := ok _ (.tail _ (.tail _ (.tail _ (.tail _ (List.Mem.head _)))))
  obtain ⟨wf, rf⟩ := ok _ (.tail _ (.tail _ (.tail _ (.tail _ (.tail _ (List.Mem.head _))))))
  have qa := textB_len (s := a) ra
  have qb := textB_len (s := b) rb
  have qc := numB_len (n := c) (by simp only [Fd.wf] at *; omega)
  have qd := numB_len (n := d) (by simp only [Fd.wf] at *; omega)
  have qe := numB_len (n := e) (by simp only [Fd.wf] at *; omega)
  have qf := numB_len (n := f) (by simp only [Fd.wf] at *; omega)
  refine WF.lessP ?_
  refine WF.fn g81 rfl ?_
  refine WC.seq (WC.reg ?_)
  repeat' (first
    | apply WOps.nil | (apply WOps.bx; rfl; rfl; (· repeat' (first | rfl | assumption | apply ac1)); intro _))
  rename_i p3
  have b0 := h.cons (x := (p3, .row (rowC [.txt a, .txt b, .num c, .num d, .num e, .num f])))
  have lp : ∀ {G : HL} {n o l}, takeN ((rowC [.txt a, .txt b, .num c, .num d, .num e, .num f]).drop o) n = some l → Ld B ((p3, .row (rowC [.txt a, .txt b, .num c, .num d, .num e, .num f])) :: R) ⟨false, p3, o⟩ n l := fun e => Ld.own Tk.head e
  repeat' (first
    | apply WOps.nil | apply WC.seq | apply WC.reg | (apply WOps.ldG; rfl; rfl; (first | exact ld0 rfl | exact ld1 rfl | exact ld2 rfl); rfl) | (apply WOps.ldG; rfl; rfl; exact (by first | exact b0.ld (Ld.own Tk.head rfl) | exact b1.ld (Ld.own Tk.head rfl) | exact b2.ld (Ld.own Tk.head rfl) | exact b3.ld (Ld.own Tk.head rfl) | exact b4.ld (Ld.own Tk.head rfl) | exact b5.ld (Ld.own Tk.head rfl)); rfl) | (apply WOps.clA; rfl; rfl; exact text64_ok b0 ra (by first | omega | (simp only [List.length_append]; omega)); intro _ H1 b1) | (apply WOps.clA; rfl; rfl; exact text64_ok b1 rb (by first | omega | (simp only [List.length_append]; omega)); intro _ H2 b2) | (apply WOps.clA; rfl; rfl; exact num15_ok b2 wc (by first | omega | (simp only [List.length_append]; omega)); intro _ H3 b3) | (apply WOps.clA; rfl; rfl; exact num15_ok b3 wd (by first | omega | (simp only [List.length_append]; omega)); intro _ H4 b4) | (apply WOps.clA; rfl; rfl; exact ends65_ok b4 we wf (by first | omega | (simp only [List.length_append]; omega)); intro _ H5 b5) | (apply WOps.purG; rfl; (intro _; rfl)))
  obtain ⟨H9, b9, s9⟩ := b5.less (R1 := R) (subF (by intro f; simp only [AV.cells, List.append_eq, List.map_cons, List.map_nil, List.sum_nil, List.map_append, List.sum_cons, List.sum_append, List.cons_append, List.nil_append, List.append_assoc, List.append_nil]; omega))
  exact ⟨trivial, [], rfl, H9, b9.heq (by simp [rowB, Fd.bytes]), s9⟩
/-- Rows of this kind. -/
def shL (r : List Fd) : Prop := ∃ (a : Nat) (b : Int) (c : Nat) (d : Nat), r = [.num a, .int b 255, .num c, .num d]
set_option maxHeartbeats 2000000 in
theorem lay83_ok {H R : HL} {wp : Nat} {us : List Nat} {r : List Fd} (sh : shL r) (ok : rowOk r) (at_ : ∀ f, f ∈ r → f.at B R) (h : WrAt H wp us R) (hl : us.length ≤ 100000000) :
    WF B tab (.func 83) ([] ++ ([.ptr ⟨false, wp, 0⟩, .agg (rowC r)] ++ [])) H fun _ H' => WrAt H' wp (us ++ rowB r) R := by
  obtain ⟨a, b, c, d, rfl⟩ := sh
  obtain ⟨wa, ra⟩ := ok _ (List.Mem.head _)
  obtain ⟨wb, rb⟩ := ok _ (.tail _ (List.Mem.head _))
  obtain ⟨nb, eb⟩ : ∃ n : Nat, b = .ofNat n := ⟨b.toNat, by simp only [Fd.right] at rb; simp only [Int.ofNat_eq_natCast]; omega⟩
  subst eb
  have lb : nb < 65536 := by simp only [Fd.right, Fd.wf, Int.ofNat_eq_natCast] at rb wb; omega
  obtain ⟨wc, rc⟩ := ok _ (.tail _ (.tail _ (List.Mem.head _)))
  obtain ⟨wd, rd⟩ := ok _ (.tail _ (.tail _ (.tail _ (List.Mem.head _))))
  have qa := numB_len (n := a) (by simp only [Fd.wf] at *; omega)
  have qb := numB_len (n := nb) (by omega)
  have qc := numB_len (n := c) (by simp only [Fd.wf] at *; omega)
  have qd := numB_len (n := d) (by simp only [Fd.wf] at *; omega)
  refine WF.lessP ?_
  refine WF.fn g83 rfl ?_
  refine WC.seq (WC.reg ?_)
  repeat' (first
    | apply WOps.nil | (apply WOps.bx; rfl; rfl; (· repeat' (first | rfl | assumption | apply ac1)); intro _))
  rename_i p3
  have b0 := h.cons (x := (p3, .row (rowC [.num a, .int (.ofNat nb) 255, .num c, .num d])))
  have lp : ∀ {G : HL} {n o l}, takeN ((rowC [.num a, .int (.ofNat nb) 255, .num c, .num d]).drop o) n = some l → Ld B ((p3, .row (rowC [.num a, .int (.ofNat nb) 255, .num c, .num d])) :: R) ⟨false, p3, o⟩ n l := fun e => Ld.own Tk.head e
  repeat' (first
    | apply WOps.nil | apply WC.seq | apply WC.reg | (apply WOps.ldG; rfl; rfl; (first | exact ld0 rfl | exact ld1 rfl | exact ld2 rfl); rfl) | (apply WOps.ldG; rfl; rfl; exact (by first | exact b0.ld (Ld.own Tk.head rfl) | exact b1.ld (Ld.own Tk.head rfl) | exact b2.ld (Ld.own Tk.head rfl) | exact b3.ld (Ld.own Tk.head rfl)); rfl) | (apply WOps.clA; rfl; rfl; exact num15_ok b0 wa (by first | omega | (simp only [List.length_append]; omega)); intro _ H1 b1) | (apply WOps.clA; rfl; rfl; exact int62_ok b1 (n := nb) (by omega) (by first | omega | (simp only [List.length_append]; omega)); intro _ H2 b2) | (apply WOps.clA; rfl; rfl; exact ends65_ok b2 wc wd (by first | omega | (simp only [List.length_append]; omega)); intro _ H3 b3) | (apply WOps.purG; rfl; (intro _; rfl)))
  obtain ⟨H9, b9, s9⟩ := b3.less (R1 := R) (subF (by intro f; simp only [AV.cells, List.append_eq, List.map_cons, List.map_nil, List.sum_nil, List.map_append, List.sum_cons, List.sum_append, List.cons_append, List.nil_append, List.append_assoc, List.append_nil]; omega))
  exact ⟨trivial, [], rfl, H9, b9.heq (by simp [rowB, Fd.bytes]), s9⟩
/-- Rows of this kind. -/
def shQ (r : List Fd) : Prop := ∃ (a : Int) (b : Nat) (c : Nat), r = [.int a 255, .u32 b, .num c]
set_option maxHeartbeats 2000000 in
theorem lay85_ok {H R : HL} {wp : Nat} {us : List Nat} {r : List Fd} (sh : shQ r) (ok : rowOk r) (at_ : ∀ f, f ∈ r → f.at B R) (h : WrAt H wp us R) (hl : us.length ≤ 100000000) :
    WF B tab (.func 85) ([] ++ ([.ptr ⟨false, wp, 0⟩, .agg (rowC r)] ++ [])) H fun _ H' => WrAt H' wp (us ++ rowB r) R := by
  obtain ⟨a, b, c, rfl⟩ := sh
  obtain ⟨wa, ra⟩ := ok _ (List.Mem.head _)
  obtain ⟨na, ea⟩ : ∃ n : Nat, a = .ofNat n := ⟨a.toNat, by simp only [Fd.right] at ra; simp only [Int.ofNat_eq_natCast]; omega⟩
  subst ea
  have la : na < 65536 := by simp only [Fd.right, Fd.wf, Int.ofNat_eq_natCast] at ra wa; omega
  obtain ⟨wb, rb⟩ := ok _ (.tail _ (List.Mem.head _))
  obtain ⟨wc, rc⟩ := ok _ (.tail _ (.tail _ (List.Mem.head _)))
  have qa := numB_len (n := na) (by omega)
  have qb := numB_len (n := b) (by simp only [Fd.wf] at *; omega)
  have qc := numB_len (n := c) (by simp only [Fd.wf] at *; omega)
  refine WF.lessP ?_
  refine WF.fn g85 rfl ?_
  refine WC.seq (WC.reg ?_)
  repeat' (first
    | apply WOps.nil | (apply WOps.bx; rfl; rfl; (· repeat' (first | rfl | assumption | apply ac1)); intro _))
  rename_i p3
  have b0 := h.cons (x := (p3, .row (rowC [.int (.ofNat na) 255, .u32 b, .num c])))
  have lp : ∀ {G : HL} {n o l}, takeN ((rowC [.int (.ofNat na) 255, .u32 b, .num c]).drop o) n = some l → Ld B ((p3, .row (rowC [.int (.ofNat na) 255, .u32 b, .num c])) :: R) ⟨false, p3, o⟩ n l := fun e => Ld.own Tk.head e
  repeat' (first
    | apply WOps.nil | apply WC.seq | apply WC.reg | (apply WOps.ldG; rfl; rfl; (first | exact ld0 rfl | exact ld1 rfl | exact ld2 rfl); rfl) | (apply WOps.ldG; rfl; rfl; exact (by first | exact b0.ld (Ld.own Tk.head rfl) | exact b1.ld (Ld.own Tk.head rfl) | exact b2.ld (Ld.own Tk.head rfl) | exact b3.ld (Ld.own Tk.head rfl)); rfl) | (apply WOps.cvU; rfl; rfl; (simp only [Fd.wf] at *; omega)) | (apply WOps.clA; rfl; rfl; exact int62_ok b0 (n := na) (by omega) (by first | omega | (simp only [List.length_append]; omega)); intro _ H1 b1) | (apply WOps.clA; rfl; rfl; exact num15_ok b1 (n := b) (by simp only [Fd.wf] at *; omega) (by first | omega | (simp only [List.length_append]; omega)); intro _ H2 b2) | (apply WOps.clA; rfl; rfl; exact num15_ok b2 wc (by first | omega | (simp only [List.length_append]; omega)); intro _ H3 b3) | (apply WOps.purG; rfl; (intro _; rfl)))
  obtain ⟨H9, b9, s9⟩ := b3.less (R1 := R) (subF (by intro f; simp only [AV.cells, List.append_eq, List.map_cons, List.map_nil, List.sum_nil, List.map_append, List.sum_cons, List.sum_append, List.cons_append, List.nil_append, List.append_assoc, List.append_nil]; omega))
  exact ⟨trivial, [], rfl, H9, b9.heq (by simp [rowB, Fd.bytes]), s9⟩
theorem Fd.at_cons {H : HL} {x : Nat × AObj} {f : Fd} (h : f.at B H) : f.at B (x :: H) := by
  cases f <;> first | trivial | exact SlIs.cons h
theorem put_all {r : List AV} {w : Nat} {z : List AV} (h : r.length = w) (hz : z.length = w := by rfl) : putN z 0 r = some r := by
  unfold putN putAt
  have : Nat.ble (0 + r.length) z.length = true := by rw [Nat.ble_eq]; omega
  rw [this]
  simp only [forceL_eq]
  rw [List.take_zero, List.drop_eq_nil_of_le (by omega)]
  simp
theorem take_all {r : List AV} {w : Nat} (h : r.length = w) : takeN (r.drop 0) w = some r := by
  rw [List.drop_zero, takeN_of (by omega), List.take_of_length_le (by omega)]
theorem shN_len {r : List Fd} (h : shN r) : (rowC r).length = 4 ∧ r.length ≤ 7 := by
  obtain ⟨a, b, c, d, rfl⟩ := h
  exact ⟨rfl, by simp⟩
theorem shN_cell {r : List Fd} {H : HL} (h : shN r) (at_ : ∀ f, f ∈ r → f.at B H) : allCell (rowC r) = true := by
  obtain ⟨a, b, c, d, rfl⟩ := h
  repeat' (first | exact ac0 | apply ac1)
  all_goals first | rfl | assumption
theorem fn17_ok {H : HL} : WF B tab (.func 17) [] H fun r H' => r = .agg [.fn (.func 63) [] [], .fn (.func 66) [] []] ∧ H' = H := by
  refine WF.lessP ?_
  refine WF.fn g17 rfl ?_
  repeat' (first
    | apply WOps.nil | apply WC.seq | apply WC.reg | apply WC.ret | (apply WOps.st; rfl; rfl; (first | exact tk0 | exact tk1 | exact tk2); rfl; (· repeat' (first | rfl | assumption | apply ac1)); rfl) | (apply WOps.alc; rfl; intro _) | (apply WOps.purG; rfl; (intro _; rfl)))
  exact ⟨trivial, [_], ⟨_, _, rfl, ⟨_, _, rfl, Ld.own Tk.head rfl, rfl⟩, rfl⟩, H, ⟨rfl, rfl⟩, subF (by intro f; simp only [AV.cells, List.append_eq, List.map_cons, List.map_nil, List.sum_nil, List.map_append, List.sum_cons, List.sum_append, List.cons_append, List.nil_append, List.append_assoc, List.append_nil]; omega)⟩
set_option maxHeartbeats 2000000 in
theorem put16_ok {H R : HL} {wp : Nat} {us : List Nat} {vl : AV} {l : List (List Fd)} (hv : SlIs B R vl 4 (l.map rowC)) (h64 : l.length ≤ 64) (ok : ∀ r, r ∈ l → shN r ∧ rowOk r ∧ ∀ f, f ∈ r → f.at B R) (h : WrAt H wp us R) (hl : us.length ≤ 10000000) :
    WF B tab (.func 16) [.ptr ⟨false, wp, 0⟩, vl, .agg [.fn (.func 63) [] [], .fn (.func 66) [] []]] H fun _ H' => WrAt H' wp (us ++ rowsB l) R := by
  refine WF.lessP ?_
  refine WF.fn g16 rfl ?_
  have hn := numB_len (n := l.length) (by omega)
  refine WC.seq (WC.reg ?_)
  repeat' (first
    | apply WOps.nil | (apply WOps.bx; rfl; rfl; (· repeat' (first | rfl | assumption | apply ac1)); intro _))
  rename_i p5
  have b0 := h.cons (x := (p5, .row [.fn (.func 63) [] [], .fn (.func 66) [] []]))
  have hv5 : SlIs B ((p5, .row [.fn (.func 63) [] [], .fn (.func 66) [] []]) :: R) vl 4 (l.map rowC) := SlIs.cons hv
  refine WC.seq (WC.reg ?_)
  repeat' (first
    | apply WOps.nil | (apply WOps.lenS; rfl; rfl; exact b0.sl hv5) | (apply WOps.clA; rfl; rfl; exact int62_ok b0 (by rw [List.length_map]; omega) (by omega); intro _ H1 b1) | (apply WOps.purG; rfl; (intro _; rfl)))
  rw [List.length_map] at b1
  refine WC.seq (WC.reg ?_)
  repeat' (first
    | apply WOps.nil | apply WC.block | (apply WOps.lenS; rfl; rfl; exact b1.sl hv5) | (apply WOps.purG; rfl; (intro _; rfl)))
  rw [List.length_map]
  refine WC.loop ?_
  obtain ⟨i, hi⟩ : ∃ i : Nat, i = 0 := ⟨0, rfl⟩
  obtain ⟨u2, hu2⟩ : ∃ l' : List Nat, l' = us ++ numB l.length := ⟨_, rfl⟩
  refine WL.le (t' := [(0, .ptr ⟨false, wp, 0⟩), (5, .ptr ⟨false, p5, 0⟩), (12, vl), (13, .int .i64 (.ofNat l.length)), (14, .int .i64 (.ofNat i))]) (by subst hi; exact Sub1.cons rfl (Sub1.cons rfl (Sub1.cons rfl (Sub1.cons rfl (Sub1.cons rfl Sub1.nil))))) ?_
  have b2 : WrAt H1 wp u2 ((p5, .row [.fn (.func 63) [] [], .fn (.func 66) [] []]) :: R) := by subst hu2; exact b1
  have hu : u2 = us ++ (numB l.length ++ ((l.take i).map rowB).flatten) := by subst hi hu2; simp
  have hle : i ≤ l.length := by omega
  clear hi hu2 b1
  induction hk : l.length - i using Nat.strongRecOn generalizing i u2 H1 with | _ k ih => ?_
  apply WL.step
  repeat' (first
    | apply WOps.nil | apply WC.seq | apply WC.reg | apply WC.skip | apply WC.exit | apply WC.block | (apply WOps.cmp; rfl; rfl; rfl; rfl; intro _ _) | (apply WC.condA; rfl; all_goals (intro hb; try subst hb)))
  · have hlt : i < l.length := by
      have h0 := ‹true = true ↔ cmpP BinOp.lss (Int.ofNat i) (Int.ofNat l.length)›.1 rfl
      simp [cmpP] at h0; omega
    have hc : (l.map rowC)[i]? = some (rowC l[i]) := by rw [List.getElem?_map, List.getElem?_eq_getElem hlt]; rfl
    obtain ⟨o1, o2, o3⟩ := ok l[i] (List.getElem_mem hlt)
    obtain ⟨w1, w2⟩ := shN_len o1
    have ca := shN_cell o1 o3
    have hul : u2.length ≤ us.length + 9 + 64 * 5047 := by
      have h2 := rows_len (l := l.take i) fun r hr => ⟨(ok r (List.mem_of_mem_take hr)).2.1, (shN_len (ok r (List.mem_of_mem_take hr)).1).2⟩
      rw [hu]; simp only [List.length_append, List.length_take] at h2 ⊢; omega
    repeat' (first
      | (apply WOps.alc; rfl; intro _) | (apply WOps.ixSl; rfl; rfl; rfl; exact b2.sl hv5; exact hc; intro ax hax) | (apply WOps.ldG; rfl; rfl; exact hax; rfl))
    rename_i p7
    refine WOps.st (v := .agg (rowC l[i])) (cs' := rowC l[i]) rfl rfl Tk.head w1 ca (put_all w1) ?_
    have b3 := b2.cons (x := (p7, .row (rowC l[i])))
    repeat' (first
      | apply WOps.nil | apply WC.reg | (apply WOps.ldG; rfl; rfl; exact b3.ld (Ld.cons (Ld.own Tk.head rfl)); rfl) | (apply WOps.ldG; rfl; rfl; exact Ld.own Tk.head (take_all w1); rfl) | (apply WOps.cvA; rfl; rfl; rfl; exact lay63_ok o1 o2 (fun f hf => Fd.at_cons (Fd.at_cons (o3 f hf))) b3 (by omega); intro _ H4 b4) | (apply WOps.addN; rfl; rfl; rfl; omega) | (apply WOps.purG; rfl; (intro _; rfl)))
    obtain ⟨H5, b5, s5⟩ := b4.less (R1 := (p5, .row [.fn (.func 63) [] [], .fn (.func 66) [] []]) :: R) (subF (by intro f; simp only [AV.cells, List.append_eq, List.map_cons, List.map_nil, List.sum_nil, List.map_append, List.sum_cons, List.sum_append, List.cons_append, List.nil_append, List.append_assoc, List.append_nil]; omega))
    refine WL.le (Sub1.cons rfl (Sub1.cons rfl (Sub1.cons rfl (Sub1.cons rfl (Sub1.cons rfl Sub1.nil))))) (WL.lessP s5 (ih _ (by omega) H5 (i + 1) _ b5 ?_ (by omega) rfl))
    rw [hu, List.take_succ_eq_append_getElem hlt]
    simp only [List.map_append, List.flatten_append, List.map_cons, List.map_nil, List.flatten_cons, List.flatten_nil, List.append_nil, List.append_assoc]
  · have hge : i = l.length := by
      have h0 := eq_of_ff ‹false = true ↔ cmpP BinOp.lss (Int.ofNat i) (Int.ofNat l.length)›
      simp [cmpP] at h0; omega
    rw [hge, List.take_length] at hu
    obtain ⟨H5, b5, s5⟩ := b2.less (R1 := R) (subF (by intro f; simp only [AV.cells, List.append_eq, List.map_cons, List.map_nil, List.sum_nil, List.map_append, List.sum_cons, List.sum_append, List.cons_append, List.nil_append, List.append_assoc, List.append_nil]; omega))
    exact ⟨trivial, [], rfl, H5, b5.heq (by rw [hu]; rfl), s5⟩
theorem shS_len {r : List Fd} (h : shS r) : (rowC r).length = 7 ∧ r.length ≤ 7 := by
  obtain ⟨a, b, c, vd, d, e, f, g, rfl⟩ := h
  exact ⟨rfl, by simp⟩
theorem shS_cell {r : List Fd} {H : HL} (h : shS r) (at_ : ∀ f, f ∈ r → f.at B H) : allCell (rowC r) = true := by
  obtain ⟨a, b, c, vd, d, e, f, g, rfl⟩ := h
  have ct : vd.isCell = true := SlIs.cell (at_ (.txs vd d) (.tail _ (.tail _ (.tail _ (List.Mem.head _)))))
  repeat' (first | exact ac0 | apply ac1)
  all_goals first | rfl | assumption
theorem fn19_ok {H : HL} : WF B tab (.func 19) [] H fun r H' => r = .agg [.fn (.func 70) [] [], .fn (.func 72) [] []] ∧ H' = H := by
  refine WF.lessP ?_
  refine WF.fn g19 rfl ?_
  repeat' (first
    | apply WOps.nil | apply WC.seq | apply WC.reg | apply WC.ret | (apply WOps.st; rfl; rfl; (first | exact tk0 | exact tk1 | exact tk2); rfl; (· repeat' (first | rfl | assumption | apply ac1)); rfl) | (apply WOps.alc; rfl; intro _) | (apply WOps.purG; rfl; (intro _; rfl)))
  exact ⟨trivial, [_], ⟨_, _, rfl, ⟨_, _, rfl, Ld.own Tk.head rfl, rfl⟩, rfl⟩, H, ⟨rfl, rfl⟩, subF (by intro f; simp only [AV.cells, List.append_eq, List.map_cons, List.map_nil, List.sum_nil, List.map_append, List.sum_cons, List.sum_append, List.cons_append, List.nil_append, List.append_assoc, List.append_nil]; omega)⟩
set_option maxHeartbeats 2000000 in
theorem put18_ok {H R : HL} {wp : Nat} {us : List Nat} {vl : AV} {l : List (List Fd)} (hv : SlIs B R vl 7 (l.map rowC)) (h64 : l.length ≤ 64) (ok : ∀ r, r ∈ l → shS r ∧ rowOk r ∧ ∀ f, f ∈ r → f.at B R) (h : WrAt H wp us R) (hl : us.length ≤ 10000000) :
    WF B tab (.func 18) [.ptr ⟨false, wp, 0⟩, vl, .agg [.fn (.func 70) [] [], .fn (.func 72) [] []]] H fun _ H' => WrAt H' wp (us ++ rowsB l) R := by
  refine WF.lessP ?_
  refine WF.fn g18 rfl ?_
  have hn := numB_len (n := l.length) (by omega)
  refine WC.seq (WC.reg ?_)
  repeat' (first
    | apply WOps.nil | (apply WOps.bx; rfl; rfl; (· repeat' (first | rfl | assumption | apply ac1)); intro _))
  rename_i p5
  have b0 := h.cons (x := (p5, .row [.fn (.func 70) [] [], .fn (.func 72) [] []]))
  have hv5 : SlIs B ((p5, .row [.fn (.func 70) [] [], .fn (.func 72) [] []]) :: R) vl 7 (l.map rowC) := SlIs.cons hv
  refine WC.seq (WC.reg ?_)
  repeat' (first
    | apply WOps.nil | (apply WOps.lenS; rfl; rfl; exact b0.sl hv5) | (apply WOps.clA; rfl; rfl; exact int62_ok b0 (by rw [List.length_map]; omega) (by omega); intro _ H1 b1) | (apply WOps.purG; rfl; (intro _; rfl)))
  rw [List.length_map] at b1
  refine WC.seq (WC.reg ?_)
  repeat' (first
    | apply WOps.nil | apply WC.block | (apply WOps.lenS; rfl; rfl; exact b1.sl hv5) | (apply WOps.purG; rfl; (intro _; rfl)))
  rw [List.length_map]
  refine WC.loop ?_
  obtain ⟨i, hi⟩ : ∃ i : Nat, i = 0 := ⟨0, rfl⟩
  obtain ⟨u2, hu2⟩ : ∃ l' : List Nat, l' = us ++ numB l.length := ⟨_, rfl⟩
  refine WL.le (t' := [(0, .ptr ⟨false, wp, 0⟩), (5, .ptr ⟨false, p5, 0⟩), (12, vl), (13, .int .i64 (.ofNat l.length)), (14, .int .i64 (.ofNat i))]) (by subst hi; exact Sub1.cons rfl (Sub1.cons rfl (Sub1.cons rfl (Sub1.cons rfl (Sub1.cons rfl Sub1.nil))))) ?_
  have b2 : WrAt H1 wp u2 ((p5, .row [.fn (.func 70) [] [], .fn (.func 72) [] []]) :: R) := by subst hu2; exact b1
  have hu : u2 = us ++ (numB l.length ++ ((l.take i).map rowB).flatten) := by subst hi hu2; simp
  have hle : i ≤ l.length := by omega
  clear hi hu2 b1
  induction hk : l.length - i using Nat.strongRecOn generalizing i u2 H1 with | _ k ih => ?_
  apply WL.step
  repeat' (first
    | apply WOps.nil | apply WC.seq | apply WC.reg | apply WC.skip | apply WC.exit | apply WC.block | (apply WOps.cmp; rfl; rfl; rfl; rfl; intro _ _) | (apply WC.condA; rfl; all_goals (intro hb; try subst hb)))
  · have hlt : i < l.length := by
      have h0 := ‹true = true ↔ cmpP BinOp.lss (Int.ofNat i) (Int.ofNat l.length)›.1 rfl
      simp [cmpP] at h0; omega
    have hc : (l.map rowC)[i]? = some (rowC l[i]) := by rw [List.getElem?_map, List.getElem?_eq_getElem hlt]; rfl
    obtain ⟨o1, o2, o3⟩ := ok l[i] (List.getElem_mem hlt)
    obtain ⟨w1, w2⟩ := shS_len o1
    have ca := shS_cell o1 o3
    have hul : u2.length ≤ us.length + 9 + 64 * 5047 := by
      have h2 := rows_len (l := l.take i) fun r hr => ⟨(ok r (List.mem_of_mem_take hr)).2.1, (shS_len (ok r (List.mem_of_mem_take hr)).1).2⟩
      rw [hu]; simp only [List.length_append, List.length_take] at h2 ⊢; omega
    repeat' (first
      | (apply WOps.alc; rfl; intro _) | (apply WOps.ixSl; rfl; rfl; rfl; exact b2.sl hv5; exact hc; intro ax hax) | (apply WOps.ldG; rfl; rfl; exact hax; rfl))
    rename_i p7
    refine WOps.st (v := .agg (rowC l[i])) (cs' := rowC l[i]) rfl rfl Tk.head w1 ca (put_all w1) ?_
    have b3 := b2.cons (x := (p7, .row (rowC l[i])))
    repeat' (first
      | apply WOps.nil | apply WC.reg | (apply WOps.ldG; rfl; rfl; exact b3.ld (Ld.cons (Ld.own Tk.head rfl)); rfl) | (apply WOps.ldG; rfl; rfl; exact Ld.own Tk.head (take_all w1); rfl) | (apply WOps.cvA; rfl; rfl; rfl; exact lay70_ok o1 o2 (fun f hf => Fd.at_cons (Fd.at_cons (o3 f hf))) b3 (by omega); intro _ H4 b4) | (apply WOps.addN; rfl; rfl; rfl; omega) | (apply WOps.purG; rfl; (intro _; rfl)))
    obtain ⟨H5, b5, s5⟩ := b4.less (R1 := (p5, .row [.fn (.func 70) [] [], .fn (.func 72) [] []]) :: R) (subF (by intro f; simp only [AV.cells, List.append_eq, List.map_cons, List.map_nil, List.sum_nil, List.map_append, List.sum_cons, List.sum_append, List.cons_append, List.nil_append, List.append_assoc, List.append_nil]; omega))
    refine WL.le (Sub1.cons rfl (Sub1.cons rfl (Sub1.cons rfl (Sub1.cons rfl (Sub1.cons rfl Sub1.nil))))) (WL.lessP s5 (ih _ (by omega) H5 (i + 1) _ b5 ?_ (by omega) rfl))
    rw [hu, List.take_succ_eq_append_getElem hlt]
    simp only [List.map_append, List.flatten_append, List.map_cons, List.map_nil, List.flatten_cons, List.flatten_nil, List.append_nil, List.append_assoc]
  · have hge : i = l.length := by
      have h0 := eq_of_ff ‹false = true ↔ cmpP BinOp.lss (Int.ofNat i) (Int.ofNat l.length)›
      simp [cmpP] at h0; omega
    rw [hge, List.take_length] at hu
    obtain ⟨H5, b5, s5⟩ := b2.less (R1 := R) (subF (by intro f; simp only [AV.cells, List.append_eq, List.map_cons, List.map_nil, List.sum_nil, List.map_append, List.sum_cons, List.sum_append, List.cons_append, List.nil_append, List.append_assoc, List.append_nil]; omega))
    exact ⟨trivial, [], rfl, H5, b5.heq (by rw [hu]; rfl), s5⟩
theorem shC_len {r : List Fd} (h : shC r) : (rowC r).length = 7 ∧ r.length ≤ 7 := by
  obtain ⟨a, b, c, d, e, f, g, rfl⟩ := h
  exact ⟨rfl, by simp⟩
theorem shC_cell {r : List Fd} {H : HL} (h : shC r) (at_ : ∀ f, f ∈ r → f.at B H) : allCell (rowC r) = true := by
  obtain ⟨a, b, c, d, e, f, g, rfl⟩ := h
  repeat' (first | exact ac0 | apply ac1)
  all_goals first | rfl | assumption
theorem fn21_ok {H : HL} : WF B tab (.func 21) [] H fun r H' => r = .agg [.fn (.func 75) [] [], .fn (.func 76) [] []] ∧ H' = H := by
  refine WF.lessP ?_
  refine WF.fn g21 rfl ?_
  repeat' (first
    | apply WOps.nil | apply WC.seq | apply WC.reg | apply WC.ret | (apply WOps.st; rfl; rfl; (first | exact tk0 | exact tk1 | exact tk2); rfl; (· repeat' (first | rfl | assumption | apply ac1)); rfl) | (apply WOps.alc; rfl; intro _) | (apply WOps.purG; rfl; (intro _; rfl)))
  exact ⟨trivial, [_], ⟨_, _, rfl, ⟨_, _, rfl, Ld.own Tk.head rfl, rfl⟩, rfl⟩, H, ⟨rfl, rfl⟩, subF (by intro f; simp only [AV.cells, List.append_eq, List.map_cons, List.map_nil, List.sum_nil, List.map_append, List.sum_cons, List.sum_append, List.cons_append, List.nil_append, List.append_assoc, List.append_nil]; omega)⟩
set_option maxHeartbeats 2000000 in
theorem put20_ok {H R : HL} {wp : Nat} {us : List Nat} {vl : AV} {l : List (List Fd)} (hv : SlIs B R vl 7 (l.map rowC)) (h64 : l.length ≤ 64) (ok : ∀ r, r ∈ l → shC r ∧ rowOk r ∧ ∀ f, f ∈ r → f.at B R) (h : WrAt H wp us R) (hl : us.length ≤ 10000000) :
    WF B tab (.func 20) [.ptr ⟨false, wp, 0⟩, vl, .agg [.fn (.func 75) [] [], .fn (.func 76) [] []]] H fun _ H' => WrAt H' wp (us ++ rowsB l) R := by
  refine WF.lessP ?_
  refine WF.fn g20 rfl ?_
  have hn := numB_len (n := l.length) (by omega)
  refine WC.seq (WC.reg ?_)
  repeat' (first
    | apply WOps.nil | (apply WOps.bx; rfl; rfl; (· repeat' (first | rfl | assumption | apply ac1)); intro _))
  rename_i p5
  have b0 := h.cons (x := (p5, .row [.fn (.func 75) [] [], .fn (.func 76) [] []]))
  have hv5 : SlIs B ((p5, .row [.fn (.func 75) [] [], .fn (.func 76) [] []]) :: R) vl 7 (l.map rowC) := SlIs.cons hv
  refine WC.seq (WC.reg ?_)
  repeat' (first
    | apply WOps.nil | (apply WOps.lenS; rfl; rfl; exact b0.sl hv5) | (apply WOps.clA; rfl; rfl; exact int62_ok b0 (by rw [List.length_map]; omega) (by omega); intro _ H1 b1) | (apply WOps.purG; rfl; (intro _; rfl)))
  rw [List.length_map] at b1
  refine WC.seq (WC.reg ?_)
  repeat' (first
    | apply WOps.nil | apply WC.block | (apply WOps.lenS; rfl; rfl; exact b1.sl hv5) | (apply WOps.purG; rfl; (intro _; rfl)))
  rw [List.length_map]
  refine WC.loop ?_
  obtain ⟨i, hi⟩ : ∃ i : Nat, i = 0 := ⟨0, rfl⟩
  obtain ⟨u2, hu2⟩ : ∃ l' : List Nat, l' = us ++ numB l.length := ⟨_, rfl⟩
  refine WL.le (t' := [(0, .ptr ⟨false, wp, 0⟩), (5, .ptr ⟨false, p5, 0⟩), (12, vl), (13, .int .i64 (.ofNat l.length)), (14, .int .i64 (.ofNat i))]) (by subst hi; exact Sub1.cons rfl (Sub1.cons rfl (Sub1.cons rfl (Sub1.cons rfl (Sub1.cons rfl Sub1.nil))))) ?_
  have b2 : WrAt H1 wp u2 ((p5, .row [.fn (.func 75) [] [], .fn (.func 76) [] []]) :: R) := by subst hu2; exact b1
  have hu : u2 = us ++ (numB l.length ++ ((l.take i).map rowB).flatten) := by subst hi hu2; simp
  have hle : i ≤ l.length := by omega
  clear hi hu2 b1
  induction hk : l.length - i using Nat.strongRecOn generalizing i u2 H1 with | _ k ih => ?_
  apply WL.step
  repeat' (first
    | apply WOps.nil | apply WC.seq | apply WC.reg | apply WC.skip | apply WC.exit | apply WC.block | (apply WOps.cmp; rfl; rfl; rfl; rfl; intro _ _) | (apply WC.condA; rfl; all_goals (intro hb; try subst hb)))
  · have hlt : i < l.length := by
      have h0 := ‹true = true ↔ cmpP BinOp.lss (Int.ofNat i) (Int.ofNat l.length)›.1 rfl
      simp [cmpP] at h0; omega
    have hc : (l.map rowC)[i]? = some (rowC l[i]) := by rw [List.getElem?_map, List.getElem?_eq_getElem hlt]; rfl
    obtain ⟨o1, o2, o3⟩ := ok l[i] (List.getElem_mem hlt)
    obtain ⟨w1, w2⟩ := shC_len o1
    have ca := shC_cell o1 o3
    have hul : u2.length ≤ us.length + 9 + 64 * 5047 := by
      have h2 := rows_len (l := l.take i) fun r hr => ⟨(ok r (List.mem_of_mem_take hr)).2.1, (shC_len (ok r (List.mem_of_mem_take hr)).1).2⟩
      rw [hu]; simp only [List.length_append, List.length_take] at h2 ⊢; omega
    repeat' (first
      | (apply WOps.alc; rfl; intro _) | (apply WOps.ixSl; rfl; rfl; rfl; exact b2.sl hv5; exact hc; intro ax hax) | (apply WOps.ldG; rfl; rfl; exact hax; rfl))
    rename_i p7
    refine WOps.st (v := .agg (rowC l[i])) (cs' := rowC l[i]) rfl rfl Tk.head w1 ca (put_all w1) ?_
    have b3 := b2.cons (x := (p7, .row (rowC l[i])))
    repeat' (first
      | apply WOps.nil | apply WC.reg | (apply WOps.ldG; rfl; rfl; exact b3.ld (Ld.cons (Ld.own Tk.head rfl)); rfl) | (apply WOps.ldG; rfl; rfl; exact Ld.own Tk.head (take_all w1); rfl) | (apply WOps.cvA; rfl; rfl; rfl; exact lay75_ok o1 o2 (fun f hf => Fd.at_cons (Fd.at_cons (o3 f hf))) b3 (by omega); intro _ H4 b4) | (apply WOps.addN; rfl; rfl; rfl; omega) | (apply WOps.purG; rfl; (intro _; rfl)))
    obtain ⟨H5, b5, s5⟩ := b4.less (R1 := (p5, .row [.fn (.func 75) [] [], .fn (.func 76) [] []]) :: R) (subF (by intro f; simp only [AV.cells, List.append_eq, List.map_cons, List.map_nil, List.sum_nil, List.map_append, List.sum_cons, List.sum_append, List.cons_append, List.nil_append, List.append_assoc, List.append_nil]; omega))
    refine WL.le (Sub1.cons rfl (Sub1.cons rfl (Sub1.cons rfl (Sub1.cons rfl (Sub1.cons rfl Sub1.nil))))) (WL.lessP s5 (ih _ (by omega) H5 (i + 1) _ b5 ?_ (by omega) rfl))
    rw [hu, List.take_succ_eq_append_getElem hlt]
    simp only [List.map_append, List.flatten_append, List.map_cons, List.map_nil, List.flatten_cons, List.flatten_nil, List.append_nil, List.append_assoc]
  · have hge : i = l.length := by
      have h0 := eq_of_ff ‹false = true ↔ cmpP BinOp.lss (Int.ofNat i) (Int.ofNat l.length)›
      simp [cmpP] at h0; omega
    rw [hge, List.take_length] at hu
    obtain ⟨H5, b5, s5⟩ := b2.less (R1 := R) (subF (by intro f; simp only [AV.cells, List.append_eq, List.map_cons, List.map_nil, List.sum_nil, List.map_append, List.sum_cons, List.sum_append, List.cons_append, List.nil_append, List.append_assoc, List.append_nil]; omega))
    exact ⟨trivial, [], rfl, H5, b5.heq (by rw [hu]; rfl), s5⟩
theorem shI_len {r : List Fd} (h : shI r) : (rowC r).length = 5 ∧ r.length ≤ 7 := by
  obtain ⟨a, b, c, d, e, rfl⟩ := h
  exact ⟨rfl, by simp⟩
theorem shI_cell {r : List Fd} {H : HL} (h : shI r) (at_ : ∀ f, f ∈ r → f.at B H) : allCell (rowC r) = true := by
  obtain ⟨a, b, c, d, e, rfl⟩ := h
  repeat' (first | exact ac0 | apply ac1)
  all_goals first | rfl | assumption
theorem fn23_ok {H : HL} : WF B tab (.func 23) [] H fun r H' => r = .agg [.fn (.func 77) [] [], .fn (.func 79) [] []] ∧ H' = H := by
  refine WF.lessP ?_
  refine WF.fn g23 rfl ?_
  repeat' (first
    | apply WOps.nil | apply WC.seq | apply WC.reg | apply WC.ret | (apply WOps.st; rfl; rfl; (first | exact tk0 | exact tk1 | exact tk2); rfl; (· repeat' (first | rfl | assumption | apply ac1)); rfl) | (apply WOps.alc; rfl; intro _) | (apply WOps.purG; rfl; (intro _; rfl)))
  exact ⟨trivial, [_], ⟨_, _, rfl, ⟨_, _, rfl, Ld.own Tk.head rfl, rfl⟩, rfl⟩, H, ⟨rfl, rfl⟩, subF (by intro f; simp only [AV.cells, List.append_eq, List.map_cons, List.map_nil, List.sum_nil, List.map_append, List.sum_cons, List.sum_append, List.cons_append, List.nil_append, List.append_assoc, List.append_nil]; omega)⟩
set_option maxHeartbeats 2000000 in
theorem put22_ok {H R : HL} {wp : Nat} {us : List Nat} {vl : AV} {l : List (List Fd)} (hv : SlIs B R vl 5 (l.map rowC)) (h64 : l.length ≤ 64) (ok : ∀ r, r ∈ l → shI r ∧ rowOk r ∧ ∀ f, f ∈ r → f.at B R) (h : WrAt H wp us R) (hl : us.length ≤ 10000000) :
    WF B tab (.func 22) [.ptr ⟨false, wp, 0⟩, vl, .agg [.fn (.func 77) [] [], .fn (.func 79) [] []]] H fun _ H' => WrAt H' wp (us ++ rowsB l) R := by
  refine WF.lessP ?_
  refine WF.fn g22 rfl ?_
  have hn := numB_len (n := l.length) (by omega)
  refine WC.seq (WC.reg ?_)
  repeat' (first
    | apply WOps.nil | (apply WOps.bx; rfl; rfl; (· repeat' (first | rfl | assumption | apply ac1)); intro _))
  rename_i p5
  have b0 := h.cons (x := (p5, .row [.fn (.func 77) [] [], .fn (.func 79) [] []]))
  have hv5 : SlIs B ((p5, .row [.fn (.func 77) [] [], .fn (.func 79) [] []]) :: R) vl 5 (l.map rowC) := SlIs.cons hv
  refine WC.seq (WC.reg ?_)
  repeat' (first
    | apply WOps.nil | (apply WOps.lenS; rfl; rfl; exact b0.sl hv5) | (apply WOps.clA; rfl; rfl; exact int62_ok b0 (by rw [List.length_map]; omega) (by omega); intro _ H1 b1) | (apply WOps.purG; rfl; (intro _; rfl)))
  rw [List.length_map] at b1
  refine WC.seq (WC.reg ?_)
  repeat' (first
    | apply WOps.nil | apply WC.block | (apply WOps.lenS; rfl; rfl; exact b1.sl hv5) | (apply WOps.purG; rfl; (intro _; rfl)))
  rw [List.length_map]
  refine WC.loop ?_
  obtain ⟨i, hi⟩ : ∃ i : Nat, i = 0 := ⟨0, rfl⟩
  obtain ⟨u2, hu2⟩ : ∃ l' : List Nat, l' = us ++ numB l.length := ⟨_, rfl⟩
  refine WL.le (t' := [(0, .ptr ⟨false, wp, 0⟩), (5, .ptr ⟨false, p5, 0⟩), (12, vl), (13, .int .i64 (.ofNat l.length)), (14, .int .i64 (.ofNat i))]) (by subst hi; exact Sub1.cons rfl (Sub1.cons rfl (Sub1.cons rfl (Sub1.cons rfl (Sub1.cons rfl Sub1.nil))))) ?_
  have b2 : WrAt H1 wp u2 ((p5, .row [.fn (.func 77) [] [], .fn (.func 79) [] []]) :: R) := by subst hu2; exact b1
  have hu : u2 = us ++ (numB l.length ++ ((l.take i).map rowB).flatten) := by subst hi hu2; simp
  have hle : i ≤ l.length := by omega
  clear hi hu2 b1
  induction hk : l.length - i using Nat.strongRecOn generalizing i u2 H1 with | _ k ih => ?_
  apply WL.step
  repeat' (first
    | apply WOps.nil | apply WC.seq | apply WC.reg | apply WC.skip | apply WC.exit | apply WC.block | (apply WOps.cmp; rfl; rfl; rfl; rfl; intro _ _) | (apply WC.condA; rfl; all_goals (intro hb; try subst hb)))
  · have hlt : i < l.length := by
      have h0 := ‹true = true ↔ cmpP BinOp.lss (Int.ofNat i) (Int.ofNat l.length)›.1 rfl
      simp [cmpP] at h0; omega
    have hc : (l.map rowC)[i]? = some (rowC l[i]) := by rw [List.getElem?_map, List.getElem?_eq_getElem hlt]; rfl
    obtain ⟨o1, o2, o3⟩ := ok l[i] (List.getElem_mem hlt)
    obtain ⟨w1, w2⟩ := shI_len o1
    have ca := shI_cell o1 o3
    have hul : u2.length ≤ us.length + 9 + 64 * 5047 := by
      have h2 := rows_len (l := l.take i) fun r hr => ⟨(ok r (List.mem_of_mem_take hr)).2.1, (shI_len (ok r (List.mem_of_mem_take hr)).1).2⟩
      rw [hu]; simp only [List.length_append, List.length_take] at h2 ⊢; omega
    repeat' (first
      | (apply WOps.alc; rfl; intro _) | (apply WOps.ixSl; rfl; rfl; rfl; exact b2.sl hv5; exact hc; intro ax hax) | (apply WOps.ldG; rfl; rfl; exact hax; rfl))
    rename_i p7
    refine WOps.st (v := .agg (rowC l[i])) (cs' := rowC l[i]) rfl rfl Tk.head w1 ca (put_all w1) ?_
    have b3 := b2.cons (x := (p7, .row (rowC l[i])))
    repeat' (first
      | apply WOps.nil | apply WC.reg | (apply WOps.ldG; rfl; rfl; exact b3.ld (Ld.cons (Ld.own Tk.head rfl)); rfl) | (apply WOps.ldG; rfl; rfl; exact Ld.own Tk.head (take_all w1); rfl) | (apply WOps.cvA; rfl; rfl; rfl; exact lay77_ok o1 o2 (fun f hf => Fd.at_cons (Fd.at_cons (o3 f hf))) b3 (by omega); intro _ H4 b4) | (apply WOps.addN; rfl; rfl; rfl; omega) | (apply WOps.purG; rfl; (intro _; rfl)))
    obtain ⟨H5, b5, s5⟩ := b4.less (R1 := (p5, .row [.fn (.func 77) [] [], .fn (.func 79) [] []]) :: R) (subF (by intro f; simp only [AV.cells, List.append_eq, List.map_cons, List.map_nil, List.sum_nil, List.map_append, List.sum_cons, List.sum_append, List.cons_append, List.nil_append, List.append_assoc, List.append_nil]; omega))
    refine WL.le (Sub1.cons rfl (Sub1.cons rfl (Sub1.cons rfl (Sub1.cons rfl (Sub1.cons rfl Sub1.nil))))) (WL.lessP s5 (ih _ (by omega) H5 (i + 1) _ b5 ?_ (by omega) rfl))
    rw [hu, List.take_succ_eq_append_getElem hlt]
    simp only [List.map_append, List.flatten_append, List.map_cons, List.map_nil, List.flatten_cons, List.flatten_nil, List.append_nil, List.append_assoc]
  · have hge : i = l.length := by
      have h0 := eq_of_ff ‹false = true ↔ cmpP BinOp.lss (Int.ofNat i) (Int.ofNat l.length)›
      simp [cmpP] at h0; omega
    rw [hge, List.take_length] at hu
    obtain ⟨H5, b5, s5⟩ := b2.less (R1 := R) (subF (by intro f; simp only [AV.cells, List.append_eq, List.map_cons, List.map_nil, List.sum_nil, List.map_append, List.sum_cons, List.sum_append, List.cons_append, List.nil_append, List.append_assoc, List.append_nil]; omega))
    exact ⟨trivial, [], rfl, H5, b5.heq (by rw [hu]; rfl), s5⟩
theorem shE_len {r : List Fd} (h : shE r) : (rowC r).length = 6 ∧ r.length ≤ 7 := by
  obtain ⟨a, b, c, d, e, f, rfl⟩ := h
  exact ⟨rfl, by simp⟩
theorem shE_cell {r : List Fd} {H : HL} (h : shE r) (at_ : ∀ f, f ∈ r → f.at B H) : allCell (rowC r) = true := by
  obtain ⟨a, b, c, d, e, f, rfl⟩ := h
  repeat' (first | exact ac0 | apply ac1)
  all_goals first | rfl | assumption
theorem fn25_ok {H : HL} : WF B tab (.func 25) [] H fun r H' => r = .agg [.fn (.func 81) [] [], .fn (.func 82) [] []] ∧ H' = H := by
  refine WF.lessP ?_
  refine WF.fn g25 rfl ?_
  repeat' (first
    | apply WOps.nil | apply WC.seq | apply WC.reg | apply WC.ret | (apply WOps.st; rfl; rfl; (first | exact tk0 | exact tk1 | exact tk2); rfl; (· repeat' (first | rfl | assumption | apply ac1)); rfl) | (apply WOps.alc; rfl; intro _) | (apply WOps.purG; rfl; (intro _; rfl)))
  exact ⟨trivial, [_], ⟨_, _, rfl, ⟨_, _, rfl, Ld.own Tk.head rfl, rfl⟩, rfl⟩, H, ⟨rfl, rfl⟩, subF (by intro f; simp only [AV.cells, List.append_eq, List.map_cons, List.map_nil, List.sum_nil, List.map_append, List.sum_cons, List.sum_append, List.cons_append, List.nil_append, List.append_assoc, List.append_nil]; omega)⟩
set_option maxHeartbeats 2000000 in
theorem put24_ok {H R : HL} {wp : Nat} {us : List Nat} {vl : AV} {l : List (List Fd)} (hv : SlIs B R vl 6 (l.map rowC)) (h64 : l.length ≤ 64) (ok : ∀ r, r ∈ l → shE r ∧ rowOk r ∧ ∀ f, f ∈ r → f.at B R) (h : WrAt H wp us R) (hl : us.length ≤ 10000000) :
    WF B tab (.func 24) [.ptr ⟨false, wp, 0⟩, vl, .agg [.fn (.func 81) [] [], .fn (.func 82) [] []]] H fun _ H' => WrAt H' wp (us ++ rowsB l) R := by
  refine WF.lessP ?_
  refine WF.fn g24 rfl ?_
  have hn := numB_len (n := l.length) (by omega)
  refine WC.seq (WC.reg ?_)
  repeat' (first
    | apply WOps.nil | (apply WOps.bx; rfl; rfl; (· repeat' (first | rfl | assumption | apply ac1)); intro _))
  rename_i p5
  have b0 := h.cons (x := (p5, .row [.fn (.func 81) [] [], .fn (.func 82) [] []]))
  have hv5 : SlIs B ((p5, .row [.fn (.func 81) [] [], .fn (.func 82) [] []]) :: R) vl 6 (l.map rowC) := SlIs.cons hv
  refine WC.seq (WC.reg ?_)
  repeat' (first
    | apply WOps.nil | (apply WOps.lenS; rfl; rfl; exact b0.sl hv5) | (apply WOps.clA; rfl; rfl; exact int62_ok b0 (by rw [List.length_map]; omega) (by omega); intro _ H1 b1) | (apply WOps.purG; rfl; (intro _; rfl)))
  rw [List.length_map] at b1
  refine WC.seq (WC.reg ?_)
  repeat' (first
    | apply WOps.nil | apply WC.block | (apply WOps.lenS; rfl; rfl; exact b1.sl hv5) | (apply WOps.purG; rfl; (intro _; rfl)))
  rw [List.length_map]
  refine WC.loop ?_
  obtain ⟨i, hi⟩ : ∃ i : Nat, i = 0 := ⟨0, rfl⟩
  obtain ⟨u2, hu2⟩ : ∃ l' : List Nat, l' = us ++ numB l.length := ⟨_, rfl⟩
  refine WL.le (t' := [(0, .ptr ⟨false, wp, 0⟩), (5, .ptr ⟨false, p5, 0⟩), (12, vl), (13, .int .i64 (.ofNat l.length)), (14, .int .i64 (.ofNat i))]) (by subst hi; exact Sub1.cons rfl (Sub1.cons rfl (Sub1.cons rfl (Sub1.cons rfl (Sub1.cons rfl Sub1.nil))))) ?_
  have b2 : WrAt H1 wp u2 ((p5, .row [.fn (.func 81) [] [], .fn (.func 82) [] []]) :: R) := by subst hu2; exact b1
  have hu : u2 = us ++ (numB l.length ++ ((l.take i).map rowB).flatten) := by subst hi hu2; simp
  have hle : i ≤ l.length := by omega
  clear hi hu2 b1
  induction hk : l.length - i using Nat.strongRecOn generalizing i u2 H1 with | _ k ih => ?_
  apply WL.step
  repeat' (first
    | apply WOps.nil | apply WC.seq | apply WC.reg | apply WC.skip | apply WC.exit | apply WC.block | (apply WOps.cmp; rfl; rfl; rfl; rfl; intro _ _) | (apply WC.condA; rfl; all_goals (intro hb; try subst hb)))
  · have hlt : i < l.length := by
      have h0 := ‹true = true ↔ cmpP BinOp.lss (Int.ofNat i) (Int.ofNat l.length)›.1 rfl
      simp [cmpP] at h0; omega
    have hc : (l.map rowC)[i]? = some (rowC l[i]) := by rw [List.getElem?_map, List.getElem?_eq_getElem hlt]; rfl
    obtain ⟨o1, o2, o3⟩ := ok l[i] (List.getElem_mem hlt)
    obtain ⟨w1, w2⟩ := shE_len o1
    have ca := shE_cell o1 o3
    have hul : u2.length ≤ us.length + 9 + 64 * 5047 := by
      have h2 := rows_len (l := l.take i) fun r hr => ⟨(ok r (List.mem_of_mem_take hr)).2.1, (shE_len (ok r (List.mem_of_mem_take hr)).1).2⟩
      rw [hu]; simp only [List.length_append, List.length_take] at h2 ⊢; omega
    repeat' (first
      | (apply WOps.alc; rfl; intro _) | (apply WOps.ixSl; rfl; rfl; rfl; exact b2.sl hv5; exact hc; intro ax hax) | (apply WOps.ldG; rfl; rfl; exact hax; rfl))
    rename_i p7
    refine WOps.st (v := .agg (rowC l[i])) (cs' := rowC l[i]) rfl rfl Tk.head w1 ca (put_all w1) ?_
    have b3 := b2.cons (x := (p7, .row (rowC l[i])))
    repeat' (first
      | apply WOps.nil | apply WC.reg | (apply WOps.ldG; rfl; rfl; exact b3.ld (Ld.cons (Ld.own Tk.head rfl)); rfl) | (apply WOps.ldG; rfl; rfl; exact Ld.own Tk.head (take_all w1); rfl) | (apply WOps.cvA; rfl; rfl; rfl; exact lay81_ok o1 o2 (fun f hf => Fd.at_cons (Fd.at_cons (o3 f hf))) b3 (by omega); intro _ H4 b4) | (apply WOps.addN; rfl; rfl; rfl; omega) | (apply WOps.purG; rfl; (intro _; rfl)))
    obtain ⟨H5, b5, s5⟩ := b4.less (R1 := (p5, .row [.fn (.func 81) [] [], .fn (.func 82) [] []]) :: R) (subF (by intro f; simp only [AV.cells, List.append_eq, List.map_cons, List.map_nil, List.sum_nil, List.map_append, List.sum_cons, List.sum_append, List.cons_append, List.nil_append, List.append_assoc, List.append_nil]; omega))
    refine WL.le (Sub1.cons rfl (Sub1.cons rfl (Sub1.cons rfl (Sub1.cons rfl (Sub1.cons rfl Sub1.nil))))) (WL.lessP s5 (ih _ (by omega) H5 (i + 1) _ b5 ?_ (by omega) rfl))
    rw [hu, List.take_succ_eq_append_getElem hlt]
    simp only [List.map_append, List.flatten_append, List.map_cons, List.map_nil, List.flatten_cons, List.flatten_nil, List.append_nil, List.append_assoc]
  · have hge : i = l.length := by
      have h0 := eq_of_ff ‹false = true ↔ cmpP BinOp.lss (Int.ofNat i) (Int.ofNat l.length)›
      simp [cmpP] at h0; omega
    rw [hge, List.take_length] at hu
    obtain ⟨H5, b5, s5⟩ := b2.less (R1 := R) (subF (by intro f; simp only [AV.cells, List.append_eq, List.map_cons, List.map_nil, List.sum_nil, List.map_append, List.sum_cons, List.sum_append, List.cons_append, List.nil_append, List.append_assoc, List.append_nil]; omega))
    exact ⟨trivial, [], rfl, H5, b5.heq (by rw [hu]; rfl), s5⟩
theorem shL_len {r : List Fd} (h : shL r) : (rowC r).length = 4 ∧ r.length ≤ 7 := by
  obtain ⟨a, b, c, d, rfl⟩ := h
  exact ⟨rfl, by simp⟩
theorem shL_cell {r : List Fd} {H : HL} (h : shL r) (at_ : ∀ f, f ∈ r → f.at B H) : allCell (rowC r) = true := by
  obtain ⟨a, b, c, d, rfl⟩ := h
  repeat' (first | exact ac0 | apply ac1)
  all_goals first | rfl | assumption
theorem fn27_ok {H : HL} : WF B tab (.func 27) [] H fun r H' => r = .agg [.fn (.func 83) [] [], .fn (.func 84) [] []] ∧ H' = H := by
  refine WF.lessP ?_
  refine WF.fn g27 rfl ?_
  repeat' (first
    | apply WOps.nil | apply WC.seq | apply WC.reg | apply WC.ret | (apply WOps.st; rfl; rfl; (first | exact tk0 | exact tk1 | exact tk2); rfl; (· repeat' (first | rfl | assumption | apply ac1)); rfl) | (apply WOps.alc; rfl; intro _) | (apply WOps.purG; rfl; (intro _; rfl)))
  exact ⟨trivial, [_], ⟨_, _, rfl, ⟨_, _, rfl, Ld.own Tk.head rfl, rfl⟩, rfl⟩, H, ⟨rfl, rfl⟩, subF (by intro f; simp only [AV.cells, List.append_eq, List.map_cons, List.map_nil, List.sum_nil, List.map_append, List.sum_cons, List.sum_append, List.cons_append, List.nil_append, List.append_assoc, List.append_nil]; omega)⟩
set_option maxHeartbeats 2000000 in
theorem put26_ok {H R : HL} {wp : Nat} {us : List Nat} {vl : AV} {l : List (List Fd)} (hv : SlIs B R vl 4 (l.map rowC)) (h64 : l.length ≤ 64) (ok : ∀ r, r ∈ l → shL r ∧ rowOk r ∧ ∀ f, f ∈ r → f.at B R) (h : WrAt H wp us R) (hl : us.length ≤ 10000000) :
    WF B tab (.func 26) [.ptr ⟨false, wp, 0⟩, vl, .agg [.fn (.func 83) [] [], .fn (.func 84) [] []]] H fun _ H' => WrAt H' wp (us ++ rowsB l) R := by
  refine WF.lessP ?_
  refine WF.fn g26 rfl ?_
  have hn := numB_len (n := l.length) (by omega)
  refine WC.seq (WC.reg ?_)
  repeat' (first
    | apply WOps.nil | (apply WOps.bx; rfl; rfl; (· repeat' (first | rfl | assumption | apply ac1)); intro _))
  rename_i p5
  have b0 := h.cons (x := (p5, .row [.fn (.func 83) [] [], .fn (.func 84) [] []]))
  have hv5 : SlIs B ((p5, .row [.fn (.func 83) [] [], .fn (.func 84) [] []]) :: R) vl 4 (l.map rowC) := SlIs.cons hv
  refine WC.seq (WC.reg ?_)
  repeat' (first
    | apply WOps.nil | (apply WOps.lenS; rfl; rfl; exact b0.sl hv5) | (apply WOps.clA; rfl; rfl; exact int62_ok b0 (by rw [List.length_map]; omega) (by omega); intro _ H1 b1) | (apply WOps.purG; rfl; (intro _; rfl)))
  rw [List.length_map] at b1
  refine WC.seq (WC.reg ?_)
  repeat' (first
    | apply WOps.nil | apply WC.block | (apply WOps.lenS; rfl; rfl; exact b1.sl hv5) | (apply WOps.purG; rfl; (intro _; rfl)))
  rw [List.length_map]
  refine WC.loop ?_
  obtain ⟨i, hi⟩ : ∃ i : Nat, i = 0 := ⟨0, rfl⟩
  obtain ⟨u2, hu2⟩ : ∃ l' : List Nat, l' = us ++ numB l.length := ⟨_, rfl⟩
  refine WL.le (t' := [(0, .ptr ⟨false, wp, 0⟩), (5, .ptr ⟨false, p5, 0⟩), (12, vl), (13, .int .i64 (.ofNat l.length)), (14, .int .i64 (.ofNat i))]) (by subst hi; exact Sub1.cons rfl (Sub1.cons rfl (Sub1.cons rfl (Sub1.cons rfl (Sub1.cons rfl Sub1.nil))))) ?_
  have b2 : WrAt H1 wp u2 ((p5, .row [.fn (.func 83) [] [], .fn (.func 84) [] []]) :: R) := by subst hu2; exact b1
  have hu : u2 = us ++ (numB l.length ++ ((l.take i).map rowB).flatten) := by subst hi hu2; simp
  have hle : i ≤ l.length := by omega
  clear hi hu2 b1
  induction hk : l.length - i using Nat.strongRecOn generalizing i u2 H1 with | _ k ih => ?_
  apply WL.step
  repeat' (first
    | apply WOps.nil | apply WC.seq | apply WC.reg | apply WC.skip | apply WC.exit | apply WC.block | (apply WOps.cmp; rfl; rfl; rfl; rfl; intro _ _) | (apply WC.condA; rfl; all_goals (intro hb; try subst hb)))
  · have hlt : i < l.length := by
      have h0 := ‹true = true ↔ cmpP BinOp.lss (Int.ofNat i) (Int.ofNat l.length)›.1 rfl
      simp [cmpP] at h0; omega
    have hc : (l.map rowC)[i]? = some (rowC l[i]) := by rw [List.getElem?_map, List.getElem?_eq_getElem hlt]; rfl
    obtain ⟨o1, o2, o3⟩ := ok l[i] (List.getElem_mem hlt)
    obtain ⟨w1, w2⟩ := shL_len o1
    have ca := shL_cell o1 o3
    have hul : u2.length ≤ us.length + 9 + 64 * 5047 := by
      have h2 := rows_len (l := l.take i) fun r hr => ⟨(ok r (List.mem_of_mem_take hr)).2.1, (shL_len (ok r (List.mem_of_mem_take hr)).1).2⟩
      rw [hu]; simp only [List.length_append, List.length_take] at h2 ⊢; omega
    repeat' (first
      | (apply WOps.alc; rfl; intro _) | (apply WOps.ixSl; rfl; rfl; rfl; exact b2.sl hv5; exact hc; intro ax hax) | (apply WOps.ldG; rfl; rfl; exact hax; rfl))
    rename_i p7
    refine WOps.st (v := .agg (rowC l[i])) (cs' := rowC l[i]) rfl rfl Tk.head w1 ca (put_all w1) ?_
    have b3 := b2.cons (x := (p7, .row (rowC l[i])))
    repeat' (first
      | apply WOps.nil | apply WC.reg | (apply WOps.ldG; rfl; rfl; exact b3.ld (Ld.cons (Ld.own Tk.head rfl)); rfl) | (apply WOps.ldG; rfl; rfl; exact Ld.own Tk.head (take_all w1); rfl) | (apply WOps.cvA; rfl; rfl; rfl; exact lay83_ok o1 o2 (fun f hf => Fd.at_cons (Fd.at_cons (o3 f hf))) b3 (by omega); intro _ H4 b4) | (apply WOps.addN; rfl; rfl; rfl; omega) | (apply WOps.purG; rfl; (intro _; rfl)))
    obtain ⟨H5, b5, s5⟩ := b4.less (R1 := (p5, .row [.fn (.func 83) [] [], .fn (.func 84) [] []]) :: R) (subF (by intro f; simp only [AV.cells, List.append_eq, List.map_cons, List.map_nil, List.sum_nil, List.map_append, List.sum_cons, List.sum_append, List.cons_append, List.nil_append, List.append_assoc, List.append_nil]; omega))
    refine WL.le (Sub1.cons rfl (Sub1.cons rfl (Sub1.cons rfl (Sub1.cons rfl (Sub1.cons rfl Sub1.nil))))) (WL.lessP s5 (ih _ (by omega) H5 (i + 1) _ b5 ?_ (by omega) rfl))
    rw [hu, List.take_succ_eq_append_getElem hlt]
    simp only [List.map_append, List.flatten_append, List.map_cons, List.map_nil, List.flatten_cons, List.flatten_nil, List.append_nil, List.append_assoc]
  · have hge : i = l.length := by
      have h0 := eq_of_ff ‹false = true ↔ cmpP BinOp.lss (Int.ofNat i) (Int.ofNat l.length)›
      simp [cmpP] at h0; omega
    rw [hge, List.take_length] at hu
    obtain ⟨H5, b5, s5⟩ := b2.less (R1 := R) (subF (by intro f; simp only [AV.cells, List.append_eq, List.map_cons, List.map_nil, List.sum_nil, List.map_append, List.sum_cons, List.sum_append, List.cons_append, List.nil_append, List.append_assoc, List.append_nil]; omega))
    exact ⟨trivial, [], rfl, H5, b5.heq (by rw [hu]; rfl), s5⟩
theorem shQ_len {r : List Fd} (h : shQ r) : (rowC r).length = 3 ∧ r.length ≤ 7 := by
  obtain ⟨a, b, c, rfl⟩ := h
  exact ⟨rfl, by simp⟩
theorem shQ_cell {r : List Fd} {H : HL} (h : shQ r) (at_ : ∀ f, f ∈ r → f.at B H) : allCell (rowC r) = true := by
  obtain ⟨a, b, c, rfl⟩ := h
  repeat' (first | exact ac0 | apply ac1)
  all_goals first | rfl | assumption
theorem fn29_ok {H : HL} : WF B tab (.func 29) [] H fun r H' => r = .agg [.fn (.func 85) [] [], .fn (.func 86) [] []] ∧ H' = H := by
  refine WF.lessP ?_
  refine WF.fn g29 rfl ?_
  repeat' (first
    | apply WOps.nil | apply WC.seq | apply WC.reg | apply WC.ret | (apply WOps.st; rfl; rfl; (first | exact tk0 | exact tk1 | exact tk2); rfl; (· repeat' (first | rfl | assumption | apply ac1)); rfl) | (apply WOps.alc; rfl; intro _) | (apply WOps.purG; rfl; (intro _; rfl)))
  exact ⟨trivial, [_], ⟨_, _, rfl, ⟨_, _, rfl, Ld.own Tk.head rfl, rfl⟩, rfl⟩, H, ⟨rfl, rfl⟩, subF (by intro f; simp only [AV.cells, List.append_eq, List.map_cons, List.map_nil, List.sum_nil, List.map_append, List.sum_cons, List.sum_append, List.cons_append, List.nil_append, List.append_assoc, List.append_nil]; omega)⟩
set_option maxHeartbeats 2000000 in
theorem put28_ok {H R : HL} {wp : Nat} {us : List Nat} {vl : AV} {l : List (List Fd)} (hv : SlIs B R vl 3 (l.map rowC)) (h64 : l.length ≤ 64) (ok : ∀ r, r ∈ l → shQ r ∧ rowOk r ∧ ∀ f, f ∈ r → f.at B R) (h : WrAt H wp us R) (hl : us.length ≤ 10000000) :
    WF B tab (.func 28) [.ptr ⟨false, wp, 0⟩, vl, .agg [.fn (.func 85) [] [], .fn (.func 86) [] []]] H fun _ H' => WrAt H' wp (us ++ rowsB l) R := by
  refine WF.lessP ?_
  refine WF.fn g28 rfl ?_
  have hn := numB_len (n := l.length) (by omega)
  refine WC.seq (WC.reg ?_)
  repeat' (first
    | apply WOps.nil | (apply WOps.bx; rfl; rfl; (· repeat' (first | rfl | assumption | apply ac1)); intro _))
  rename_i p5
  have b0 := h.cons (x := (p5, .row [.fn (.func 85) [] [], .fn (.func 86) [] []]))
  have hv5 : SlIs B ((p5, .row [.fn (.func 85) [] [], .fn (.func 86) [] []]) :: R) vl 3 (l.map rowC) := SlIs.cons hv
  refine WC.seq (WC.reg ?_)
  repeat' (first
    | apply WOps.nil | (apply WOps.lenS; rfl; rfl; exact b0.sl hv5) | (apply WOps.clA; rfl; rfl; exact int62_ok b0 (by rw [List.length_map]; omega) (by omega); intro _ H1 b1) | (apply WOps.purG; rfl; (intro _; rfl)))
  rw [List.length_map] at b1
  refine WC.seq (WC.reg ?_)
  repeat' (first
    | apply WOps.nil | apply WC.block | (apply WOps.lenS; rfl; rfl; exact b1.sl hv5) | (apply WOps.purG; rfl; (intro _; rfl)))
  rw [List.length_map]
  refine WC.loop ?_
  obtain ⟨i, hi⟩ : ∃ i : Nat, i = 0 := ⟨0, rfl⟩
  obtain ⟨u2, hu2⟩ : ∃ l' : List Nat, l' = us ++ numB l.length := ⟨_, rfl⟩
  refine WL.le (t' := [(0, .ptr ⟨false, wp, 0⟩), (5, .ptr ⟨false, p5, 0⟩), (12, vl), (13, .int .i64 (.ofNat l.length)), (14, .int .i64 (.ofNat i))]) (by subst hi; exact Sub1.cons rfl (Sub1.cons rfl (Sub1.cons rfl (Sub1.cons rfl (Sub1.cons rfl Sub1.nil))))) ?_
  have b2 : WrAt H1 wp u2 ((p5, .row [.fn (.func 85) [] [], .fn (.func 86) [] []]) :: R) := by subst hu2; exact b1
  have hu : u2 = us ++ (numB l.length ++ ((l.take i).map rowB).flatten) := by subst hi hu2; simp
  have hle : i ≤ l.length := by omega
  clear hi hu2 b1
  induction hk : l.length - i using Nat.strongRecOn generalizing i u2 H1 with | _ k ih => ?_
  apply WL.step
  repeat' (first
    | apply WOps.nil | apply WC.seq | apply WC.reg | apply WC.skip | apply WC.exit | apply WC.block | (apply WOps.cmp; rfl; rfl; rfl; rfl; intro _ _) | (apply WC.condA; rfl; all_goals (intro hb; try subst hb)))
  · have hlt : i < l.length := by
      have h0 := ‹true = true ↔ cmpP BinOp.lss (Int.ofNat i) (Int.ofNat l.length)›.1 rfl
      simp [cmpP] at h0; omega
    have hc : (l.map rowC)[i]? = some (rowC l[i]) := by rw [List.getElem?_map, List.getElem?_eq_getElem hlt]; rfl
    obtain ⟨o1, o2, o3⟩ := ok l[i] (List.getElem_mem hlt)
    obtain ⟨w1, w2⟩ := shQ_len o1
    have ca := shQ_cell o1 o3
    have hul : u2.length ≤ us.length + 9 + 64 * 5047 := by
      have h2 := rows_len (l := l.take i) fun r hr => ⟨(ok r (List.mem_of_mem_take hr)).2.1, (shQ_len (ok r (List.mem_of_mem_take hr)).1).2⟩
      rw [hu]; simp only [List.length_append, List.length_take] at h2 ⊢; omega
    repeat' (first
      | (apply WOps.alc; rfl; intro _) | (apply WOps.ixSl; rfl; rfl; rfl; exact b2.sl hv5; exact hc; intro ax hax) | (apply WOps.ldG; rfl; rfl; exact hax; rfl))
    rename_i p7
    refine WOps.st (v := .agg (rowC l[i])) (cs' := rowC l[i]) rfl rfl Tk.head w1 ca (put_all w1) ?_
    have b3 := b2.cons (x := (p7, .row (rowC l[i])))
    repeat' (first
      | apply WOps.nil | apply WC.reg | (apply WOps.ldG; rfl; rfl; exact b3.ld (Ld.cons (Ld.own Tk.head rfl)); rfl) | (apply WOps.ldG; rfl; rfl; exact Ld.own Tk.head (take_all w1); rfl) | (apply WOps.cvA; rfl; rfl; rfl; exact lay85_ok o1 o2 (fun f hf => Fd.at_cons (Fd.at_cons (o3 f hf))) b3 (by omega); intro _ H4 b4) | (apply WOps.addN; rfl; rfl; rfl; omega) | (apply WOps.purG; rfl; (intro _; rfl)))
    obtain ⟨H5, b5, s5⟩ := b4.less (R1 := (p5, .row [.fn (.func 85) [] [], .fn (.func 86) [] []]) :: R) (subF (by intro f; simp only [AV.cells, List.append_eq, List.map_cons, List.map_nil, List.sum_nil, List.map_append, List.sum_cons, List.sum_append, List.cons_append, List.nil_append, List.append_assoc, List.append_nil]; omega))
    refine WL.le (Sub1.cons rfl (Sub1.cons rfl (Sub1.cons rfl (Sub1.cons rfl (Sub1.cons rfl Sub1.nil))))) (WL.lessP s5 (ih _ (by omega) H5 (i + 1) _ b5 ?_ (by omega) rfl))
    rw [hu, List.take_succ_eq_append_getElem hlt]
    simp only [List.map_append, List.flatten_append, List.map_cons, List.map_nil, List.flatten_cons, List.flatten_nil, List.append_nil, List.append_assoc]
  · have hge : i = l.length := by
      have h0 := eq_of_ff ‹false = true ↔ cmpP BinOp.lss (Int.ofNat i) (Int.ofNat l.length)›
      simp [cmpP] at h0; omega
    rw [hge, List.take_length] at hu
    obtain ⟨H5, b5, s5⟩ := b2.less (R1 := R) (subF (by intro f; simp only [AV.cells, List.append_eq, List.map_cons, List.map_nil, List.sum_nil, List.map_append, List.sum_cons, List.sum_append, List.cons_append, List.nil_append, List.append_assoc, List.append_nil]; omega))
    exact ⟨trivial, [], rfl, H5, b5.heq (by rw [hu]; rfl), s5⟩
end Go.Proofs.Ytdcbglljljfleaa.DU
