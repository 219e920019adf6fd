/- What the functions do, shown by the logic. -/
import Derived.Test.YtdcbglljljfleaaDuA
set_option linter.unusedSimpArgs false
set_option linter.unusedVariables false
set_option linter.unusedSectionVars false
set_option maxRecDepth 20000
namespace Go.Proofs.Ytdcbglljljfleaa.DU
open Go.Proofs.Ytdcbglljljfleaa.Abs
variable {B : Nat → List AV}
theorem digs_zero : digs 0 = [] := by rw [digs]; rfl
theorem digs_pos {n : Nat} (h : 0 < n) : digs n = n % 256 :: digs (n / 256) := by rw [digs, dif_neg (by omega)]
theorem digs_len : ∀ (k n : Nat), n < 256 ^ k → (digs n).length ≤ k := by
  intro k
  induction k with
  | zero => intro n h; have : n = 0 := by omega
            rw [this, digs_zero]; simp
  | succ k ih =>
    intro n h
    rcases Nat.eq_zero_or_pos n with rfl | hp
    · rw [digs_zero]; simp
    · rw [digs_pos hp, List.length_cons]
      have := ih (n / 256) (by rw [Nat.pow_succ] at h; omega)
      omega
theorem digs_8 {n : Nat} (h : n < 18446744073709551616) : (digs n).length ≤ 8 := digs_len 8 n (by simpa using h)
theorem numB_len {n : Nat} (h : n < 18446744073709551616) : (numB n).length ≤ 9 := by
 have := digs_8 h
 simp only [numB, List.length_cons, List.length_reverse]; omega
theorem eq_of_ff {p : Prop} (h : false = true ↔ p) : ¬ p := fun k => by have := h.2 k; cases this
theorem cells_rep (n : Nat) (b : List Nat) : cellsOfStr (List.replicate n 0 ++ b) = List.replicate n (.int .u8 (.ofNat 0)) ++ cellsOfStr b := by
 rw [cells_str_app]
 congr 1
 induction n with
 | zero => rfl
 | succ n ih => rw [List.replicate_succ, List.replicate_succ]; simp only [cellsOfStr, ih]
theorem putN_at {a : List AV} {x y : AV} {b : List AV} {i : Nat} (h : a.length = i) : putN (a ++ x :: b) i [y] = some (a ++ y :: b) := by
 subst h
 unfold putN putAt
 have : Nat.ble (a.length + [y].length) (a ++ x :: b).length = true := by rw [Nat.ble_eq]; simp
 rw [this]
 simp only [forceL_eq]
 congr 1
 rw [List.take_left', List.drop_append]
 ·simp
 ·rfl
set_option maxHeartbeats 2000000 in
theorem num61_ok {H : HL} {vb : AV} {bl : List Nat} {n : Nat} (hb : SrcIs B H vb 1 bl.length (cellsOfStr bl)) (hn : n < 18446744073709551616) (hl : bl.length ≤ 100000000000000) :
  WF B tab (.func 61) [vb, .int .u64 (.ofNat n)] H fun r H' => ∃ h', OwnSl r (cellsOfStr (bl ++ numB n)) (bl ++ numB n).length 1 h' ∧ H' = h' ++ H := by
 refine WF.lessP ?_
 refine WF.fn g61 rfl ?_
 have h8 := digs_8 hn
 refine WC.seq (WC.reg ?_)
 repeat' (first
  | apply WOps.nil | (apply WOps.purG; rfl; (intro _; rfl)))
 refine WC.seq (WC.reg ?_)
 repeat' (first
  | apply WOps.nil | (apply WOps.alc; rfl; intro _))
 rename_i p5
 refine WC.seq (WC.reg ?_)
 repeat' (first
  | apply WOps.nil | (apply WOps.purG; rfl; (intro _; rfl)))
 refine WC.cut2 (X := Unit) (fun _ => [(0, vb), (5, .ptr ⟨false, p5, 0⟩), (6, .int .i64 (.ofNat (digs n).length))]) (fun _ => (p5, .row (cellsOfStr (List.replicate (8 - (digs n).length) 0 ++ (digs n).reverse))) :: H) (fun _ => True) ?_ ?_
 ·refine WC.seq (WC.reg ?_)
  repeat' (first
   | apply WOps.nil | apply WC.block | (apply WOps.purG; rfl; (intro _; rfl)))
  refine WC.loop ?_
  obtain ⟨x, hx⟩ : ∃ x : Nat, x = n := ⟨_, rfl⟩
  obtain ⟨pre, hpre⟩ : ∃ l : List Nat, l = [] := ⟨_, rfl⟩
  refine WL.le (t' := [(0, vb), (5, .ptr ⟨false, p5, 0⟩), (6, .int .i64 (.ofNat pre.length)), (7, .int .u64 (.ofNat x))]) (by subst hx hpre; exact Sub1.cons rfl (Sub1.cons rfl (Sub1.cons rfl (Sub1.cons rfl Sub1.nil)))) ?_
  refine WL.lessP (H1 := (p5, .row (cellsOfStr (List.replicate (8 - pre.length) 0 ++ pre.reverse))) :: H) (by subst hpre; exact SubP.refl) ?_
  have hp : pre ++ digs x = digs n := by subst hx hpre; rfl
  clear hx hpre
  induction x using Nat.strongRecOn generalizing pre with | _ x ih => ?_
  apply WL.step
  refine WC.seq (WC.seq (WC.reg ?_))
  repeat' (first
   | apply WOps.nil | apply WC.skip | apply WC.exit | (apply WOps.cmp; rfl; rfl; rfl; rfl; intro _ _) | (apply WOps.purG; rfl; (intro _; rfl)) | (apply WC.condA; rfl; all_goals (intro hb; try subst hb)))
  ·have hx : 0 < x := by
    have h0 := ‹true = true ↔ cmpP BinOp.gtr (Int.ofNat x) (Int.ofNat 0)›.1 rfl
    simpa [cmpP] using h0
   rw [digs_pos hx] at hp
   have hlen : pre.length + 1 ≤ 8 := by
    have := congrArg List.length hp
    rw [List.length_append, List.length_cons] at this; omega
   have hc : cellsOfStr (List.replicate (8 - pre.length) 0 ++ pre.reverse) = List.replicate (8 - (pre.length + 1)) (.int .u8 (.ofNat 0)) ++ (.int .u8 (.ofNat 0)) :: cellsOfStr pre.reverse := by
    rw [cells_rep, show 8 - pre.length = (8 - (pre.length + 1)) + 1 from by omega, List.replicate_succ']
    simp
   rw [hc]
   repeat' (first
    | apply WOps.nil | apply WC.seq | apply WC.reg | apply WC.block | (apply WOps.addN; rfl; rfl; rfl; omega) | (apply WOps.subN; rfl; rfl; rfl; omega; omega) | (apply WOps.cvB; rfl; rfl) | (apply WOps.ixA; rfl; rfl; omega) | (apply WOps.purG; rfl; (intro _; rfl)))
   refine WOps.st (v := .int .u8 (.ofNat (x % 256))) (id := p5) (off := 0 + (8 - (pre.length + 1)) * 1) (cs := List.replicate (8 - (pre.length + 1)) (.int .u8 (.ofNat 0)) ++ (.int .u8 (.ofNat 0)) :: cellsOfStr pre.reverse) (cs' := List.replicate (8 - (pre.length + 1)) (.int .u8 (.ofNat 0)) ++ (.int .u8 (.ofNat (x % 256))) :: cellsOfStr pre.reverse) rfl rfl Tk.head rfl rfl ?_ ?_
   ·exact putN_at (by rw [List.length_replicate]; omega)
   repeat' (first
    | apply WOps.nil | apply WC.reg | (apply WOps.shr8; rfl; rfl; rfl) | (apply WOps.purG; rfl; (intro _; rfl)))
   refine WL.le (t' := [(0, vb), (5, .ptr ⟨false, p5, 0⟩), (6, .int .i64 (.ofNat (pre ++ [x % 256]).length)), (7, .int .u64 (.ofNat (x / 256)))]) (by rw [List.length_append]; exact Sub1.cons rfl (Sub1.cons rfl (Sub1.cons rfl (Sub1.cons rfl Sub1.nil)))) ?_
   refine WL.heq (H' := (p5, .row (cellsOfStr (List.replicate (8 - (pre ++ [x % 256]).length) 0 ++ (pre ++ [x % 256]).reverse))) :: H) ?_ (ih (x / 256) (by omega) (pre ++ [x % 256]) (by rw [List.append_assoc]; exact hp))
   rw [cells_rep, List.reverse_append, List.length_append]
   rfl
  ·have hx : x = 0 := by
    have h0 := eq_of_ff ‹false = true ↔ cmpP BinOp.gtr (Int.ofNat x) (Int.ofNat 0)›
    simp [cmpP] at h0; omega
   rw [hx, digs_zero, List.append_nil] at hp
   subst hp
   exact ⟨(), Sub1.cons rfl (Sub1.cons rfl (Sub1.cons rfl Sub1.nil)), SubP.refl, trivial⟩
 intro _ _
 have cL : cellsOfStr (List.replicate (8 - (digs n).length) 0 ++ (digs n).reverse) = List.replicate (8 - (digs n).length) (.int .u8 (.ofNat 0)) ++ cellsOfStr (digs n).reverse := cells_rep _ _
 have lL : (cellsOfStr (List.replicate (8 - (digs n).length) 0 ++ (digs n).reverse)).length = 8 := by
  rw [cells_str_len, List.length_append, List.length_replicate, List.length_reverse]; omega
 generalize hrow : cellsOfStr (List.replicate (8 - (digs n).length) 0 ++ (digs n).reverse) = row at cL lL ⊢
 refine WC.seq (WC.reg ?_)
 repeat' (first
  | (apply WOps.bsl; rfl; (· repeat' (first | rfl | assumption | apply ac1)); intro _) | (apply WOps.purG; rfl; (intro _; rfl)))
 rename_i q
 refine WOps.app (h := [(q, .row [])]) (cells := []) (n := 0) rfl rfl rfl (.inr ⟨q, rfl, rfl, rfl⟩) (List.Perm.refl _) (src_cons (src_cons hb)) rfl (cells_of_str _) (by rw [cells_str_len, Nat.mul_one]) (by omega) ?_
 intro v1 h1 o1
 have o2 : OwnSl v1 (cellsOfStr bl) bl.length 1 h1 := by simpa using o1
 repeat' (first
  | (apply WOps.bsl; rfl; (· repeat' (first | rfl | assumption | apply ac1)); intro _) | (apply WOps.cvB; rfl; rfl) | (apply WOps.purG; rfl; (intro _; rfl)))
 rename_i q2
 have hd : (digs n).length % 256 = (digs n).length := Nat.mod_eq_of_lt (by omega)
 rw [hd]
 refine WOps.app (n := bl.length) rfl rfl rfl o2 (List.perm_append_comm_assoc [_] h1 _) (src_one Tk.head rfl) (cells_of_str _) rfl rfl (by omega) ?_
 intro v2 h2 o3
 repeat' (first
  | apply WOps.nil | (apply WOps.purG; rfl; (intro _; rfl)))
 refine WC.seq (WC.reg ?_)
 repeat' (first
  | (apply WOps.subN; rfl; rfl; rfl; omega; omega) | (apply WOps.purG; rfl; (intro _; rfl)))
 refine WOps.slAn (cs := row) (R := h2 ++ ([(q2, .row [.int .u8 (.ofNat (digs n).length)])] ++ H)) rfl rfl rfl ?_ (by omega) (by omega) ?_
 ·exact permF (by intro f; simp only [AV.cells, pm] <;> omega)
 have hsrc : SrcIs B (h2 ++ ([(q2, .row [.int .u8 (.ofNat (digs n).length)])] ++ ((p5, .row row) :: H))) (.sl ⟨false, p5, 0 + (8 - (digs n).length) * 1⟩ (8 - (8 - (digs n).length)) 1) 1 (digs n).length (cellsOfStr (digs n).reverse) := by
  rw [show 8 - (8 - (digs n).length) = (digs n).length from by omega]
  refine .inr ⟨_, rfl, .inr (Ld.right (Ld.right (Ld.own Tk.head ?_)))⟩
  rw [cL]
  rw [List.drop_append, List.drop_eq_nil_of_le (by simp), List.nil_append]
  simp only [List.length_replicate, Nat.zero_add, Nat.mul_one, Nat.sub_self, List.drop_zero]
  rw [takeN_of (by rw [cells_str_len, List.length_reverse]; exact Nat.le_refl _), List.take_of_length_le (by rw [cells_str_len, List.length_reverse]; exact Nat.le_refl _)]
 refine WOps.app (n := bl.length + 1) (m := (digs n).length) (h := h2) (R := [(q2, .row [.int .u8 (.ofNat (digs n).length)])] ++ ((p5, .row row) :: H)) (xs := cellsOfStr (digs n).reverse) rfl rfl rfl o3 (List.Perm.refl _) hsrc ?_ (cells_of_str _) ?_ ?_ ?_
 rotate_left
 ·rw [cells_str_len, List.length_reverse, Nat.mul_one]
 ·omega
 rotate_left
 ·rw [show cellsOfStr bl ++ [AV.int .u8 (.ofNat (digs n).length)] = cellsOfStr (bl ++ [(digs n).length]) from by rw [cells_str_app]; rfl]
  exact cells_of_str _
 intro v3 h3 o4
 repeat' (first
  | apply WOps.nil | apply WC.ret | (apply WOps.purG; rfl; (intro _; rfl)))
 refine ⟨trivial, [_], ⟨_, [], rfl, rfl, rfl⟩, _, ⟨h3, ?_, rfl⟩, subF (by intro f; simp only [AV.cells, pm] <;> omega)⟩
 have e1 : cellsOfStr (bl ++ numB n) = (cellsOfStr bl ++ [AV.int .u8 (.ofNat (digs n).length)]) ++ cellsOfStr (digs n).reverse := by
  rw [cells_str_app, List.append_assoc]; rfl
 have e2 : (bl ++ numB n).length = bl.length + 1 + (digs n).length := by
  simp only [numB, List.length_append, List.length_cons, List.length_reverse]; omega
 rw [e1, e2]
 exact o4
theorem own_app {v : AV} {a b : List Nat} {n : Nat} {h : HL} (o : OwnSl v (cellsOfStr a ++ cellsOfStr b) (a.length + n) 1 h) (e : b.length = n) : OwnSl v (cellsOfStr (a ++ b)) (a ++ b).length 1 h := by
 rw [cells_str_app, List.length_append, e]; exact o
theorem numB_zero : numB 0 = [0] := by simp [numB, digs_zero]
theorem numB_one : numB 1 = [1, 1] := by
 have : digs 1 = [1] := by rw [digs_pos (by omega)]; simp [digs_zero]
 simp [numB, this]
theorem textB_len {s : List Nat} (h : s.length ≤ 80) : (textB s).length ≤ 89 := by
 have := numB_len (n := s.length) (by omega)
 simp only [textB, List.length_append]; omega
theorem texts_len {l : List (List Nat)} (h : ∀ s, s ∈ l → s.length ≤ 80) : ((l.map textB).flatten).length ≤ l.length * 89 := by
 induction l with
 | nil => simp
 | cons s l ih =>
  have h1 := textB_len (h s List.mem_cons_self)
  have h2 := ih fun x hx => h x (List.mem_cons_of_mem _ hx)
  simp only [List.map_cons, List.flatten_cons, List.length_append, List.length_cons]; omega
theorem own_app2 {v : AV} {a b : List Nat} {h : HL} (o : OwnSl v (cellsOfStr a ++ cellsOfStr b) (a.length + b.length) 1 h) : OwnSl v (cellsOfStr (a ++ b)) (a ++ b).length 1 h := own_app o rfl
theorem WOps.cvL {T : Tr FnI} {t : EL} {H : HL} {Q : EL → HL → Prop} {os : List AOper} {k : Nat} {g : Option (Nat × Bool)} {x : AO} {m : Nat} (hg : wantedL g t = some true) (hx : gl t x = some (.int .i64 (.ofNat m))) (hm : m < 18446744073709551616)
  (w : WOps B T os ((k, .int .u64 (.ofNat m)) :: t) H Q) : WOps B T (⟨some k, .cvInt .u64 x, g⟩ :: os) t H Q := WOps.cvU hg hx hm w
theorem text94_ok {H : HL} {vb : AV} {bl s : List Nat} (hb : SrcIs B H vb 1 bl.length (cellsOfStr bl)) (hl : bl.length ≤ 10000000000000) (hs : s.length ≤ 10000000000000) :
  WF B tab (.func 94) [vb, .str s] H fun r H' => ∃ h', OwnSl r (cellsOfStr (bl ++ textB s)) (bl ++ textB s).length 1 h' ∧ H' = h' ++ H := by
 refine WF.fn g94 rfl ?_
 have hn := numB_len (n := s.length) (by omega)
 refine WC.seq (WC.reg ?_)
 repeat' (first
  | apply WOps.nil | (apply WOps.purG; rfl; (intro _; rfl)))
 refine WC.seq (WC.reg ?_)
 repeat' (first
  | (apply WOps.lenT; rfl; rfl) | (apply WOps.cvL; rfl; rfl; omega) | (apply WOps.clA; rfl; rfl; exact num61_ok hb (by omega) (by omega); rintro v1 _ ⟨h1, o1, rfl⟩) | (apply WOps.purG; rfl; (intro _; rfl)))
 refine WOps.appT (n := (bl ++ numB s.length).length) rfl rfl rfl o1 (List.Perm.refl _) (cells_of_str _) (by rw [List.length_append]; omega) ?_
 intro v2 h2 o2
 repeat' (first
  | apply WOps.nil | apply WC.ret | (apply WOps.purG; rfl; (intro _; rfl)))
 refine ⟨trivial, [_], ⟨_, [], rfl, rfl, rfl⟩, h2, ?_, rfl⟩
 have := own_app2 o2
 rw [List.append_assoc] at this
 exact this
theorem flag102_ok {H : HL} {vb : AV} {bl : List Nat} {b : Bool} (hb : SrcIs B H vb 1 bl.length (cellsOfStr bl)) (hl : bl.length ≤ 10000000000000) :
  WF B tab (.func 102) [vb, .bool b] H fun r H' => ∃ h', OwnSl r (cellsOfStr (bl ++ flagB b)) (bl ++ flagB b).length 1 h' ∧ H' = h' ++ H := by
 refine WF.fn g102 rfl ?_
 cases b
 ·repeat' (first
   | apply WOps.nil | apply WC.seq | apply WC.reg | apply WC.skip | apply WC.ret | (apply WC.condF; rfl) | (apply WOps.clA; rfl; rfl; exact num61_ok hb (by omega) (by omega); rintro v1 _ ⟨h1, o1, rfl⟩) | (apply WOps.purG; rfl; (intro _; rfl)))
  rw [numB_zero] at o1
  exact ⟨trivial, [_], ⟨_, [], rfl, rfl, rfl⟩, h1, o1, rfl⟩
 ·repeat' (first
   | apply WOps.nil | apply WC.seq | apply WC.reg | apply WC.ret | (apply WC.condT; rfl) | (apply WOps.clA; rfl; rfl; exact num61_ok hb (by omega) (by omega); rintro v1 _ ⟨h1, o1, rfl⟩) | (apply WOps.purG; rfl; (intro _; rfl)))
  rw [numB_one] at o1
  exact ⟨trivial, [_], ⟨_, [], rfl, rfl, rfl⟩, h1, o1, rfl⟩
set_option maxHeartbeats 1000000 in
theorem texts96_ok {H : HL} {vb vl : AV} {bl : List Nat} {l : List (List Nat)} (hb : SrcIs B H vb 1 bl.length (cellsOfStr bl)) (hl : bl.length ≤ 10000000000) (hv : SlIs B H vl 1 (l.map strC)) (h8 : l.length ≤ 8) (h80 : ∀ s, s ∈ l → s.length ≤ 80) :
  WF B tab (.func 96) [vb, vl] H fun r H' => ∃ h', OwnSl r (cellsOfStr (bl ++ textsB l)) (bl ++ textsB l).length 1 h' ∧ H' = h' ++ H := by
 have L : WF B tab (.func 103) [vb, vl, .fn (.func 94) [] []] H fun r H' => ∃ h', OwnSl r (cellsOfStr (bl ++ textsB l)) (bl ++ textsB l).length 1 h' ∧ H' = h' ++ H := by
  refine WF.lessP ?_
  refine WF.fn g103 rfl ?_
  have hn := numB_len (n := l.length) (by omega)
  refine WC.seq (WC.reg ?_)
  repeat' (first
   | apply WOps.nil | (apply WOps.purG; rfl; (intro _; rfl)))
  refine WC.seq (WC.reg ?_)
  repeat' (first
   | apply WOps.nil | (apply WOps.lenS; rfl; rfl; exact hv) | (apply WOps.cvL; rfl; rfl; rw [List.length_map]; omega) | (apply WOps.clA; rfl; rfl; exact num61_ok hb (by rw [List.length_map]; omega) (by omega); rintro v1 _ ⟨h1, o1, rfl⟩) | (apply WOps.purG; rfl; (intro _; rfl)))
  rw [List.length_map] at o1
  refine WC.seq (WC.seq (WC.reg ?_))
  repeat' (first
   | apply WOps.nil | apply WC.block | (apply WOps.lenS; rfl; rfl; exact SlIs.right hv) | (apply WOps.purG; rfl; (intro _; rfl)))
  rw [List.length_map]
  refine WC.loop ?_
  obtain ⟨i, hi⟩ : ∃ i : Nat, i = 0 := ⟨0, rfl⟩
  obtain ⟨w, hw⟩ : ∃ v, v = v1 := ⟨_, rfl⟩
  obtain ⟨us, hus⟩ : ∃ l' : List Nat, l' = bl ++ numB l.length := ⟨_, rfl⟩
  obtain ⟨hx, hhx⟩ : ∃ h : HL, h = h1 := ⟨_, rfl⟩
  refine WL.le (t' := [(2, .fn (.func 94) [] []), (7, w), (15, vl), (16, .int .i64 (.ofNat l.length)), (17, .int .i64 (.ofNat i))]) (by subst hi hw; exact Sub1.cons rfl (Sub1.cons rfl (Sub1.cons rfl (Sub1.cons rfl (Sub1.cons rfl Sub1.nil))))) ?_
  refine WL.heq (H' := hx ++ H) (by subst hhx; rfl) ?_
  have o : OwnSl w (cellsOfStr us) us.length 1 hx := by subst hw hus hhx; exact o1
  have hu : us = bl ++ (numB l.length ++ ((l.take i).map textB).flatten) := by subst hi hus; simp
  have hle : i ≤ l.length := by omega
  clear hi hw hus hhx o1
  induction hk : l.length - i using Nat.strongRecOn generalizing i w us hx with | _ k ih => ?_
  apply WL.step
  repeat' (first
   | apply WOps.nil | apply WC.seq | apply WC.reg | apply WC.skip | apply WC.ret | apply WC.exit | apply WC.block | (apply WOps.cmp; rfl; rfl; rfl; rfl; intro _ _) | (apply WOps.purG; rfl; (intro _; rfl)) | (apply WC.condA; rfl; all_goals (intro hb; try subst hb)))
  ·have hlt : i < l.length := by
    have h0 := ‹true = true ↔ cmpP BinOp.lss (Int.ofNat i) (Int.ofNat l.length)›.1 rfl
    simp [cmpP] at h0; omega
   have hc : (l.map strC)[i]? = some (strC l[i]) := by rw [List.getElem?_map, List.getElem?_eq_getElem hlt]; rfl
   have h8i := h80 l[i] (List.getElem_mem hlt)
   have hul : us.length ≤ bl.length + 9 + 8 * 89 := by
    have h2 := texts_len (l := l.take i) fun s hs => h80 s (List.mem_of_mem_take hs)
    rw [hu]; simp only [List.length_append, List.length_take] at h2 ⊢; omega
   repeat' (first
    | apply WOps.nil | apply WC.reg | (apply WOps.ixSl; rfl; rfl; rfl; exact SlIs.right hv; exact hc; intro ax hax) | (apply WOps.ldG; rfl; rfl; exact hax; rfl) | (apply WOps.cvA; rfl; rfl; rfl; exact text94_ok (SrcIs.left (own_src o)) (by omega) (by omega); rintro v2 _ ⟨h2, o2, rfl⟩) | (apply WOps.addN; rfl; rfl; rfl; omega) | (apply WOps.purG; rfl; (intro _; rfl)))
   refine WL.le (Sub1.cons rfl (Sub1.cons rfl (Sub1.cons rfl (Sub1.cons rfl (Sub1.cons rfl Sub1.nil))))) (WL.lessP (H1 := h2 ++ H) (subF (by intro f; simp only [AV.cells, pm] <;> omega)) (ih _ (by omega) (i + 1) v2 (us ++ textB l[i]) h2 o2 ?_ (by omega) rfl))
   rw [hu, List.take_succ_eq_append_getElem hlt]
   simp only [List.map_append, List.flatten_append, List.map_cons, List.map_nil, List.flatten_cons, List.flatten_nil, List.append_nil, List.append_assoc]
  ·have hge : i = l.length := by
    have h0 := eq_of_ff ‹false = true ↔ cmpP BinOp.lss (Int.ofNat i) (Int.ofNat l.length)›
    simp [cmpP] at h0; omega
   rw [hge, List.take_length] at hu
   repeat' (first
    | apply WOps.nil | apply WC.seq | apply WC.reg | apply WC.skip | apply WC.ret | apply WC.exit | (apply WC.condT; rfl) | (apply WC.condF; rfl) | apply WC.block | (apply WOps.ldG; rfl; rfl; (first | exact ld0 rfl | exact ld1 rfl | exact ld2 rfl); rfl) | (apply WOps.cmp; rfl; rfl; rfl; rfl; intro _ _) | (apply WOps.cmpT; rfl; rfl; rfl; rfl; intro _ _) | (apply WOps.purG; rfl; (intro _; rfl)) | (apply WC.condA; rfl; all_goals (intro hb; try subst hb)))
   exact ⟨trivial, [_], ⟨_, [], rfl, rfl, rfl⟩, _, ⟨hx, by rw [hu] at o; exact o, rfl⟩, SubP.refl⟩
 refine WF.fn g96 rfl ?_
 repeat' (first
  | apply WOps.nil | apply WC.seq | apply WC.reg | apply WC.ret | (apply WOps.clA; rfl; rfl; exact L; rintro v1 _ ⟨h1, o1, rfl⟩) | (apply WOps.purG; rfl; (intro _; rfl)))
 exact ⟨trivial, [_], ⟨_, [], rfl, rfl, rfl⟩, h1, o1, rfl⟩
theorem nil_src {H : HL} : SrcIs B H .nilsl 1 ([] : List Nat).length (cellsOfStr []) := .inl ⟨rfl, rfl, rfl⟩
set_option maxHeartbeats 1000000 in
theorem num15_ok {H R : HL} {wp : Nat} {us : List Nat} {n : Nat} (h : WrAt H wp us R) (hn : n < 18446744073709551616) (hl : us.length ≤ 10000000000) :
  WF B tab (.func 15) [.ptr ⟨false, wp, 0⟩, .int .u64 (.ofNat n)] H fun _ H' => WrAt H' wp (us ++ numB n) R := by
 obtain ⟨v, hv, o, p⟩ := h
 refine WF.perm p (WF.lessP ?_)
 refine WF.fn g15 rfl ?_
 have hb : (numB n).length ≤ 100000000 := by have := numB_len hn; omega
 have L : Ld B ((wp, .row [v]) :: (hv ++ R)) ⟨false, wp, 0⟩ 1 [v] := Ld.own Tk.head rfl
 repeat' (first
  | apply WC.dreg | (apply WD.clA; rfl; rfl; exact num61_ok (bl := []) nil_src hn (by simp); rintro v1 _ ⟨h1, o1, rfl⟩) | (apply WD.load; rfl; · repeat' (first | refine at1 ?_ rfl | apply at2 | exact same0 | refine same1 ?_ rfl | apply same2 | exact rd_ld rfl ((by first | exact L | exact Ld.right L)) rfl)) | (apply WD.pur; rfl; (intro _; rfl)))
 rw [List.nil_append] at o1
 refine WD.app (h := hv) (R := h1 ++ ((wp, .row [v]) :: R)) (cells := cellsOfStr us) (n := us.length) (m := (numB n).length) (xs := cellsOfStr (numB n)) rfl rfl rfl o ?_ (SrcIs.left (own_src o1)) (cells_of_str _) (cells_of_str _) (by rw [cells_str_len, Nat.mul_one]) (by omega) ?_
 ·exact permF (by intro f; simp only [AV.cells, pm] <;> omega)
 intro v2 h2 o2
 repeat' (first
  | (apply WD.pur; rfl; (intro _; rfl)))
 apply WD.st (cs := [v]) (cs' := [v2]) (id := wp) (R := h2 ++ (h1 ++ R))
 ·rfl
 ·rfl
 ·rfl
 ·exact permF (by intro f; simp only [AV.cells, pm] <;> omega)
 ·rw [o2.cells]; rfl
 ·rw [o2.cells]; exact allCell_cons o2.cell allCell_nil
 ·rw [o2.cells]; rfl
 repeat' (first
  | apply WD.nil)
 exact ⟨trivial, [], rfl, (wp, .row [v2]) :: (h2 ++ R), ⟨v2, h2, own_app2 o2, List.Perm.refl _⟩, subF (by intro f; simp only [AV.cells, pm] <;> omega)⟩
set_option maxHeartbeats 1000000 in
theorem text64_ok {H R : HL} {wp : Nat} {us : List Nat} {s : List Nat} (h : WrAt H wp us R) (hs : s.length ≤ 80) (hl : us.length ≤ 10000000000) :
  WF B tab (.func 64) [.ptr ⟨false, wp, 0⟩, .str s] H fun _ H' => WrAt H' wp (us ++ textB s) R := by
 obtain ⟨v, hv, o, p⟩ := h
 refine WF.perm p (WF.lessP ?_)
 refine WF.fn g64 rfl ?_
 have hb : (textB s).length ≤ 100000000 := by have := textB_len hs; omega
 have L : Ld B ((wp, .row [v]) :: (hv ++ R)) ⟨false, wp, 0⟩ 1 [v] := Ld.own Tk.head rfl
 repeat' (first
  | apply WC.dreg | (apply WD.clA; rfl; rfl; exact text94_ok (bl := []) nil_src (by simp) (by omega); rintro v1 _ ⟨h1, o1, rfl⟩) | (apply WD.load; rfl; · repeat' (first | refine at1 ?_ rfl | apply at2 | exact same0 | refine same1 ?_ rfl | apply same2 | exact rd_ld rfl ((by first | exact L | exact Ld.right L)) rfl)) | (apply WD.pur; rfl; (intro _; rfl)))
 rw [List.nil_append] at o1
 refine WD.app (h := hv) (R := h1 ++ ((wp, .row [v]) :: R)) (cells := cellsOfStr us) (n := us.length) (m := (textB s).length) (xs := cellsOfStr (textB s)) rfl rfl rfl o ?_ (SrcIs.left (own_src o1)) (cells_of_str _) (cells_of_str _) (by rw [cells_str_len, Nat.mul_one]) (by omega) ?_
 ·exact permF (by intro f; simp only [AV.cells, pm] <;> omega)
 intro v2 h2 o2
 repeat' (first
  | (apply WD.pur; rfl; (intro _; rfl)))
 apply WD.st (cs := [v]) (cs' := [v2]) (id := wp) (R := h2 ++ (h1 ++ R))
 ·rfl
 ·rfl
 ·rfl
 ·exact permF (by intro f; simp only [AV.cells, pm] <;> omega)
 ·rw [o2.cells]; rfl
 ·rw [o2.cells]; exact allCell_cons o2.cell allCell_nil
 ·rw [o2.cells]; rfl
 repeat' (first
  | apply WD.nil)
 exact ⟨trivial, [], rfl, (wp, .row [v2]) :: (h2 ++ R), ⟨v2, h2, own_app2 o2, List.Perm.refl _⟩, subF (by intro f; simp only [AV.cells, pm] <;> omega)⟩
set_option maxHeartbeats 1000000 in
theorem flag78_ok {H R : HL} {wp : Nat} {us : List Nat} {b : Bool} (h : WrAt H wp us R)  (hl : us.length ≤ 10000000000) :
  WF B tab (.func 78) [.ptr ⟨false, wp, 0⟩, .bool b] H fun _ H' => WrAt H' wp (us ++ flagB b) R := by
 obtain ⟨v, hv, o, p⟩ := h
 refine WF.perm p (WF.lessP ?_)
 refine WF.fn g78 rfl ?_
 have hb : (flagB b).length ≤ 100000000 := by cases b <;> simp [flagB]
 have L : Ld B ((wp, .row [v]) :: (hv ++ R)) ⟨false, wp, 0⟩ 1 [v] := Ld.own Tk.head rfl
 repeat' (first
  | apply WC.dreg | (apply WD.clA; rfl; rfl; exact flag102_ok (bl := []) nil_src (by simp); rintro v1 _ ⟨h1, o1, rfl⟩) | (apply WD.load; rfl; · repeat' (first | refine at1 ?_ rfl | apply at2 | exact same0 | refine same1 ?_ rfl | apply same2 | exact rd_ld rfl ((by first | exact L | exact Ld.right L)) rfl)) | (apply WD.pur; rfl; (intro _; rfl)))
 rw [List.nil_append] at o1
 refine WD.app (h := hv) (R := h1 ++ ((wp, .row [v]) :: R)) (cells := cellsOfStr us) (n := us.length) (m := (flagB b).length) (xs := cellsOfStr (flagB b)) rfl rfl rfl o ?_ (SrcIs.left (own_src o1)) (cells_of_str _) (cells_of_str _) (by rw [cells_str_len, Nat.mul_one]) (by omega) ?_
 ·exact permF (by intro f; simp only [AV.cells, pm] <;> omega)
 intro v2 h2 o2
 repeat' (first
  | (apply WD.pur; rfl; (intro _; rfl)))
 apply WD.st (cs := [v]) (cs' := [v2]) (id := wp) (R := h2 ++ (h1 ++ R))
 ·rfl
 ·rfl
 ·rfl
 ·exact permF (by intro f; simp only [AV.cells, pm] <;> omega)
 ·rw [o2.cells]; rfl
 ·rw [o2.cells]; exact allCell_cons o2.cell allCell_nil
 ·rw [o2.cells]; rfl
 repeat' (first
  | apply WD.nil)
 exact ⟨trivial, [], rfl, (wp, .row [v2]) :: (h2 ++ R), ⟨v2, h2, own_app2 o2, List.Perm.refl _⟩, subF (by intro f; simp only [AV.cells, pm] <;> omega)⟩
set_option maxHeartbeats 1000000 in
theorem texts71_ok {H R : HL} {wp : Nat} {us : List Nat} {vl : AV} {l : List (List Nat)} (h : WrAt H wp us R) (hv : SlIs B H vl 1 (l.map strC)) (h8 : l.length ≤ 8) (h80 : ∀ s, s ∈ l → s.length ≤ 80) (hl : us.length ≤ 10000000000) :
  WF B tab (.func 71) [.ptr ⟨false, wp, 0⟩, vl] H fun _ H' => WrAt H' wp (us ++ textsB l) R := by
 obtain ⟨v, hh, o, p⟩ := h
 have hv := SlIs.perm p.symm hv
 refine WF.perm p (WF.lessP ?_)
 refine WF.fn g71 rfl ?_
 have hb : (textsB l).length ≤ 100000000 := by have h1 := texts_len h80; have h2 := numB_len (n := l.length) (by omega); simp only [textsB, List.length_append]; omega
 have L : Ld B ((wp, .row [v]) :: (hh ++ R)) ⟨false, wp, 0⟩ 1 [v] := Ld.own Tk.head rfl
 repeat' (first
  | apply WC.dreg | (apply WD.clA; rfl; rfl; exact texts96_ok (bl := []) nil_src (by simp) hv h8 h80; rintro v1 _ ⟨h1, o1, rfl⟩) | (apply WD.load; rfl; · repeat' (first | refine at1 ?_ rfl | apply at2 | exact same0 | refine same1 ?_ rfl | apply same2 | exact rd_ld rfl ((by first | exact L | exact Ld.right L)) rfl)) | (apply WD.pur; rfl; (intro _; rfl)))
 rw [List.nil_append] at o1
 refine WD.app (h := hh) (R := h1 ++ ((wp, .row [v]) :: R)) (cells := cellsOfStr us) (n := us.length) (m := (textsB l).length) (xs := cellsOfStr (textsB l)) rfl rfl rfl o ?_ (SrcIs.left (own_src o1)) (cells_of_str _) (cells_of_str _) (by rw [cells_str_len, Nat.mul_one]) (by omega) ?_
 ·exact permF (by intro f; simp only [AV.cells, pm] <;> omega)
 intro v2 h2 o2
 repeat' (first
  | (apply WD.pur; rfl; (intro _; rfl)))
 apply WD.st (cs := [v]) (cs' := [v2]) (id := wp) (R := h2 ++ (h1 ++ R))
 ·rfl
 ·rfl
 ·rfl
 ·exact permF (by intro f; simp only [AV.cells, pm] <;> omega)
 ·rw [o2.cells]; rfl
 ·rw [o2.cells]; exact allCell_cons o2.cell allCell_nil
 ·rw [o2.cells]; rfl
 repeat' (first
  | apply WD.nil)
 exact ⟨trivial, [], rfl, (wp, .row [v2]) :: (h2 ++ R), ⟨v2, h2, own_app2 o2, List.Perm.refl _⟩, subF (by intro f; simp only [AV.cells, pm] <;> omega)⟩
theorem int62_ok {H R : HL} {wp n : Nat} {us : List Nat} (h : WrAt H wp us R) (hn : n < 9223372036854775808) (hl : us.length ≤ 10000000000) :
  WF B tab (.func 62) [.ptr ⟨false, wp, 0⟩, .int .i64 (.ofNat n)] H fun _ H' => WrAt H' wp (us ++ numB n) R := by
 refine WF.fn g62 rfl ?_
 repeat' (first
  | apply WOps.nil | apply WC.reg | (apply WOps.cvL; rfl; rfl; omega) | (apply WOps.clA; rfl; rfl; exact num15_ok h (by omega) hl; intro _ H1 h1) | (apply WOps.purG; rfl; (intro _; rfl)))
 exact ⟨trivial, [], rfl, h1⟩
theorem ends65_ok {H R : HL} {wp a b : Nat} {us : List Nat} (h : WrAt H wp us R) (ha : a < 18446744073709551616) (hb : b < 18446744073709551616) (hl : us.length ≤ 1000000000) :
  WF B tab (.func 65) [.ptr ⟨false, wp, 0⟩, .int .u64 (.ofNat a), .int .u64 (.ofNat b)] H fun _ H' => WrAt H' wp (us ++ (numB a ++ numB b)) R := by
 refine WF.fn g65 rfl ?_
 have l1 := numB_len ha
 repeat' (first
  | apply WOps.nil | apply WC.seq | apply WC.reg | (apply WOps.clA; rfl; rfl; exact num15_ok h ha (by omega); intro _ H1 h1) | (apply WOps.clA; rfl; rfl; exact num15_ok h1 hb (by rw [List.length_append]; omega); intro _ H2 h2) | (apply WOps.purG; rfl; (intro _; rfl)))
 exact ⟨trivial, [], rfl, h2.heq (by rw [List.append_assoc])⟩
def rowB (r : List Fd) : List Nat := (r.map Fd.bytes).flatten
def rowOk (r : List Fd) : Prop := ∀ f, f ∈ r → f.wf ∧ f.right
theorem bytes_len {f : Fd} (w : f.wf) (r : f.right) : f.bytes.length ≤ 721 := by
 cases f with
 | int n m => have := numB_len (n := n.toNat) (by simp only [Fd.right, Fd.wf, Int.ofNat_eq_natCast] at r w; omega); simp only [Fd.bytes]; omega
 | num n => have := numB_len (n := n) w; simp only [Fd.bytes]; omega
 | u32 n => have := numB_len (n := n) (by simp only [Fd.wf] at w; omega); simp only [Fd.bytes]; omega
 | txt s => have := textB_len r; simp only [Fd.bytes]; omega
 | flg b => cases b <;> simp [Fd.bytes, flagB]
 | txs v l =>
  have h1 := texts_len r.2
  have h2 := numB_len (n := l.length) (by have := r.1; omega)
  have h3 := r.1
  simp only [Fd.bytes, textsB, List.length_append]; omega
theorem rowB_len {r : List Fd} (h : rowOk r) : (rowB r).length ≤ r.length * 721 := by
 induction r with
 | nil => simp [rowB]
 | cons f r ih =>
  have h1 := bytes_len (h f List.mem_cons_self).1 (h f List.mem_cons_self).2
  have h2 := ih fun x hx => h x (List.mem_cons_of_mem _ hx)
  unfold rowB at *
  simp only [List.map_cons, List.flatten_cons, List.length_append, List.length_cons]; omega
def rowsB (l : List (List Fd)) : List Nat := numB l.length ++ (l.map rowB).flatten
theorem rows_len {l : List (List Fd)} (h : ∀ r, r ∈ l → rowOk r ∧ r.length ≤ 7) : ((l.map rowB).flatten).length ≤ l.length * 5047 := by
 induction l with
 | nil => simp
 | cons s l ih =>
  have h0 := h s List.mem_cons_self
  have h1 := rowB_len h0.1
  have h2 := ih fun x hx => h x (List.mem_cons_of_mem _ hx)
  simp only [List.map_cons, List.flatten_cons, List.length_append, List.length_cons]; omega
theorem rowsB_len {l : List (List Fd)} (h : ∀ r, r ∈ l → rowOk r ∧ r.length ≤ 7) (h64 : l.length ≤ 64) : (rowsB l).length ≤ 323017 := by
 have h1 := rows_len h
 have h2 := numB_len (n := l.length) (by omega)
 simp only [rowsB, List.length_append]; omega
set_option maxHeartbeats 2000000 in
theorem lay63_ok {H R : HL} {wp : Nat} {us : List Nat} {r : List Fd} (sh : shN r) (ok : rowOk r) (at_ : ∀ f, f ∈ r → f.at B R) (h : WrAt H wp us R) (hl : us.length ≤ 100000000) :
  WF B tab (.func 63) ([] ++ ([.ptr ⟨false, wp, 0⟩, .agg (rowC r)] ++ [])) H fun _ H' => WrAt H' wp (us ++ rowB r) R := by
 obtain ⟨a, b, c, d, rfl⟩ := sh
 obtain ⟨wa, ra⟩ := ok _ (List.Mem.head _)
 obtain ⟨na, ea⟩ : ∃ n : Nat, a = .ofNat n := ⟨a.toNat, by simp only [Fd.right] at ra; simp only [Int.ofNat_eq_natCast]; omega⟩
 subst ea
 have la : na < 65536 := by simp only [Fd.right, Fd.wf, Int.ofNat_eq_natCast] at ra wa; omega
 obtain ⟨wb, rb⟩ := ok _ (.tail _ (List.Mem.head _))
 obtain ⟨wc, rc⟩ := ok _ (.tail _ (.tail _ (List.Mem.head _)))
 obtain ⟨wd, rd⟩ := ok _ (.tail _ (.tail _ (.tail _ (List.Mem.head _))))
 have qa := numB_len (n := na) (by omega)
 have qb := textB_len (s := b) rb
 have qc := numB_len (n := c) (by simp only [Fd.wf] at *; omega)
 have qd := numB_len (n := d) (by simp only [Fd.wf] at *; omega)
 refine WF.lessP ?_
 refine WF.fn g63 rfl ?_
 refine WC.seq (WC.reg ?_)
 repeat' (first
  | apply WOps.nil | (apply WOps.bx; rfl; rfl; (· repeat' (first | rfl | assumption | apply ac1)); intro _))
 rename_i p3
 have b0 := h.cons (x := (p3, .row (rowC [.int (.ofNat na) 255, .txt b, .num c, .num d])))
 have lp : ∀ {G : HL} {n o l}, takeN ((rowC [.int (.ofNat na) 255, .txt b, .num c, .num d]).drop o) n = some l → Ld B ((p3, .row (rowC [.int (.ofNat na) 255, .txt b, .num c, .num d])) :: R) ⟨false, p3, o⟩ n l := fun e => Ld.own Tk.head e
 repeat' (first
  | apply WOps.nil | apply WC.seq | apply WC.reg | (apply WOps.ldG; rfl; rfl; (first | exact ld0 rfl | exact ld1 rfl | exact ld2 rfl); rfl) | (apply WOps.ldG; rfl; rfl; exact (by first | exact b0.ld (Ld.own Tk.head rfl) | exact b1.ld (Ld.own Tk.head rfl) | exact b2.ld (Ld.own Tk.head rfl) | exact b3.ld (Ld.own Tk.head rfl)); rfl) | (apply WOps.clA; rfl; rfl; exact int62_ok b0 (n := na) (by omega) (by first | omega | (simp only [List.length_append]; omega)); intro _ H1 b1) | (apply WOps.clA; rfl; rfl; exact text64_ok b1 rb (by first | omega | (simp only [List.length_append]; omega)); intro _ H2 b2) | (apply WOps.clA; rfl; rfl; exact ends65_ok b2 wc wd (by first | omega | (simp only [List.length_append]; omega)); intro _ H3 b3) | (apply WOps.purG; rfl; (intro _; rfl)))
 obtain ⟨H9, b9, s9⟩ := b3.less (R1 := R) (subF (by intro f; simp only [AV.cells, pm] <;> omega))
 exact ⟨trivial, [], rfl, H9, b9.heq (by simp [rowB, Fd.bytes]), s9⟩
set_option maxHeartbeats 2000000 in
theorem lay70_ok {H R : HL} {wp : Nat} {us : List Nat} {r : List Fd} (sh : shS r) (ok : rowOk r) (at_ : ∀ f, f ∈ r → f.at B R) (h : WrAt H wp us R) (hl : us.length ≤ 100000000) :
  WF B tab (.func 70) ([] ++ ([.ptr ⟨false, wp, 0⟩, .agg (rowC r)] ++ [])) H fun _ H' => WrAt H' wp (us ++ rowB r) R := by
 obtain ⟨a, b, c, vd, d, e, f, g, rfl⟩ := sh
 obtain ⟨wa, ra⟩ := ok _ (List.Mem.head _)
 obtain ⟨na, ea⟩ : ∃ n : Nat, a = .ofNat n := ⟨a.toNat, by simp only [Fd.right] at ra; simp only [Int.ofNat_eq_natCast]; omega⟩
 subst ea
 have la : na < 65536 := by simp only [Fd.right, Fd.wf, Int.ofNat_eq_natCast] at ra wa; omega
 obtain ⟨wb, rb⟩ := ok _ (.tail _ (List.Mem.head _))
 obtain ⟨wc, rc⟩ := ok _ (.tail _ (.tail _ (List.Mem.head _)))
 obtain ⟨wd, rd⟩ := ok _ (.tail _ (.tail _ (.tail _ (List.Mem.head _))))
 obtain ⟨we, re⟩ := ok _ (.tail _ (.tail _ (.tail _ (.tail _ (List.Mem.head _)))))
 obtain ⟨ne, ee⟩ : ∃ n : Nat, e = .ofNat n := ⟨e.toNat, by simp only [Fd.right] at re; simp only [Int.ofNat_eq_natCast]; omega⟩
 subst ee
 have le : ne < 65536 := by simp only [Fd.right, Fd.wf, Int.ofNat_eq_natCast] at re we; omega
 obtain ⟨wf, rf⟩ := ok _ (.tail _ (.tail _ (.tail _ (.tail _ (.tail _ (List.Mem.head _))))))
 obtain ⟨wg, rg⟩ := ok _ (.tail _ (.tail _ (.tail _ (.tail _ (.tail _ (.tail _ (List.Mem.head _)))))))
 have qa := numB_len (n := na) (by omega)
 have qb := textB_len (s := b) rb
 have qc := textB_len (s := c) rc
 have qd : (textsB d).length ≤ 721 := bytes_len (f := .txs vd d) wd rd
 have qe := numB_len (n := ne) (by omega)
 have qf := numB_len (n := f) (by simp only [Fd.wf] at *; omega)
 have qg := numB_len (n := g) (by simp only [Fd.wf] at *; omega)
 have tg : SlIs B R vd 1 (d.map strC) := at_ _ (.tail _ (.tail _ (.tail _ (List.Mem.head _))))
 have ct := tg.cell
 refine WF.lessP ?_
 refine WF.fn g70 rfl ?_
 refine WC.seq (WC.reg ?_)
 repeat' (first
  | apply WOps.nil | (apply WOps.bx; rfl; rfl; (· repeat' (first | rfl | assumption | apply ac1)); intro _))
 rename_i p3
 have b0 := h.cons (x := (p3, .row (rowC [.int (.ofNat na) 255, .txt b, .txt c, .txs vd d, .int (.ofNat ne) 65535, .num f, .num g])))
 have lp : ∀ {G : HL} {n o l}, takeN ((rowC [.int (.ofNat na) 255, .txt b, .txt c, .txs vd d, .int (.ofNat ne) 65535, .num f, .num g]).drop o) n = some l → Ld B ((p3, .row (rowC [.int (.ofNat na) 255, .txt b, .txt c, .txs vd d, .int (.ofNat ne) 65535, .num f, .num g])) :: R) ⟨false, p3, o⟩ n l := fun e => Ld.own Tk.head e
 repeat' (first
  | apply WOps.nil | apply WC.seq | apply WC.reg | (apply WOps.ldG; rfl; rfl; (first | exact ld0 rfl | exact ld1 rfl | exact ld2 rfl); rfl) | (apply WOps.ldG; rfl; rfl; exact (by first | exact b0.ld (Ld.own Tk.head rfl) | exact b1.ld (Ld.own Tk.head rfl) | exact b2.ld (Ld.own Tk.head rfl) | exact b3.ld (Ld.own Tk.head rfl) | exact b4.ld (Ld.own Tk.head rfl) | exact b5.ld (Ld.own Tk.head rfl) | exact b6.ld (Ld.own Tk.head rfl)); rfl) | (apply WOps.clA; rfl; rfl; exact int62_ok b0 (n := na) (by omega) (by first | omega | (simp only [List.length_append]; omega)); intro _ H1 b1) | (apply WOps.clA; rfl; rfl; exact text64_ok b1 rb (by first | omega | (simp only [List.length_append]; omega)); intro _ H2 b2) | (apply WOps.clA; rfl; rfl; exact text64_ok b2 rc (by first | omega | (simp only [List.length_append]; omega)); intro _ H3 b3) | (apply WOps.clA; rfl; rfl; exact texts71_ok b3 (b3.sl (SlIs.cons tg)) rd.1 rd.2 (by first | omega | (simp only [List.length_append]; omega)); intro _ H4 b4) | (apply WOps.clA; rfl; rfl; exact int62_ok b4 (n := ne) (by omega) (by first | omega | (simp only [List.length_append]; omega)); intro _ H5 b5) | (apply WOps.clA; rfl; rfl; exact ends65_ok b5 wf wg (by first | omega | (simp only [List.length_append]; omega)); intro _ H6 b6) | (apply WOps.purG; rfl; (intro _; rfl)))
 obtain ⟨H9, b9, s9⟩ := b6.less (R1 := R) (subF (by intro f; simp only [AV.cells, pm] <;> omega))
 exact ⟨trivial, [], rfl, H9, b9.heq (by simp [rowB, Fd.bytes]), s9⟩
set_option maxHeartbeats 2000000 in
theorem lay75_ok {H R : HL} {wp : Nat} {us : List Nat} {r : List Fd} (sh : shC r) (ok : rowOk r) (at_ : ∀ f, f ∈ r → f.at B R) (h : WrAt H wp us R) (hl : us.length ≤ 100000000) :
  WF B tab (.func 75) ([] ++ ([.ptr ⟨false, wp, 0⟩, .agg (rowC r)] ++ [])) H fun _ H' => WrAt H' wp (us ++ rowB r) R := by
 obtain ⟨a, b, c, d, e, f, g, rfl⟩ := sh
 obtain ⟨wa, ra⟩ := ok _ (List.Mem.head _)
 obtain ⟨na, ea⟩ : ∃ n : Nat, a = .ofNat n := ⟨a.toNat, by simp only [Fd.right] at ra; simp only [Int.ofNat_eq_natCast]; omega⟩
 subst ea
 have la : na < 65536 := by simp only [Fd.right, Fd.wf, Int.ofNat_eq_natCast] at ra wa; omega
 obtain ⟨wb, rb⟩ := ok _ (.tail _ (List.Mem.head _))
 obtain ⟨wc, rc⟩ := ok _ (.tail _ (.tail _ (List.Mem.head _)))
 obtain ⟨wd, rd⟩ := ok _ (.tail _ (.tail _ (.tail _ (List.Mem.head _))))
 obtain ⟨we, re⟩ := ok _ (.tail _ (.tail _ (.tail _ (.tail _ (List.Mem.head _)))))
 obtain ⟨ne, ee⟩ : ∃ n : Nat, e = .ofNat n := ⟨e.toNat, by simp only [Fd.right] at re; simp only [Int.ofNat_eq_natCast]; omega⟩
 subst ee
 have le : ne < 65536 := by simp only [Fd.right, Fd.wf, Int.ofNat_eq_natCast] at re we; omega
 obtain ⟨wf, rf⟩ := ok _ (.tail _ (.tail _ (.tail _ (.tail _ (.tail _ (List.Mem.head _))))))
 obtain ⟨wg, rg⟩ := ok _ (.tail _ (.tail _ (.tail _ (.tail _ (.tail _ (.tail _ (List.Mem.head _)))))))
 have qa := numB_len (n := na) (by omega)
 have qb := textB_len (s := b) rb
 have qc := textB_len (s := c) rc
 have qd := textB_len (s := d) rd
 have qe := numB_len (n := ne) (by omega)
 have qf := numB_len (n := f) (by simp only [Fd.wf] at *; omega)
 have qg := numB_len (n := g) (by simp only [Fd.wf] at *; omega)
 refine WF.lessP ?_
 refine WF.fn g75 rfl ?_
 refine WC.seq (WC.reg ?_)
 repeat' (first
  | apply WOps.nil | (apply WOps.bx; rfl; rfl; (· repeat' (first | rfl | assumption | apply ac1)); intro _))
 rename_i p3
 have b0 := h.cons (x := (p3, .row (rowC [.int (.ofNat na) 255, .txt b, .txt c, .txt d, .int (.ofNat ne) 255, .num f, .num g])))
 have lp : ∀ {G : HL} {n o l}, takeN ((rowC [.int (.ofNat na) 255, .txt b, .txt c, .txt d, .int (.ofNat ne) 255, .num f, .num g]).drop o) n = some l → Ld B ((p3, .row (rowC [.int (.ofNat na) 255, .txt b, .txt c, .txt d, .int (.ofNat ne) 255, .num f, .num g])) :: R) ⟨false, p3, o⟩ n l := fun e => Ld.own Tk.head e
 repeat' (first
  | apply WOps.nil | apply WC.seq | apply WC.reg | (apply WOps.ldG; rfl; rfl; (first | exact ld0 rfl | exact ld1 rfl | exact ld2 rfl); rfl) | (apply WOps.ldG; rfl; rfl; exact (by first | exact b0.ld (Ld.own Tk.head rfl) | exact b1.ld (Ld.own Tk.head rfl) | exact b2.ld (Ld.own Tk.head rfl) | exact b3.ld (Ld.own Tk.head rfl) | exact b4.ld (Ld.own Tk.head rfl) | exact b5.ld (Ld.own Tk.head rfl) | exact b6.ld (Ld.own Tk.head rfl)); rfl) | (apply WOps.clA; rfl; rfl; exact int62_ok b0 (n := na) (by omega) (by first | omega | (simp only [List.length_append]; omega)); intro _ H1 b1) | (apply WOps.clA; rfl; rfl; exact text64_ok b1 rb (by first | omega | (simp only [List.length_append]; omega)); intro _ H2 b2) | (apply WOps.clA; rfl; rfl; exact text64_ok b2 rc (by first | omega | (simp only [List.length_append]; omega)); intro _ H3 b3) | (apply WOps.clA; rfl; rfl; exact text64_ok b3 rd (by first | omega | (simp only [List.length_append]; omega)); intro _ H4 b4) | (apply WOps.clA; rfl; rfl; exact int62_ok b4 (n := ne) (by omega) (by first | omega | (simp only [List.length_append]; omega)); intro _ H5 b5) | (apply WOps.clA; rfl; rfl; exact ends65_ok b5 wf wg (by first | omega | (simp only [List.length_append]; omega)); intro _ H6 b6) | (apply WOps.purG; rfl; (intro _; rfl)))
 obtain ⟨H9, b9, s9⟩ := b6.less (R1 := R) (subF (by intro f; simp only [AV.cells, pm] <;> omega))
 exact ⟨trivial, [], rfl, H9, b9.heq (by simp [rowB, Fd.bytes]), s9⟩
set_option maxHeartbeats 2000000 in
theorem lay77_ok {H R : HL} {wp : Nat} {us : List Nat} {r : List Fd} (sh : shI r) (ok : rowOk r) (at_ : ∀ f, f ∈ r → f.at B R) (h : WrAt H wp us R) (hl : us.length ≤ 100000000) :
  WF B tab (.func 77) ([] ++ ([.ptr ⟨false, wp, 0⟩, .agg (rowC r)] ++ [])) H fun _ H' => WrAt H' wp (us ++ rowB r) R := by
 obtain ⟨a, b, c, d, e, rfl⟩ := sh
 obtain ⟨wa, ra⟩ := ok _ (List.Mem.head _)
 obtain ⟨wb, rb⟩ := ok _ (.tail _ (List.Mem.head _))
 obtain ⟨wc, rc⟩ := ok _ (.tail _ (.tail _ (List.Mem.head _)))
 obtain ⟨wd, rd⟩ := ok _ (.tail _ (.tail _ (.tail _ (List.Mem.head _))))
 obtain ⟨we, re⟩ := ok _ (.tail _ (.tail _ (.tail _ (.tail _ (List.Mem.head _)))))
 have qa := textB_len (s := a) ra
 have qb := textB_len (s := b) rb
 have qc : (flagB c).length ≤ 2 := by cases c <;> simp [flagB]
 have qd := numB_len (n := d) (by simp only [Fd.wf] at *; omega)
 have qe := numB_len (n := e) (by simp only [Fd.wf] at *; omega)
 refine WF.lessP ?_
 refine WF.fn g77 rfl ?_
 refine WC.seq (WC.reg ?_)
 repeat' (first
  | apply WOps.nil | (apply WOps.bx; rfl; rfl; (· repeat' (first | rfl | assumption | apply ac1)); intro _))
 rename_i p3
 have b0 := h.cons (x := (p3, .row (rowC [.txt a, .txt b, .flg c, .num d, .num e])))
 have lp : ∀ {G : HL} {n o l}, takeN ((rowC [.txt a, .txt b, .flg c, .num d, .num e]).drop o) n = some l → Ld B ((p3, .row (rowC [.txt a, .txt b, .flg c, .num d, .num e])) :: R) ⟨false, p3, o⟩ n l := fun e => Ld.own Tk.head e
 repeat' (first
  | apply WOps.nil | apply WC.seq | apply WC.reg | (apply WOps.ldG; rfl; rfl; (first | exact ld0 rfl | exact ld1 rfl | exact ld2 rfl); rfl) | (apply WOps.ldG; rfl; rfl; exact (by first | exact b0.ld (Ld.own Tk.head rfl) | exact b1.ld (Ld.own Tk.head rfl) | exact b2.ld (Ld.own Tk.head rfl) | exact b3.ld (Ld.own Tk.head rfl) | exact b4.ld (Ld.own Tk.head rfl)); rfl) | (apply WOps.clA; rfl; rfl; exact text64_ok b0 ra (by first | omega | (simp only [List.length_append]; omega)); intro _ H1 b1) | (apply WOps.clA; rfl; rfl; exact text64_ok b1 rb (by first | omega | (simp only [List.length_append]; omega)); intro _ H2 b2) | (apply WOps.clA; rfl; rfl; exact flag78_ok (b := c) b2 (by first | omega | (simp only [List.length_append]; omega)); intro _ H3 b3) | (apply WOps.clA; rfl; rfl; exact ends65_ok b3 wd we (by first | omega | (simp only [List.length_append]; omega)); intro _ H4 b4) | (apply WOps.purG; rfl; (intro _; rfl)))
 obtain ⟨H9, b9, s9⟩ := b4.less (R1 := R) (subF (by intro f; simp only [AV.cells, pm] <;> omega))
 exact ⟨trivial, [], rfl, H9, b9.heq (by simp [rowB, Fd.bytes]), s9⟩
set_option maxHeartbeats 2000000 in
theorem lay81_ok {H R : HL} {wp : Nat} {us : List Nat} {r : List Fd} (sh : shE r) (ok : rowOk r) (at_ : ∀ f, f ∈ r → f.at B R) (h : WrAt H wp us R) (hl : us.length ≤ 100000000) :
  WF B tab (.func 81) ([] ++ ([.ptr ⟨false, wp, 0⟩, .agg (rowC r)] ++ [])) H fun _ H' => WrAt H' wp (us ++ rowB r) R := by
 obtain ⟨a, b, c, d, e, f, rfl⟩ := sh
 obtain ⟨wa, ra⟩ := ok _ (List.Mem.head _)
 obtain ⟨wb, rb⟩ := ok _ (.tail _ (List.Mem.head _))
 obtain ⟨wc, rc⟩ := ok _ (.tail _ (.tail _ (List.Mem.head _)))
 obtain ⟨wd, rd⟩ := ok _ (.tail _ (.tail _ (.tail _ (List.Mem.head _))))
 obtain ⟨we, re⟩ := ok _ (.tail _ (.tail _ (.tail _ (.tail _ (List.Mem.head _)))))
 obtain ⟨wf, rf⟩ := ok _ (.tail _ (.tail _ (.tail _ (.tail _ (.tail _ (List.Mem.head _))))))
 have qa := textB_len (s := a) ra
 have qb := textB_len (s := b) rb
 have qc := numB_len (n := c) (by simp only [Fd.wf] at *; omega)
 have qd := numB_len (n := d) (by simp only [Fd.wf] at *; omega)
 have qe := numB_len (n := e) (by simp only [Fd.wf] at *; omega)
 have qf := numB_len (n := f) (by simp only [Fd.wf] at *; omega)
 refine WF.lessP ?_
 refine WF.fn g81 rfl ?_
 refine WC.seq (WC.reg ?_)
 repeat' (first
  | apply WOps.nil | (apply WOps.bx; rfl; rfl; (· repeat' (first | rfl | assumption | apply ac1)); intro _))
 rename_i p3
 have b0 := h.cons (x := (p3, .row (rowC [.txt a, .txt b, .num c, .num d, .num e, .num f])))
 have lp : ∀ {G : HL} {n o l}, takeN ((rowC [.txt a, .txt b, .num c, .num d, .num e, .num f]).drop o) n = some l → Ld B ((p3, .row (rowC [.txt a, .txt b, .num c, .num d, .num e, .num f])) :: R) ⟨false, p3, o⟩ n l := fun e => Ld.own Tk.head e
 repeat' (first
  | apply WOps.nil | apply WC.seq | apply WC.reg | (apply WOps.ldG; rfl; rfl; (first | exact ld0 rfl | exact ld1 rfl | exact ld2 rfl); rfl) | (apply WOps.ldG; rfl; rfl; exact (by first | exact b0.ld (Ld.own Tk.head rfl) | exact b1.ld (Ld.own Tk.head rfl) | exact b2.ld (Ld.own Tk.head rfl) | exact b3.ld (Ld.own Tk.head rfl) | exact b4.ld (Ld.own Tk.head rfl) | exact b5.ld (Ld.own Tk.head rfl)); rfl) | (apply WOps.clA; rfl; rfl; exact text64_ok b0 ra (by first | omega | (simp only [List.length_append]; omega)); intro _ H1 b1) | (apply WOps.clA; rfl; rfl; exact text64_ok b1 rb (by first | omega | (simp only [List.length_append]; omega)); intro _ H2 b2) | (apply WOps.clA; rfl; rfl; exact num15_ok b2 wc (by first | omega | (simp only [List.length_append]; omega)); intro _ H3 b3) | (apply WOps.clA; rfl; rfl; exact num15_ok b3 wd (by first | omega | (simp only [List.length_append]; omega)); intro _ H4 b4) | (apply WOps.clA; rfl; rfl; exact ends65_ok b4 we wf (by first | omega | (simp only [List.length_append]; omega)); intro _ H5 b5) | (apply WOps.purG; rfl; (intro _; rfl)))
 obtain ⟨H9, b9, s9⟩ := b5.less (R1 := R) (subF (by intro f; simp only [AV.cells, pm] <;> omega))
 exact ⟨trivial, [], rfl, H9, b9.heq (by simp [rowB, Fd.bytes]), s9⟩
set_option maxHeartbeats 2000000 in
theorem lay83_ok {H R : HL} {wp : Nat} {us : List Nat} {r : List Fd} (sh : shL r) (ok : rowOk r) (at_ : ∀ f, f ∈ r → f.at B R) (h : WrAt H wp us R) (hl : us.length ≤ 100000000) :
  WF B tab (.func 83) ([] ++ ([.ptr ⟨false, wp, 0⟩, .agg (rowC r)] ++ [])) H fun _ H' => WrAt H' wp (us ++ rowB r) R := by
 obtain ⟨a, b, c, d, rfl⟩ := sh
 obtain ⟨wa, ra⟩ := ok _ (List.Mem.head _)
 obtain ⟨wb, rb⟩ := ok _ (.tail _ (List.Mem.head _))
 obtain ⟨nb, eb⟩ : ∃ n : Nat, b = .ofNat n := ⟨b.toNat, by simp only [Fd.right] at rb; simp only [Int.ofNat_eq_natCast]; omega⟩
 subst eb
 have lb : nb < 65536 := by simp only [Fd.right, Fd.wf, Int.ofNat_eq_natCast] at rb wb; omega
 obtain ⟨wc, rc⟩ := ok _ (.tail _ (.tail _ (List.Mem.head _)))
 obtain ⟨wd, rd⟩ := ok _ (.tail _ (.tail _ (.tail _ (List.Mem.head _))))
 have qa := numB_len (n := a) (by simp only [Fd.wf] at *; omega)
 have qb := numB_len (n := nb) (by omega)
 have qc := numB_len (n := c) (by simp only [Fd.wf] at *; omega)
 have qd := numB_len (n := d) (by simp only [Fd.wf] at *; omega)
 refine WF.lessP ?_
 refine WF.fn g83 rfl ?_
 refine WC.seq (WC.reg ?_)
 repeat' (first
  | apply WOps.nil | (apply WOps.bx; rfl; rfl; (· repeat' (first | rfl | assumption | apply ac1)); intro _))
 rename_i p3
 have b0 := h.cons (x := (p3, .row (rowC [.num a, .int (.ofNat nb) 255, .num c, .num d])))
 have lp : ∀ {G : HL} {n o l}, takeN ((rowC [.num a, .int (.ofNat nb) 255, .num c, .num d]).drop o) n = some l → Ld B ((p3, .row (rowC [.num a, .int (.ofNat nb) 255, .num c, .num d])) :: R) ⟨false, p3, o⟩ n l := fun e => Ld.own Tk.head e
 repeat' (first
  | apply WOps.nil | apply WC.seq | apply WC.reg | (apply WOps.ldG; rfl; rfl; (first | exact ld0 rfl | exact ld1 rfl | exact ld2 rfl); rfl) | (apply WOps.ldG; rfl; rfl; exact (by first | exact b0.ld (Ld.own Tk.head rfl) | exact b1.ld (Ld.own Tk.head rfl) | exact b2.ld (Ld.own Tk.head rfl) | exact b3.ld (Ld.own Tk.head rfl)); rfl) | (apply WOps.clA; rfl; rfl; exact num15_ok b0 wa (by first | omega | (simp only [List.length_append]; omega)); intro _ H1 b1) | (apply WOps.clA; rfl; rfl; exact int62_ok b1 (n := nb) (by omega) (by first | omega | (simp only [List.length_append]; omega)); intro _ H2 b2) | (apply WOps.clA; rfl; rfl; exact ends65_ok b2 wc wd (by first | omega | (simp only [List.length_append]; omega)); intro _ H3 b3) | (apply WOps.purG; rfl; (intro _; rfl)))
 obtain ⟨H9, b9, s9⟩ := b3.less (R1 := R) (subF (by intro f; simp only [AV.cells, pm] <;> omega))
 exact ⟨trivial, [], rfl, H9, b9.heq (by simp [rowB, Fd.bytes]), s9⟩
set_option maxHeartbeats 2000000 in
theorem lay85_ok {H R : HL} {wp : Nat} {us : List Nat} {r : List Fd} (sh : shQ r) (ok : rowOk r) (at_ : ∀ f, f ∈ r → f.at B R) (h : WrAt H wp us R) (hl : us.length ≤ 100000000) :
  WF B tab (.func 85) ([] ++ ([.ptr ⟨false, wp, 0⟩, .agg (rowC r)] ++ [])) H fun _ H' => WrAt H' wp (us ++ rowB r) R := by
 obtain ⟨a, b, c, rfl⟩ := sh
 obtain ⟨wa, ra⟩ := ok _ (List.Mem.head _)
 obtain ⟨na, ea⟩ : ∃ n : Nat, a = .ofNat n := ⟨a.toNat, by simp only [Fd.right] at ra; simp only [Int.ofNat_eq_natCast]; omega⟩
 subst ea
 have la : na < 65536 := by simp only [Fd.right, Fd.wf, Int.ofNat_eq_natCast] at ra wa; omega
 obtain ⟨wb, rb⟩ := ok _ (.tail _ (List.Mem.head _))
 obtain ⟨wc, rc⟩ := ok _ (.tail _ (.tail _ (List.Mem.head _)))
 have qa := numB_len (n := na) (by omega)
 have qb := numB_len (n := b) (by simp only [Fd.wf] at *; omega)
 have qc := numB_len (n := c) (by simp only [Fd.wf] at *; omega)
 refine WF.lessP ?_
 refine WF.fn g85 rfl ?_
 refine WC.seq (WC.reg ?_)
 repeat' (first
  | apply WOps.nil | (apply WOps.bx; rfl; rfl; (· repeat' (first | rfl | assumption | apply ac1)); intro _))
 rename_i p3
 have b0 := h.cons (x := (p3, .row (rowC [.int (.ofNat na) 255, .u32 b, .num c])))
 have lp : ∀ {G : HL} {n o l}, takeN ((rowC [.int (.ofNat na) 255, .u32 b, .num c]).drop o) n = some l → Ld B ((p3, .row (rowC [.int (.ofNat na) 255, .u32 b, .num c])) :: R) ⟨false, p3, o⟩ n l := fun e => Ld.own Tk.head e
 repeat' (first
  | apply WOps.nil | apply WC.seq | apply WC.reg | (apply WOps.ldG; rfl; rfl; (first | exact ld0 rfl | exact ld1 rfl | exact ld2 rfl); rfl) | (apply WOps.ldG; rfl; rfl; exact (by first | exact b0.ld (Ld.own Tk.head rfl) | exact b1.ld (Ld.own Tk.head rfl) | exact b2.ld (Ld.own Tk.head rfl) | exact b3.ld (Ld.own Tk.head rfl)); rfl) | (apply WOps.cvU; rfl; rfl; (simp only [Fd.wf] at *; omega)) | (apply WOps.clA; rfl; rfl; exact int62_ok b0 (n := na) (by omega) (by first | omega | (simp only [List.length_append]; omega)); intro _ H1 b1) | (apply WOps.clA; rfl; rfl; exact num15_ok b1 (n := b) (by simp only [Fd.wf] at *; omega) (by first | omega | (simp only [List.length_append]; omega)); intro _ H2 b2) | (apply WOps.clA; rfl; rfl; exact num15_ok b2 wc (by first | omega | (simp only [List.length_append]; omega)); intro _ H3 b3) | (apply WOps.purG; rfl; (intro _; rfl)))
 obtain ⟨H9, b9, s9⟩ := b3.less (R1 := R) (subF (by intro f; simp only [AV.cells, pm] <;> omega))
 exact ⟨trivial, [], rfl, H9, b9.heq (by simp [rowB, Fd.bytes]), s9⟩
theorem put_all {r : List AV} {w : Nat} {z : List AV} (h : r.length = w) (hz : z.length = w := by rfl) : putN z 0 r = some r := by
 unfold putN putAt
 have : Nat.ble (0 + r.length) z.length = true := by rw [Nat.ble_eq]; omega
 rw [this]
 simp only [forceL_eq]
 rw [List.take_zero, List.drop_eq_nil_of_le (by omega)]
 simp
set_option maxHeartbeats 2000000 in
theorem put16_ok {H R : HL} {wp : Nat} {us : List Nat} {vl : AV} {l : List (List Fd)} (hv : SlIs B R vl 4 (l.map rowC)) (h64 : l.length ≤ 64) (ok : ∀ r, r ∈ l → shN r ∧ rowOk r ∧ ∀ f, f ∈ r → f.at B R) (h : WrAt H wp us R) (hl : us.length ≤ 10000000) :
  WF B tab (.func 16) [.ptr ⟨false, wp, 0⟩, vl, .agg [.fn (.func 63) [] [], .fn (.func 66) [] []]] H fun _ H' => WrAt H' wp (us ++ rowsB l) R := by
 refine WF.lessP ?_
 refine WF.fn g16 rfl ?_
 have hn := numB_len (n := l.length) (by omega)
 refine WC.seq (WC.reg ?_)
 repeat' (first
  | apply WOps.nil | (apply WOps.bx; rfl; rfl; (· repeat' (first | rfl | assumption | apply ac1)); intro _))
 rename_i p5
 have b0 := h.cons (x := (p5, .row [.fn (.func 63) [] [], .fn (.func 66) [] []]))
 have hv5 : SlIs B ((p5, .row [.fn (.func 63) [] [], .fn (.func 66) [] []]) :: R) vl 4 (l.map rowC) := SlIs.cons hv
 refine WC.seq (WC.reg ?_)
 repeat' (first
  | apply WOps.nil | (apply WOps.lenS; rfl; rfl; exact b0.sl hv5) | (apply WOps.clA; rfl; rfl; exact int62_ok b0 (by rw [List.length_map]; omega) (by omega); intro _ H1 b1) | (apply WOps.purG; rfl; (intro _; rfl)))
 rw [List.length_map] at b1
 refine WC.seq (WC.reg ?_)
 repeat' (first
  | apply WOps.nil | apply WC.block | (apply WOps.lenS; rfl; rfl; exact b1.sl hv5) | (apply WOps.purG; rfl; (intro _; rfl)))
 rw [List.length_map]
 refine WC.loop ?_
 obtain ⟨i, hi⟩ : ∃ i : Nat, i = 0 := ⟨0, rfl⟩
 obtain ⟨u2, hu2⟩ : ∃ l' : List Nat, l' = us ++ numB l.length := ⟨_, rfl⟩
 refine WL.le (t' := [(0, .ptr ⟨false, wp, 0⟩), (5, .ptr ⟨false, p5, 0⟩), (12, vl), (13, .int .i64 (.ofNat l.length)), (14, .int .i64 (.ofNat i))]) (by subst hi; exact Sub1.cons rfl (Sub1.cons rfl (Sub1.cons rfl (Sub1.cons rfl (Sub1.cons rfl Sub1.nil))))) ?_
 have b2 : WrAt H1 wp u2 ((p5, .row [.fn (.func 63) [] [], .fn (.func 66) [] []]) :: R) := by subst hu2; exact b1
 have hu : u2 = us ++ (numB l.length ++ ((l.take i).map rowB).flatten) := by subst hi hu2; simp
 have hle : i ≤ l.length := by omega
 clear hi hu2 b1
 induction hk : l.length - i using Nat.strongRecOn generalizing i u2 H1 with | _ k ih => ?_
 apply WL.step
 repeat' (first
  | apply WOps.nil | apply WC.seq | apply WC.reg | apply WC.skip | apply WC.exit | apply WC.block | (apply WOps.cmp; rfl; rfl; rfl; rfl; intro _ _) | (apply WC.condA; rfl; all_goals (intro hb; try subst hb)))
 ·have hlt : i < l.length := by
   have h0 := ‹true = true ↔ cmpP BinOp.lss (Int.ofNat i) (Int.ofNat l.length)›.1 rfl
   simp [cmpP] at h0; omega
  have hc : (l.map rowC)[i]? = some (rowC l[i]) := by rw [List.getElem?_map, List.getElem?_eq_getElem hlt]; rfl
  obtain ⟨o1, o2, o3⟩ := ok l[i] (List.getElem_mem hlt)
  obtain ⟨w1, w2⟩ := shN_len o1
  have ca := shN_cell o1 o3
  have hul : u2.length ≤ us.length + 9 + 64 * 5047 := by
   have h2 := rows_len (l := l.take i) fun r hr => ⟨(ok r (List.mem_of_mem_take hr)).2.1, (shN_len (ok r (List.mem_of_mem_take hr)).1).2⟩
   rw [hu]; simp only [List.length_append, List.length_take] at h2 ⊢; omega
  repeat' (first
   | (apply WOps.alc; rfl; intro _) | (apply WOps.ixSl; rfl; rfl; rfl; exact b2.sl hv5; exact hc; intro ax hax) | (apply WOps.ldG; rfl; rfl; exact hax; rfl))
  rename_i p7
  refine WOps.st (v := .agg (rowC l[i])) (cs' := rowC l[i]) rfl rfl Tk.head w1 ca (put_all w1) ?_
  have b3 := b2.cons (x := (p7, .row (rowC l[i])))
  repeat' (first
   | apply WOps.nil | apply WC.reg | (apply WOps.ldG; rfl; rfl; exact b3.ld (Ld.cons (Ld.own Tk.head rfl)); rfl) | (apply WOps.ldG; rfl; rfl; exact Ld.own Tk.head (take_all w1); rfl) | (apply WOps.cvA; rfl; rfl; rfl; exact lay63_ok o1 o2 (fun f hf => Fd.at_cons (Fd.at_cons (o3 f hf))) b3 (by omega); intro _ H4 b4) | (apply WOps.addN; rfl; rfl; rfl; omega) | (apply WOps.purG; rfl; (intro _; rfl)))
  obtain ⟨H5, b5, s5⟩ := b4.less (R1 := (p5, .row [.fn (.func 63) [] [], .fn (.func 66) [] []]) :: R) (subF (by intro f; simp only [AV.cells, pm] <;> omega))
  refine WL.le (Sub1.cons rfl (Sub1.cons rfl (Sub1.cons rfl (Sub1.cons rfl (Sub1.cons rfl Sub1.nil))))) (WL.lessP s5 (ih _ (by omega) H5 (i + 1) _ b5 ?_ (by omega) rfl))
  rw [hu, List.take_succ_eq_append_getElem hlt]
  simp only [List.map_append, List.flatten_append, List.map_cons, List.map_nil, List.flatten_cons, List.flatten_nil, List.append_nil, List.append_assoc]
 ·have hge : i = l.length := by
   have h0 := eq_of_ff ‹false = true ↔ cmpP BinOp.lss (Int.ofNat i) (Int.ofNat l.length)›
   simp [cmpP] at h0; omega
  rw [hge, List.take_length] at hu
  obtain ⟨H5, b5, s5⟩ := b2.less (R1 := R) (subF (by intro f; simp only [AV.cells, pm] <;> omega))
  exact ⟨trivial, [], rfl, H5, b5.heq (by rw [hu]; rfl), s5⟩
set_option maxHeartbeats 2000000 in
theorem put18_ok {H R : HL} {wp : Nat} {us : List Nat} {vl : AV} {l : List (List Fd)} (hv : SlIs B R vl 7 (l.map rowC)) (h64 : l.length ≤ 64) (ok : ∀ r, r ∈ l → shS r ∧ rowOk r ∧ ∀ f, f ∈ r → f.at B R) (h : WrAt H wp us R) (hl : us.length ≤ 10000000) :
  WF B tab (.func 18) [.ptr ⟨false, wp, 0⟩, vl, .agg [.fn (.func 70) [] [], .fn (.func 72) [] []]] H fun _ H' => WrAt H' wp (us ++ rowsB l) R := by
 refine WF.lessP ?_
 refine WF.fn g18 rfl ?_
 have hn := numB_len (n := l.length) (by omega)
 refine WC.seq (WC.reg ?_)
 repeat' (first
  | apply WOps.nil | (apply WOps.bx; rfl; rfl; (· repeat' (first | rfl | assumption | apply ac1)); intro _))
 rename_i p5
 have b0 := h.cons (x := (p5, .row [.fn (.func 70) [] [], .fn (.func 72) [] []]))
 have hv5 : SlIs B ((p5, .row [.fn (.func 70) [] [], .fn (.func 72) [] []]) :: R) vl 7 (l.map rowC) := SlIs.cons hv
 refine WC.seq (WC.reg ?_)
 repeat' (first
  | apply WOps.nil | (apply WOps.lenS; rfl; rfl; exact b0.sl hv5) | (apply WOps.clA; rfl; rfl; exact int62_ok b0 (by rw [List.length_map]; omega) (by omega); intro _ H1 b1) | (apply WOps.purG; rfl; (intro _; rfl)))
 rw [List.length_map] at b1
 refine WC.seq (WC.reg ?_)
 repeat' (first
  | apply WOps.nil | apply WC.block | (apply WOps.lenS; rfl; rfl; exact b1.sl hv5) | (apply WOps.purG; rfl; (intro _; rfl)))
 rw [List.length_map]
 refine WC.loop ?_
 obtain ⟨i, hi⟩ : ∃ i : Nat, i = 0 := ⟨0, rfl⟩
 obtain ⟨u2, hu2⟩ : ∃ l' : List Nat, l' = us ++ numB l.length := ⟨_, rfl⟩
 refine WL.le (t' := [(0, .ptr ⟨false, wp, 0⟩), (5, .ptr ⟨false, p5, 0⟩), (12, vl), (13, .int .i64 (.ofNat l.length)), (14, .int .i64 (.ofNat i))]) (by subst hi; exact Sub1.cons rfl (Sub1.cons rfl (Sub1.cons rfl (Sub1.cons rfl (Sub1.cons rfl Sub1.nil))))) ?_
 have b2 : WrAt H1 wp u2 ((p5, .row [.fn (.func 70) [] [], .fn (.func 72) [] []]) :: R) := by subst hu2; exact b1
 have hu : u2 = us ++ (numB l.length ++ ((l.take i).map rowB).flatten) := by subst hi hu2; simp
 have hle : i ≤ l.length := by omega
 clear hi hu2 b1
 induction hk : l.length - i using Nat.strongRecOn generalizing i u2 H1 with | _ k ih => ?_
 apply WL.step
 repeat' (first
  | apply WOps.nil | apply WC.seq | apply WC.reg | apply WC.skip | apply WC.exit | apply WC.block | (apply WOps.cmp; rfl; rfl; rfl; rfl; intro _ _) | (apply WC.condA; rfl; all_goals (intro hb; try subst hb)))
 ·have hlt : i < l.length := by
   have h0 := ‹true = true ↔ cmpP BinOp.lss (Int.ofNat i) (Int.ofNat l.length)›.1 rfl
   simp [cmpP] at h0; omega
  have hc : (l.map rowC)[i]? = some (rowC l[i]) := by rw [List.getElem?_map, List.getElem?_eq_getElem hlt]; rfl
  obtain ⟨o1, o2, o3⟩ := ok l[i] (List.getElem_mem hlt)
  obtain ⟨w1, w2⟩ := shS_len o1
  have ca := shS_cell o1 o3
  have hul : u2.length ≤ us.length + 9 + 64 * 5047 := by
   have h2 := rows_len (l := l.take i) fun r hr => ⟨(ok r (List.mem_of_mem_take hr)).2.1, (shS_len (ok r (List.mem_of_mem_take hr)).1).2⟩
   rw [hu]; simp only [List.length_append, List.length_take] at h2 ⊢; omega
  repeat' (first
   | (apply WOps.alc; rfl; intro _) | (apply WOps.ixSl; rfl; rfl; rfl; exact b2.sl hv5; exact hc; intro ax hax) | (apply WOps.ldG; rfl; rfl; exact hax; rfl))
  rename_i p7
  refine WOps.st (v := .agg (rowC l[i])) (cs' := rowC l[i]) rfl rfl Tk.head w1 ca (put_all w1) ?_
  have b3 := b2.cons (x := (p7, .row (rowC l[i])))
  repeat' (first
   | apply WOps.nil | apply WC.reg | (apply WOps.ldG; rfl; rfl; exact b3.ld (Ld.cons (Ld.own Tk.head rfl)); rfl) | (apply WOps.ldG; rfl; rfl; exact Ld.own Tk.head (take_all w1); rfl) | (apply WOps.cvA; rfl; rfl; rfl; exact lay70_ok o1 o2 (fun f hf => Fd.at_cons (Fd.at_cons (o3 f hf))) b3 (by omega); intro _ H4 b4) | (apply WOps.addN; rfl; rfl; rfl; omega) | (apply WOps.purG; rfl; (intro _; rfl)))
  obtain ⟨H5, b5, s5⟩ := b4.less (R1 := (p5, .row [.fn (.func 70) [] [], .fn (.func 72) [] []]) :: R) (subF (by intro f; simp only [AV.cells, pm] <;> omega))
  refine WL.le (Sub1.cons rfl (Sub1.cons rfl (Sub1.cons rfl (Sub1.cons rfl (Sub1.cons rfl Sub1.nil))))) (WL.lessP s5 (ih _ (by omega) H5 (i + 1) _ b5 ?_ (by omega) rfl))
  rw [hu, List.take_succ_eq_append_getElem hlt]
  simp only [List.map_append, List.flatten_append, List.map_cons, List.map_nil, List.flatten_cons, List.flatten_nil, List.append_nil, List.append_assoc]
 ·have hge : i = l.length := by
   have h0 := eq_of_ff ‹false = true ↔ cmpP BinOp.lss (Int.ofNat i) (Int.ofNat l.length)›
   simp [cmpP] at h0; omega
  rw [hge, List.take_length] at hu
  obtain ⟨H5, b5, s5⟩ := b2.less (R1 := R) (subF (by intro f; simp only [AV.cells, pm] <;> omega))
  exact ⟨trivial, [], rfl, H5, b5.heq (by rw [hu]; rfl), s5⟩
set_option maxHeartbeats 2000000 in
theorem put20_ok {H R : HL} {wp : Nat} {us : List Nat} {vl : AV} {l : List (List Fd)} (hv : SlIs B R vl 7 (l.map rowC)) (h64 : l.length ≤ 64) (ok : ∀ r, r ∈ l → shC r ∧ rowOk r ∧ ∀ f, f ∈ r → f.at B R) (h : WrAt H wp us R) (hl : us.length ≤ 10000000) :
  WF B tab (.func 20) [.ptr ⟨false, wp, 0⟩, vl, .agg [.fn (.func 75) [] [], .fn (.func 76) [] []]] H fun _ H' => WrAt H' wp (us ++ rowsB l) R := by
 refine WF.lessP ?_
 refine WF.fn g20 rfl ?_
 have hn := numB_len (n := l.length) (by omega)
 refine WC.seq (WC.reg ?_)
 repeat' (first
  | apply WOps.nil | (apply WOps.bx; rfl; rfl; (· repeat' (first | rfl | assumption | apply ac1)); intro _))
 rename_i p5
 have b0 := h.cons (x := (p5, .row [.fn (.func 75) [] [], .fn (.func 76) [] []]))
 have hv5 : SlIs B ((p5, .row [.fn (.func 75) [] [], .fn (.func 76) [] []]) :: R) vl 7 (l.map rowC) := SlIs.cons hv
 refine WC.seq (WC.reg ?_)
 repeat' (first
  | apply WOps.nil | (apply WOps.lenS; rfl; rfl; exact b0.sl hv5) | (apply WOps.clA; rfl; rfl; exact int62_ok b0 (by rw [List.length_map]; omega) (by omega); intro _ H1 b1) | (apply WOps.purG; rfl; (intro _; rfl)))
 rw [List.length_map] at b1
 refine WC.seq (WC.reg ?_)
 repeat' (first
  | apply WOps.nil | apply WC.block | (apply WOps.lenS; rfl; rfl; exact b1.sl hv5) | (apply WOps.purG; rfl; (intro _; rfl)))
 rw [List.length_map]
 refine WC.loop ?_
 obtain ⟨i, hi⟩ : ∃ i : Nat, i = 0 := ⟨0, rfl⟩
 obtain ⟨u2, hu2⟩ : ∃ l' : List Nat, l' = us ++ numB l.length := ⟨_, rfl⟩
 refine WL.le (t' := [(0, .ptr ⟨false, wp, 0⟩), (5, .ptr ⟨false, p5, 0⟩), (12, vl), (13, .int .i64 (.ofNat l.length)), (14, .int .i64 (.ofNat i))]) (by subst hi; exact Sub1.cons rfl (Sub1.cons rfl (Sub1.cons rfl (Sub1.cons rfl (Sub1.cons rfl Sub1.nil))))) ?_
 have b2 : WrAt H1 wp u2 ((p5, .row [.fn (.func 75) [] [], .fn (.func 76) [] []]) :: R) := by subst hu2; exact b1
 have hu : u2 = us ++ (numB l.length ++ ((l.take i).map rowB).flatten) := by subst hi hu2; simp
 have hle : i ≤ l.length := by omega
 clear hi hu2 b1
 induction hk : l.length - i using Nat.strongRecOn generalizing i u2 H1 with | _ k ih => ?_
 apply WL.step
 repeat' (first
  | apply WOps.nil | apply WC.seq | apply WC.reg | apply WC.skip | apply WC.exit | apply WC.block | (apply WOps.cmp; rfl; rfl; rfl; rfl; intro _ _) | (apply WC.condA; rfl; all_goals (intro hb; try subst hb)))
 ·have hlt : i < l.length := by
   have h0 := ‹true = true ↔ cmpP BinOp.lss (Int.ofNat i) (Int.ofNat l.length)›.1 rfl
   simp [cmpP] at h0; omega
  have hc : (l.map rowC)[i]? = some (rowC l[i]) := by rw [List.getElem?_map, List.getElem?_eq_getElem hlt]; rfl
  obtain ⟨o1, o2, o3⟩ := ok l[i] (List.getElem_mem hlt)
  obtain ⟨w1, w2⟩ := shC_len o1
  have ca := shC_cell o1 o3
  have hul : u2.length ≤ us.length + 9 + 64 * 5047 := by
   have h2 := rows_len (l := l.take i) fun r hr => ⟨(ok r (List.mem_of_mem_take hr)).2.1, (shC_len (ok r (List.mem_of_mem_take hr)).1).2⟩
   rw [hu]; simp only [List.length_append, List.length_take] at h2 ⊢; omega
  repeat' (first
   | (apply WOps.alc; rfl; intro _) | (apply WOps.ixSl; rfl; rfl; rfl; exact b2.sl hv5; exact hc; intro ax hax) | (apply WOps.ldG; rfl; rfl; exact hax; rfl))
  rename_i p7
  refine WOps.st (v := .agg (rowC l[i])) (cs' := rowC l[i]) rfl rfl Tk.head w1 ca (put_all w1) ?_
  have b3 := b2.cons (x := (p7, .row (rowC l[i])))
  repeat' (first
   | apply WOps.nil | apply WC.reg | (apply WOps.ldG; rfl; rfl; exact b3.ld (Ld.cons (Ld.own Tk.head rfl)); rfl) | (apply WOps.ldG; rfl; rfl; exact Ld.own Tk.head (take_all w1); rfl) | (apply WOps.cvA; rfl; rfl; rfl; exact lay75_ok o1 o2 (fun f hf => Fd.at_cons (Fd.at_cons (o3 f hf))) b3 (by omega); intro _ H4 b4) | (apply WOps.addN; rfl; rfl; rfl; omega) | (apply WOps.purG; rfl; (intro _; rfl)))
  obtain ⟨H5, b5, s5⟩ := b4.less (R1 := (p5, .row [.fn (.func 75) [] [], .fn (.func 76) [] []]) :: R) (subF (by intro f; simp only [AV.cells, pm] <;> omega))
  refine WL.le (Sub1.cons rfl (Sub1.cons rfl (Sub1.cons rfl (Sub1.cons rfl (Sub1.cons rfl Sub1.nil))))) (WL.lessP s5 (ih _ (by omega) H5 (i + 1) _ b5 ?_ (by omega) rfl))
  rw [hu, List.take_succ_eq_append_getElem hlt]
  simp only [List.map_append, List.flatten_append, List.map_cons, List.map_nil, List.flatten_cons, List.flatten_nil, List.append_nil, List.append_assoc]
 ·have hge : i = l.length := by
   have h0 := eq_of_ff ‹false = true ↔ cmpP BinOp.lss (Int.ofNat i) (Int.ofNat l.length)›
   simp [cmpP] at h0; omega
  rw [hge, List.take_length] at hu
  obtain ⟨H5, b5, s5⟩ := b2.less (R1 := R) (subF (by intro f; simp only [AV.cells, pm] <;> omega))
  exact ⟨trivial, [], rfl, H5, b5.heq (by rw [hu]; rfl), s5⟩
set_option maxHeartbeats 2000000 in
theorem put22_ok {H R : HL} {wp : Nat} {us : List Nat} {vl : AV} {l : List (List Fd)} (hv : SlIs B R vl 5 (l.map rowC)) (h64 : l.length ≤ 64) (ok : ∀ r, r ∈ l → shI r ∧ rowOk r ∧ ∀ f, f ∈ r → f.at B R) (h : WrAt H wp us R) (hl : us.length ≤ 10000000) :
  WF B tab (.func 22) [.ptr ⟨false, wp, 0⟩, vl, .agg [.fn (.func 77) [] [], .fn (.func 79) [] []]] H fun _ H' => WrAt H' wp (us ++ rowsB l) R := by
 refine WF.lessP ?_
 refine WF.fn g22 rfl ?_
 have hn := numB_len (n := l.length) (by omega)
 refine WC.seq (WC.reg ?_)
 repeat' (first
  | apply WOps.nil | (apply WOps.bx; rfl; rfl; (· repeat' (first | rfl | assumption | apply ac1)); intro _))
 rename_i p5
 have b0 := h.cons (x := (p5, .row [.fn (.func 77) [] [], .fn (.func 79) [] []]))
 have hv5 : SlIs B ((p5, .row [.fn (.func 77) [] [], .fn (.func 79) [] []]) :: R) vl 5 (l.map rowC) := SlIs.cons hv
 refine WC.seq (WC.reg ?_)
 repeat' (first
  | apply WOps.nil | (apply WOps.lenS; rfl; rfl; exact b0.sl hv5) | (apply WOps.clA; rfl; rfl; exact int62_ok b0 (by rw [List.length_map]; omega) (by omega); intro _ H1 b1) | (apply WOps.purG; rfl; (intro _; rfl)))
 rw [List.length_map] at b1
 refine WC.seq (WC.reg ?_)
 repeat' (first
  | apply WOps.nil | apply WC.block | (apply WOps.lenS; rfl; rfl; exact b1.sl hv5) | (apply WOps.purG; rfl; (intro _; rfl)))
 rw [List.length_map]
 refine WC.loop ?_
 obtain ⟨i, hi⟩ : ∃ i : Nat, i = 0 := ⟨0, rfl⟩
 obtain ⟨u2, hu2⟩ : ∃ l' : List Nat, l' = us ++ numB l.length := ⟨_, rfl⟩
 refine WL.le (t' := [(0, .ptr ⟨false, wp, 0⟩), (5, .ptr ⟨false, p5, 0⟩), (12, vl), (13, .int .i64 (.ofNat l.length)), (14, .int .i64 (.ofNat i))]) (by subst hi; exact Sub1.cons rfl (Sub1.cons rfl (Sub1.cons rfl (Sub1.cons rfl (Sub1.cons rfl Sub1.nil))))) ?_
 have b2 : WrAt H1 wp u2 ((p5, .row [.fn (.func 77) [] [], .fn (.func 79) [] []]) :: R) := by subst hu2; exact b1
 have hu : u2 = us ++ (numB l.length ++ ((l.take i).map rowB).flatten) := by subst hi hu2; simp
 have hle : i ≤ l.length := by omega
 clear hi hu2 b1
 induction hk : l.length - i using Nat.strongRecOn generalizing i u2 H1 with | _ k ih => ?_
 apply WL.step
 repeat' (first
  | apply WOps.nil | apply WC.seq | apply WC.reg | apply WC.skip | apply WC.exit | apply WC.block | (apply WOps.cmp; rfl; rfl; rfl; rfl; intro _ _) | (apply WC.condA; rfl; all_goals (intro hb; try subst hb)))
 ·have hlt : i < l.length := by
   have h0 := ‹true = true ↔ cmpP BinOp.lss (Int.ofNat i) (Int.ofNat l.length)›.1 rfl
   simp [cmpP] at h0; omega
  have hc : (l.map rowC)[i]? = some (rowC l[i]) := by rw [List.getElem?_map, List.getElem?_eq_getElem hlt]; rfl
  obtain ⟨o1, o2, o3⟩ := ok l[i] (List.getElem_mem hlt)
  obtain ⟨w1, w2⟩ := shI_len o1
  have ca := shI_cell o1 o3
  have hul : u2.length ≤ us.length + 9 + 64 * 5047 := by
   have h2 := rows_len (l := l.take i) fun r hr => ⟨(ok r (List.mem_of_mem_take hr)).2.1, (shI_len (ok r (List.mem_of_mem_take hr)).1).2⟩
   rw [hu]; simp only [List.length_append, List.length_take] at h2 ⊢; omega
  repeat' (first
   | (apply WOps.alc; rfl; intro _) | (apply WOps.ixSl; rfl; rfl; rfl; exact b2.sl hv5; exact hc; intro ax hax) | (apply WOps.ldG; rfl; rfl; exact hax; rfl))
  rename_i p7
  refine WOps.st (v := .agg (rowC l[i])) (cs' := rowC l[i]) rfl rfl Tk.head w1 ca (put_all w1) ?_
  have b3 := b2.cons (x := (p7, .row (rowC l[i])))
  repeat' (first
   | apply WOps.nil | apply WC.reg | (apply WOps.ldG; rfl; rfl; exact b3.ld (Ld.cons (Ld.own Tk.head rfl)); rfl) | (apply WOps.ldG; rfl; rfl; exact Ld.own Tk.head (take_all w1); rfl) | (apply WOps.cvA; rfl; rfl; rfl; exact lay77_ok o1 o2 (fun f hf => Fd.at_cons (Fd.at_cons (o3 f hf))) b3 (by omega); intro _ H4 b4) | (apply WOps.addN; rfl; rfl; rfl; omega) | (apply WOps.purG; rfl; (intro _; rfl)))
  obtain ⟨H5, b5, s5⟩ := b4.less (R1 := (p5, .row [.fn (.func 77) [] [], .fn (.func 79) [] []]) :: R) (subF (by intro f; simp only [AV.cells, pm] <;> omega))
  refine WL.le (Sub1.cons rfl (Sub1.cons rfl (Sub1.cons rfl (Sub1.cons rfl (Sub1.cons rfl Sub1.nil))))) (WL.lessP s5 (ih _ (by omega) H5 (i + 1) _ b5 ?_ (by omega) rfl))
  rw [hu, List.take_succ_eq_append_getElem hlt]
  simp only [List.map_append, List.flatten_append, List.map_cons, List.map_nil, List.flatten_cons, List.flatten_nil, List.append_nil, List.append_assoc]
 ·have hge : i = l.length := by
   have h0 := eq_of_ff ‹false = true ↔ cmpP BinOp.lss (Int.ofNat i) (Int.ofNat l.length)›
   simp [cmpP] at h0; omega
  rw [hge, List.take_length] at hu
  obtain ⟨H5, b5, s5⟩ := b2.less (R1 := R) (subF (by intro f; simp only [AV.cells, pm] <;> omega))
  exact ⟨trivial, [], rfl, H5, b5.heq (by rw [hu]; rfl), s5⟩
set_option maxHeartbeats 2000000 in
theorem put24_ok {H R : HL} {wp : Nat} {us : List Nat} {vl : AV} {l : List (List Fd)} (hv : SlIs B R vl 6 (l.map rowC)) (h64 : l.length ≤ 64) (ok : ∀ r, r ∈ l → shE r ∧ rowOk r ∧ ∀ f, f ∈ r → f.at B R) (h : WrAt H wp us R) (hl : us.length ≤ 10000000) :
  WF B tab (.func 24) [.ptr ⟨false, wp, 0⟩, vl, .agg [.fn (.func 81) [] [], .fn (.func 82) [] []]] H fun _ H' => WrAt H' wp (us ++ rowsB l) R := by
 refine WF.lessP ?_
 refine WF.fn g24 rfl ?_
 have hn := numB_len (n := l.length) (by omega)
 refine WC.seq (WC.reg ?_)
 repeat' (first
  | apply WOps.nil | (apply WOps.bx; rfl; rfl; (· repeat' (first | rfl | assumption | apply ac1)); intro _))
 rename_i p5
 have b0 := h.cons (x := (p5, .row [.fn (.func 81) [] [], .fn (.func 82) [] []]))
 have hv5 : SlIs B ((p5, .row [.fn (.func 81) [] [], .fn (.func 82) [] []]) :: R) vl 6 (l.map rowC) := SlIs.cons hv
 refine WC.seq (WC.reg ?_)
 repeat' (first
  | apply WOps.nil | (apply WOps.lenS; rfl; rfl; exact b0.sl hv5) | (apply WOps.clA; rfl; rfl; exact int62_ok b0 (by rw [List.length_map]; omega) (by omega); intro _ H1 b1) | (apply WOps.purG; rfl; (intro _; rfl)))
 rw [List.length_map] at b1
 refine WC.seq (WC.reg ?_)
 repeat' (first
  | apply WOps.nil | apply WC.block | (apply WOps.lenS; rfl; rfl; exact b1.sl hv5) | (apply WOps.purG; rfl; (intro _; rfl)))
 rw [List.length_map]
 refine WC.loop ?_
 obtain ⟨i, hi⟩ : ∃ i : Nat, i = 0 := ⟨0, rfl⟩
 obtain ⟨u2, hu2⟩ : ∃ l' : List Nat, l' = us ++ numB l.length := ⟨_, rfl⟩
 refine WL.le (t' := [(0, .ptr ⟨false, wp, 0⟩), (5, .ptr ⟨false, p5, 0⟩), (12, vl), (13, .int .i64 (.ofNat l.length)), (14, .int .i64 (.ofNat i))]) (by subst hi; exact Sub1.cons rfl (Sub1.cons rfl (Sub1.cons rfl (Sub1.cons rfl (Sub1.cons rfl Sub1.nil))))) ?_
 have b2 : WrAt H1 wp u2 ((p5, .row [.fn (.func 81) [] [], .fn (.func 82) [] []]) :: R) := by subst hu2; exact b1
 have hu : u2 = us ++ (numB l.length ++ ((l.take i).map rowB).flatten) := by subst hi hu2; simp
 have hle : i ≤ l.length := by omega
 clear hi hu2 b1
 induction hk : l.length - i using Nat.strongRecOn generalizing i u2 H1 with | _ k ih => ?_
 apply WL.step
 repeat' (first
  | apply WOps.nil | apply WC.seq | apply WC.reg | apply WC.skip | apply WC.exit | apply WC.block | (apply WOps.cmp; rfl; rfl; rfl; rfl; intro _ _) | (apply WC.condA; rfl; all_goals (intro hb; try subst hb)))
 ·have hlt : i < l.length := by
   have h0 := ‹true = true ↔ cmpP BinOp.lss (Int.ofNat i) (Int.ofNat l.length)›.1 rfl
   simp [cmpP] at h0; omega
  have hc : (l.map rowC)[i]? = some (rowC l[i]) := by rw [List.getElem?_map, List.getElem?_eq_getElem hlt]; rfl
  obtain ⟨o1, o2, o3⟩ := ok l[i] (List.getElem_mem hlt)
  obtain ⟨w1, w2⟩ := shE_len o1
  have ca := shE_cell o1 o3
  have hul : u2.length ≤ us.length + 9 + 64 * 5047 := by
   have h2 := rows_len (l := l.take i) fun r hr => ⟨(ok r (List.mem_of_mem_take hr)).2.1, (shE_len (ok r (List.mem_of_mem_take hr)).1).2⟩
   rw [hu]; simp only [List.length_append, List.length_take] at h2 ⊢; omega
  repeat' (first
   | (apply WOps.alc; rfl; intro _) | (apply WOps.ixSl; rfl; rfl; rfl; exact b2.sl hv5; exact hc; intro ax hax) | (apply WOps.ldG; rfl; rfl; exact hax; rfl))
  rename_i p7
  refine WOps.st (v := .agg (rowC l[i])) (cs' := rowC l[i]) rfl rfl Tk.head w1 ca (put_all w1) ?_
  have b3 := b2.cons (x := (p7, .row (rowC l[i])))
  repeat' (first
   | apply WOps.nil | apply WC.reg | (apply WOps.ldG; rfl; rfl; exact b3.ld (Ld.cons (Ld.own Tk.head rfl)); rfl) | (apply WOps.ldG; rfl; rfl; exact Ld.own Tk.head (take_all w1); rfl) | (apply WOps.cvA; rfl; rfl; rfl; exact lay81_ok o1 o2 (fun f hf => Fd.at_cons (Fd.at_cons (o3 f hf))) b3 (by omega); intro _ H4 b4) | (apply WOps.addN; rfl; rfl; rfl; omega) | (apply WOps.purG; rfl; (intro _; rfl)))
  obtain ⟨H5, b5, s5⟩ := b4.less (R1 := (p5, .row [.fn (.func 81) [] [], .fn (.func 82) [] []]) :: R) (subF (by intro f; simp only [AV.cells, pm] <;> omega))
  refine WL.le (Sub1.cons rfl (Sub1.cons rfl (Sub1.cons rfl (Sub1.cons rfl (Sub1.cons rfl Sub1.nil))))) (WL.lessP s5 (ih _ (by omega) H5 (i + 1) _ b5 ?_ (by omega) rfl))
  rw [hu, List.take_succ_eq_append_getElem hlt]
  simp only [List.map_append, List.flatten_append, List.map_cons, List.map_nil, List.flatten_cons, List.flatten_nil, List.append_nil, List.append_assoc]
 ·have hge : i = l.length := by
   have h0 := eq_of_ff ‹false = true ↔ cmpP BinOp.lss (Int.ofNat i) (Int.ofNat l.length)›
   simp [cmpP] at h0; omega
  rw [hge, List.take_length] at hu
  obtain ⟨H5, b5, s5⟩ := b2.less (R1 := R) (subF (by intro f; simp only [AV.cells, pm] <;> omega))
  exact ⟨trivial, [], rfl, H5, b5.heq (by rw [hu]; rfl), s5⟩
set_option maxHeartbeats 2000000 in
theorem put26_ok {H R : HL} {wp : Nat} {us : List Nat} {vl : AV} {l : List (List Fd)} (hv : SlIs B R vl 4 (l.map rowC)) (h64 : l.length ≤ 64) (ok : ∀ r, r ∈ l → shL r ∧ rowOk r ∧ ∀ f, f ∈ r → f.at B R) (h : WrAt H wp us R) (hl : us.length ≤ 10000000) :
  WF B tab (.func 26) [.ptr ⟨false, wp, 0⟩, vl, .agg [.fn (.func 83) [] [], .fn (.func 84) [] []]] H fun _ H' => WrAt H' wp (us ++ rowsB l) R := by
 refine WF.lessP ?_
 refine WF.fn g26 rfl ?_
 have hn := numB_len (n := l.length) (by omega)
 refine WC.seq (WC.reg ?_)
 repeat' (first
  | apply WOps.nil | (apply WOps.bx; rfl; rfl; (· repeat' (first | rfl | assumption | apply ac1)); intro _))
 rename_i p5
 have b0 := h.cons (x := (p5, .row [.fn (.func 83) [] [], .fn (.func 84) [] []]))
 have hv5 : SlIs B ((p5, .row [.fn (.func 83) [] [], .fn (.func 84) [] []]) :: R) vl 4 (l.map rowC) := SlIs.cons hv
 refine WC.seq (WC.reg ?_)
 repeat' (first
  | apply WOps.nil | (apply WOps.lenS; rfl; rfl; exact b0.sl hv5) | (apply WOps.clA; rfl; rfl; exact int62_ok b0 (by rw [List.length_map]; omega) (by omega); intro _ H1 b1) | (apply WOps.purG; rfl; (intro _; rfl)))
 rw [List.length_map] at b1
 refine WC.seq (WC.reg ?_)
 repeat' (first
  | apply WOps.nil | apply WC.block | (apply WOps.lenS; rfl; rfl; exact b1.sl hv5) | (apply WOps.purG; rfl; (intro _; rfl)))
 rw [List.length_map]
 refine WC.loop ?_
 obtain ⟨i, hi⟩ : ∃ i : Nat, i = 0 := ⟨0, rfl⟩
 obtain ⟨u2, hu2⟩ : ∃ l' : List Nat, l' = us ++ numB l.length := ⟨_, rfl⟩
 refine WL.le (t' := [(0, .ptr ⟨false, wp, 0⟩), (5, .ptr ⟨false, p5, 0⟩), (12, vl), (13, .int .i64 (.ofNat l.length)), (14, .int .i64 (.ofNat i))]) (by subst hi; exact Sub1.cons rfl (Sub1.cons rfl (Sub1.cons rfl (Sub1.cons rfl (Sub1.cons rfl Sub1.nil))))) ?_
 have b2 : WrAt H1 wp u2 ((p5, .row [.fn (.func 83) [] [], .fn (.func 84) [] []]) :: R) := by subst hu2; exact b1
 have hu : u2 = us ++ (numB l.length ++ ((l.take i).map rowB).flatten) := by subst hi hu2; simp
 have hle : i ≤ l.length := by omega
 clear hi hu2 b1
 induction hk : l.length - i using Nat.strongRecOn generalizing i u2 H1 with | _ k ih => ?_
 apply WL.step
 repeat' (first
  | apply WOps.nil | apply WC.seq | apply WC.reg | apply WC.skip | apply WC.exit | apply WC.block | (apply WOps.cmp; rfl; rfl; rfl; rfl; intro _ _) | (apply WC.condA; rfl; all_goals (intro hb; try subst hb)))
 ·have hlt : i < l.length := by
   have h0 := ‹true = true ↔ cmpP BinOp.lss (Int.ofNat i) (Int.ofNat l.length)›.1 rfl
   simp [cmpP] at h0; omega
  have hc : (l.map rowC)[i]? = some (rowC l[i]) := by rw [List.getElem?_map, List.getElem?_eq_getElem hlt]; rfl
  obtain ⟨o1, o2, o3⟩ := ok l[i] (List.getElem_mem hlt)
  obtain ⟨w1, w2⟩ := shL_len o1
  have ca := shL_cell o1 o3
  have hul : u2.length ≤ us.length + 9 + 64 * 5047 := by
   have h2 := rows_len (l := l.take i) fun r hr => ⟨(ok r (List.mem_of_mem_take hr)).2.1, (shL_len (ok r (List.mem_of_mem_take hr)).1).2⟩
   rw [hu]; simp only [List.length_append, List.length_take] at h2 ⊢; omega
  repeat' (first
   | (apply WOps.alc; rfl; intro _) | (apply WOps.ixSl; rfl; rfl; rfl; exact b2.sl hv5; exact hc; intro ax hax) | (apply WOps.ldG; rfl; rfl; exact hax; rfl))
  rename_i p7
  refine WOps.st (v := .agg (rowC l[i])) (cs' := rowC l[i]) rfl rfl Tk.head w1 ca (put_all w1) ?_
  have b3 := b2.cons (x := (p7, .row (rowC l[i])))
  repeat' (first
   | apply WOps.nil | apply WC.reg | (apply WOps.ldG; rfl; rfl; exact b3.ld (Ld.cons (Ld.own Tk.head rfl)); rfl) | (apply WOps.ldG; rfl; rfl; exact Ld.own Tk.head (take_all w1); rfl) | (apply WOps.cvA; rfl; rfl; rfl; exact lay83_ok o1 o2 (fun f hf => Fd.at_cons (Fd.at_cons (o3 f hf))) b3 (by omega); intro _ H4 b4) | (apply WOps.addN; rfl; rfl; rfl; omega) | (apply WOps.purG; rfl; (intro _; rfl)))
  obtain ⟨H5, b5, s5⟩ := b4.less (R1 := (p5, .row [.fn (.func 83) [] [], .fn (.func 84) [] []]) :: R) (subF (by intro f; simp only [AV.cells, pm] <;> omega))
  refine WL.le (Sub1.cons rfl (Sub1.cons rfl (Sub1.cons rfl (Sub1.cons rfl (Sub1.cons rfl Sub1.nil))))) (WL.lessP s5 (ih _ (by omega) H5 (i + 1) _ b5 ?_ (by omega) rfl))
  rw [hu, List.take_succ_eq_append_getElem hlt]
  simp only [List.map_append, List.flatten_append, List.map_cons, List.map_nil, List.flatten_cons, List.flatten_nil, List.append_nil, List.append_assoc]
 ·have hge : i = l.length := by
   have h0 := eq_of_ff ‹false = true ↔ cmpP BinOp.lss (Int.ofNat i) (Int.ofNat l.length)›
   simp [cmpP] at h0; omega
  rw [hge, List.take_length] at hu
  obtain ⟨H5, b5, s5⟩ := b2.less (R1 := R) (subF (by intro f; simp only [AV.cells, pm] <;> omega))
  exact ⟨trivial, [], rfl, H5, b5.heq (by rw [hu]; rfl), s5⟩
set_option maxHeartbeats 2000000 in
theorem put28_ok {H R : HL} {wp : Nat} {us : List Nat} {vl : AV} {l : List (List Fd)} (hv : SlIs B R vl 3 (l.map rowC)) (h64 : l.length ≤ 64) (ok : ∀ r, r ∈ l → shQ r ∧ rowOk r ∧ ∀ f, f ∈ r → f.at B R) (h : WrAt H wp us R) (hl : us.length ≤ 10000000) :
  WF B tab (.func 28) [.ptr ⟨false, wp, 0⟩, vl, .agg [.fn (.func 85) [] [], .fn (.func 86) [] []]] H fun _ H' => WrAt H' wp (us ++ rowsB l) R := by
 refine WF.lessP ?_
 refine WF.fn g28 rfl ?_
 have hn := numB_len (n := l.length) (by omega)
 refine WC.seq (WC.reg ?_)
 repeat' (first
  | apply WOps.nil | (apply WOps.bx; rfl; rfl; (· repeat' (first | rfl | assumption | apply ac1)); intro _))
 rename_i p5
 have b0 := h.cons (x := (p5, .row [.fn (.func 85) [] [], .fn (.func 86) [] []]))
 have hv5 : SlIs B ((p5, .row [.fn (.func 85) [] [], .fn (.func 86) [] []]) :: R) vl 3 (l.map rowC) := SlIs.cons hv
 refine WC.seq (WC.reg ?_)
 repeat' (first
  | apply WOps.nil | (apply WOps.lenS; rfl; rfl; exact b0.sl hv5) | (apply WOps.clA; rfl; rfl; exact int62_ok b0 (by rw [List.length_map]; omega) (by omega); intro _ H1 b1) | (apply WOps.purG; rfl; (intro _; rfl)))
 rw [List.length_map] at b1
 refine WC.seq (WC.reg ?_)
 repeat' (first
  | apply WOps.nil | apply WC.block | (apply WOps.lenS; rfl; rfl; exact b1.sl hv5) | (apply WOps.purG; rfl; (intro _; rfl)))
 rw [List.length_map]
 refine WC.loop ?_
 obtain ⟨i, hi⟩ : ∃ i : Nat, i = 0 := ⟨0, rfl⟩
 obtain ⟨u2, hu2⟩ : ∃ l' : List Nat, l' = us ++ numB l.length := ⟨_, rfl⟩
 refine WL.le (t' := [(0, .ptr ⟨false, wp, 0⟩), (5, .ptr ⟨false, p5, 0⟩), (12, vl), (13, .int .i64 (.ofNat l.length)), (14, .int .i64 (.ofNat i))]) (by subst hi; exact Sub1.cons rfl (Sub1.cons rfl (Sub1.cons rfl (Sub1.cons rfl (Sub1.cons rfl Sub1.nil))))) ?_
 have b2 : WrAt H1 wp u2 ((p5, .row [.fn (.func 85) [] [], .fn (.func 86) [] []]) :: R) := by subst hu2; exact b1
 have hu : u2 = us ++ (numB l.length ++ ((l.take i).map rowB).flatten) := by subst hi hu2; simp
 have hle : i ≤ l.length := by omega
 clear hi hu2 b1
 induction hk : l.length - i using Nat.strongRecOn generalizing i u2 H1 with | _ k ih => ?_
 apply WL.step
 repeat' (first
  | apply WOps.nil | apply WC.seq | apply WC.reg | apply WC.skip | apply WC.exit | apply WC.block | (apply WOps.cmp; rfl; rfl; rfl; rfl; intro _ _) | (apply WC.condA; rfl; all_goals (intro hb; try subst hb)))
 ·have hlt : i < l.length := by
   have h0 := ‹true = true ↔ cmpP BinOp.lss (Int.ofNat i) (Int.ofNat l.length)›.1 rfl
   simp [cmpP] at h0; omega
  have hc : (l.map rowC)[i]? = some (rowC l[i]) := by rw [List.getElem?_map, List.getElem?_eq_getElem hlt]; rfl
  obtain ⟨o1, o2, o3⟩ := ok l[i] (List.getElem_mem hlt)
  obtain ⟨w1, w2⟩ := shQ_len o1
  have ca := shQ_cell o1 o3
  have hul : u2.length ≤ us.length + 9 + 64 * 5047 := by
   have h2 := rows_len (l := l.take i) fun r hr => ⟨(ok r (List.mem_of_mem_take hr)).2.1, (shQ_len (ok r (List.mem_of_mem_take hr)).1).2⟩
   rw [hu]; simp only [List.length_append, List.length_take] at h2 ⊢; omega
  repeat' (first
   | (apply WOps.alc; rfl; intro _) | (apply WOps.ixSl; rfl; rfl; rfl; exact b2.sl hv5; exact hc; intro ax hax) | (apply WOps.ldG; rfl; rfl; exact hax; rfl))
  rename_i p7
  refine WOps.st (v := .agg (rowC l[i])) (cs' := rowC l[i]) rfl rfl Tk.head w1 ca (put_all w1) ?_
  have b3 := b2.cons (x := (p7, .row (rowC l[i])))
  repeat' (first
   | apply WOps.nil | apply WC.reg | (apply WOps.ldG; rfl; rfl; exact b3.ld (Ld.cons (Ld.own Tk.head rfl)); rfl) | (apply WOps.ldG; rfl; rfl; exact Ld.own Tk.head (take_all w1); rfl) | (apply WOps.cvA; rfl; rfl; rfl; exact lay85_ok o1 o2 (fun f hf => Fd.at_cons (Fd.at_cons (o3 f hf))) b3 (by omega); intro _ H4 b4) | (apply WOps.addN; rfl; rfl; rfl; omega) | (apply WOps.purG; rfl; (intro _; rfl)))
  obtain ⟨H5, b5, s5⟩ := b4.less (R1 := (p5, .row [.fn (.func 85) [] [], .fn (.func 86) [] []]) :: R) (subF (by intro f; simp only [AV.cells, pm] <;> omega))
  refine WL.le (Sub1.cons rfl (Sub1.cons rfl (Sub1.cons rfl (Sub1.cons rfl (Sub1.cons rfl Sub1.nil))))) (WL.lessP s5 (ih _ (by omega) H5 (i + 1) _ b5 ?_ (by omega) rfl))
  rw [hu, List.take_succ_eq_append_getElem hlt]
  simp only [List.map_append, List.flatten_append, List.map_cons, List.map_nil, List.flatten_cons, List.flatten_nil, List.append_nil, List.append_assoc]
 ·have hge : i = l.length := by
   have h0 := eq_of_ff ‹false = true ↔ cmpP BinOp.lss (Int.ofNat i) (Int.ofNat l.length)›
   simp [cmpP] at h0; omega
  rw [hge, List.take_length] at hu
  obtain ⟨H5, b5, s5⟩ := b2.less (R1 := R) (subF (by intro f; simp only [AV.cells, pm] <;> omega))
  exact ⟨trivial, [], rfl, H5, b5.heq (by rw [hu]; rfl), s5⟩
end Go.Proofs.Ytdcbglljljfleaa.DU
