/- What the functions do, shown by the logic. -/
import Derived.Test.YtdcbglljljfleaaDUTab
import Derived.Test.YtdcbglljljfleaaAbsN7
set_option linter.unusedSimpArgs false
set_option linter.unusedVariables false
set_option maxRecDepth 20000
namespace Go.Proofs.Ytdcbglljljfleaa.DU
open Go.Proofs.Ytdcbglljljfleaa.Abs
variable {B : Nat → List AV}
/-! ### Numbers as bytes -/
def digs (n : Nat) : List Nat := if h : n = 0 then [] else n % 256 :: digs (n / 256)
termination_by n
decreasing_by omega
theorem digs_zero : digs 0 = [] := by rw [digs]; rfl
theorem digs_pos {n : Nat} (h : 0 < n) : digs n = n % 256 :: digs (n / 256) := by rw [digs, dif_neg (by omega)]
theorem digs_len : ∀ (k n : Nat), n < 256 ^ k → (digs n).length ≤ k := by
  intro k
  induction k with
  | zero => intro n h; have : n = 0 := by omega
            rw [this, digs_zero]; simp
  | succ k ih =>
    intro n h
    rcases Nat.eq_zero_or_pos n with rfl | hp
    · rw [digs_zero]; simp
    · rw [digs_pos hp, List.length_cons]
      have := ih (n / 256) (by rw [Nat.pow_succ] at h; omega)
      omega
theorem digs_8 {n : Nat} (h : n < 18446744073709551616) : (digs n).length ≤ 8 := digs_len 8 n (by simpa using h)
def numB (n : Nat) : List Nat := (digs n).length :: (digs n).reverse
theorem numB_len {n : Nat} (h : n < 18446744073709551616) : (numB n).length ≤ 9 := by
  have := digs_8 h
  simp only [numB, List.length_cons, List.length_reverse]; omega
theorem src_cons {H : HL} {q : Nat × AObj} {u : AV} {esz m : Nat} {xs : List AV} (h : SrcIs B H u esz m xs) : SrcIs B (q :: H) u esz m xs := SrcIs.right (H := [q]) h
theorem eq_of_ff {p : Prop} (h : false = true ↔ p) : ¬ p := fun k => by have := h.2 k; cases this
theorem cells_rep (n : Nat) (b : List Nat) : cellsOfStr (List.replicate n 0 ++ b) = List.replicate n (.int .u8 (.ofNat 0)) ++ cellsOfStr b := by
  rw [cells_str_app]
  congr 1
  induction n with
  | zero => rfl
  | succ n ih => rw [List.replicate_succ, List.replicate_succ]; simp only [cellsOfStr, ih]
theorem putN_at {a : List AV} {x y : AV} {b : List AV} {i : Nat} (h : a.length = i) : putN (a ++ x :: b) i [y] = some (a ++ y :: b) := by
  subst h
  unfold putN putAt
  have : Nat.ble (a.length + [y].length) (a ++ x :: b).length = true := by rw [Nat.ble_eq]; simp
  rw [this]
  simp only [forceL_eq]
  congr 1
  rw [List.take_left', List.drop_append]
  · simp
  · rfl
set_option maxHeartbeats 2000000 in
theorem num61_ok {H : HL} {vb : AV} {bl : List Nat} {n : Nat} (hb : SrcIs B H vb 1 bl.length (cellsOfStr bl)) (hn : n < 18446744073709551616) (hl : bl.length ≤ 100000000000000) :
    WF B tab (.func 61) [vb, .int .u64 (.ofNat n)] H fun r H' => ∃ h', OwnSl r (cellsOfStr (bl ++ numB n)) (bl ++ numB n).length 1 h' ∧ H' = h' ++ H := by
  refine WF.lessP ?_
  refine WF.fn g61 rfl ?_
  have h8 := digs_8 hn
  refine WC.seq (WC.reg ?_)
  repeat' (first
    | apply WOps.nil | (apply WOps.purG; rfl; (intro _; rfl)))
  refine WC.seq (WC.reg ?_)
  repeat' (first
    | apply WOps.nil | (apply WOps.alc; rfl; intro _))
  rename_i p5
  refine WC.seq (WC.reg ?_)
  repeat' (first
    | apply WOps.nil | (apply WOps.purG; rfl; (intro _; rfl)))
  refine WC.cut2 (X := Unit) (fun _ => [(0, vb), (5, .ptr ⟨false, p5, 0⟩), (6, .int .i64 (.ofNat (digs n).length))]) (fun _ => (p5, .row (cellsOfStr (List.replicate (8 - (digs n).length) 0 ++ (digs n).reverse))) :: H) (fun _ => True) ?_ ?_
  · refine WC.seq (WC.reg ?_)
    repeat' (first
      | apply WOps.nil | apply WC.block | (apply WOps.purG; rfl; (intro _; rfl)))
    refine WC.loop ?_
    obtain ⟨x, hx⟩ : ∃ x : Nat, x = n := ⟨_, rfl⟩
    obtain ⟨pre, hpre⟩ : ∃ l : List Nat, l = [] := ⟨_, rfl⟩
    refine WL.le (t' := [(0, vb), (5, .ptr ⟨false, p5, 0⟩), (6, .int .i64 (.ofNat pre.length)), (7, .int .u64 (.ofNat x))]) (by subst hx hpre; exact Sub1.cons rfl (Sub1.cons rfl (Sub1.cons rfl (Sub1.cons rfl Sub1.nil)))) ?_
    refine WL.lessP (H1 := (p5, .row (cellsOfStr (List.replicate (8 - pre.length) 0 ++ pre.reverse))) :: H) (by subst hpre; exact SubP.refl) ?_
    have hp : pre ++ digs x = digs n := by subst hx hpre; rfl
    clear hx hpre
    induction x using Nat.strongRecOn generalizing pre with | _ x ih => ?_
    apply WL.step
    refine WC.seq (WC.seq (WC.reg ?_))
    repeat' (first
      | apply WOps.nil | apply WC.skip | apply WC.exit | (apply WOps.cmp; rfl; rfl; rfl; rfl; intro _ _) | (apply WOps.purG; rfl; (intro _; rfl)) | (apply WC.condA; rfl; all_goals (intro hb; try subst hb)))
    · have hx : 0 < x := by
        have h0 := ‹true = true ↔ cmpP BinOp.gtr (Int.ofNat x) (Int.ofNat 0)›.1 rfl
        simpa [cmpP] using h0
      rw [digs_pos hx] at hp
      have hlen : pre.length + 1 ≤ 8 := by
        have := congrArg List.length hp
        rw [List.length_append, List.length_cons] at this; omega
      have hc : cellsOfStr (List.replicate (8 - pre.length) 0 ++ pre.reverse) = List.replicate (8 - (pre.length + 1)) (.int .u8 (.ofNat 0)) ++ (.int .u8 (.ofNat 0)) :: cellsOfStr pre.reverse := by
        rw [cells_rep, show 8 - pre.length = (8 - (pre.length + 1)) + 1 from by omega, List.replicate_succ']
        simp
      rw [hc]
      repeat' (first
        | apply WOps.nil | apply WC.seq | apply WC.reg | apply WC.block | (apply WOps.addN; rfl; rfl; rfl; omega) | (apply WOps.subN; rfl; rfl; rfl; omega; omega) | (apply WOps.cvB; rfl; rfl) | (apply WOps.ixA; rfl; rfl; omega) | (apply WOps.purG; rfl; (intro _; rfl)))
      refine WOps.st (v := .int .u8 (.ofNat (x % 256))) (id := p5) (off := 0 + (8 - (pre.length + 1)) * 1) (cs := List.replicate (8 - (pre.length + 1)) (.int .u8 (.ofNat 0)) ++ (.int .u8 (.ofNat 0)) :: cellsOfStr pre.reverse) (cs' := List.replicate (8 - (pre.length + 1)) (.int .u8 (.ofNat 0)) ++ (.int .u8 (.ofNat (x % 256))) :: cellsOfStr pre.reverse) rfl rfl Tk.head rfl rfl ?_ ?_
      · exact putN_at (by rw [List.length_replicate]; omega)
      repeat' (first
        | apply WOps.nil | apply WC.reg | (apply WOps.shr8; rfl; rfl; rfl) | (apply WOps.purG; rfl; (intro _; rfl)))
      refine WL.le (t' := [(0, vb), (5, .ptr ⟨false, p5, 0⟩), (6, .int .i64 (.ofNat (pre ++ [x % 256]).length)), (7, .int .u64 (.ofNat (x / 256)))]) (by rw [List.length_append]; exact Sub1.cons rfl (Sub1.cons rfl (Sub1.cons rfl (Sub1.cons rfl Sub1.nil)))) ?_
      refine WL.heq (H' := (p5, .row (cellsOfStr (List.replicate (8 - (pre ++ [x % 256]).length) 0 ++ (pre ++ [x % 256]).reverse))) :: H) ?_ (ih (x / 256) (by omega) (pre ++ [x % 256]) (by rw [List.append_assoc]; exact hp))
      rw [cells_rep, List.reverse_append, List.length_append]
      rfl
    · have hx : x = 0 := by
        have h0 := eq_of_ff ‹false = true ↔ cmpP BinOp.gtr (Int.ofNat x) (Int.ofNat 0)›
        simp [cmpP] at h0; omega
      rw [hx, digs_zero, List.append_nil] at hp
      subst hp
      exact ⟨(), Sub1.cons rfl (Sub1.cons rfl (Sub1.cons rfl Sub1.nil)), SubP.refl, trivial⟩
  intro _ _
  have cL : cellsOfStr (List.replicate (8 - (digs n).length) 0 ++ (digs n).reverse) = List.replicate (8 - (digs n).length) (.int .u8 (.ofNat 0)) ++ cellsOfStr (digs n).reverse := cells_rep _ _
  have lL : (cellsOfStr (List.replicate (8 - (digs n).length) 0 ++ (digs n).reverse)).length = 8 := by
    rw [cells_str_len, List.length_append, List.length_replicate, List.length_reverse]; omega
  generalize hrow : cellsOfStr (List.replicate (8 - (digs n).length) 0 ++ (digs n).reverse) = row at cL lL ⊢
  refine WC.seq (WC.reg ?_)
  repeat' (first
    | (apply WOps.bsl; rfl; (· repeat' (first | rfl | assumption | apply ac1)); intro _) | (apply WOps.purG; rfl; (intro _; rfl)))
  rename_i q
  refine WOps.app (h := [(q, .row [])]) (cells := []) (n := 0) rfl rfl rfl (.inr ⟨q, rfl, rfl, rfl⟩) (List.Perm.refl _) (src_cons (src_cons hb)) rfl (cells_of_str _) (by rw [cells_str_len, Nat.mul_one]) (by omega) ?_
  intro v1 h1 o1
  have o2 : OwnSl v1 (cellsOfStr bl) bl.length 1 h1 := by simpa using o1
  repeat' (first
    | (apply WOps.bsl; rfl; (· repeat' (first | rfl | assumption | apply ac1)); intro _) | (apply WOps.cvB; rfl; rfl) | (apply WOps.purG; rfl; (intro _; rfl)))
  rename_i q2
  have hd : (digs n).length % 256 = (digs n).length := Nat.mod_eq_of_lt (by omega)
  rw [hd]
  refine WOps.app (n := bl.length) rfl rfl rfl o2 (List.perm_append_comm_assoc [_] h1 _) (src_one Tk.head rfl) (cells_of_str _) rfl rfl (by omega) ?_
  intro v2 h2 o3
  repeat' (first
    | apply WOps.nil | (apply WOps.purG; rfl; (intro _; rfl)))
  refine WC.seq (WC.reg ?_)
  repeat' (first
    | (apply WOps.subN; rfl; rfl; rfl; omega; omega) | (apply WOps.purG; rfl; (intro _; rfl)))
  refine WOps.slAn (cs := row) (R := h2 ++ ([(q2, .row [.int .u8 (.ofNat (digs n).length)])] ++ H)) rfl rfl rfl ?_ (by omega) (by omega) ?_
  · exact permF (by intro f; simp only [AV.cells, List.append_eq, List.map_cons, List.map_nil, List.sum_nil, List.map_append, List.sum_cons, List.sum_append, List.cons_append, List.nil_append, List.append_assoc, List.append_nil]; omega)
  have hsrc : SrcIs B (h2 ++ ([(q2, .row [.int .u8 (.ofNat (digs n).length)])] ++ ((p5, .row row) :: H))) (.sl ⟨false, p5, 0 + (8 - (digs n).length) * 1⟩ (8 - (8 - (digs n).length)) 1) 1 (digs n).length (cellsOfStr (digs n).reverse) := by
    rw [show 8 - (8 - (digs n).length) = (digs n).length from by omega]
    refine .inr ⟨_, rfl, .inr (Ld.right (Ld.right (Ld.own Tk.head ?_)))⟩
    rw [cL]
    rw [List.drop_append, List.drop_eq_nil_of_le (by simp), List.nil_append]
    simp only [List.length_replicate, Nat.zero_add, Nat.mul_one, Nat.sub_self, List.drop_zero]
    rw [takeN_of (by rw [cells_str_len, List.length_reverse]; exact Nat.le_refl _), List.take_of_length_le (by rw [cells_str_len, List.length_reverse]; exact Nat.le_refl _)]
  refine WOps.app (n := bl.length + 1) (m := (digs n).length) (h := h2) (R := [(q2, .row [.int .u8 (.ofNat (digs n).length)])] ++ ((p5, .row row) :: H)) (xs := cellsOfStr (digs n).reverse) rfl rfl rfl o3 (List.Perm.refl _) hsrc ?_ (cells_of_str _) ?_ ?_ ?_
  rotate_left
  · rw [cells_str_len, List.length_reverse, Nat.mul_one]
  · omega
  rotate_left
  · rw [show cellsOfStr bl ++ [AV.int .u8 (.ofNat (digs n).length)] = cellsOfStr (bl ++ [(digs n).length]) from by rw [cells_str_app]; rfl]
    exact cells_of_str _
  intro v3 h3 o4
  repeat' (first
    | apply WOps.nil | apply WC.ret | (apply WOps.purG; rfl; (intro _; rfl)))
  refine ⟨trivial, [_], ⟨_, [], rfl, rfl, rfl⟩, _, ⟨h3, ?_, rfl⟩, subF (by intro f; simp only [AV.cells, List.append_eq, List.map_cons, List.map_nil, List.sum_nil, List.map_append, List.sum_cons, List.sum_append, List.cons_append, List.nil_append, List.append_assoc, List.append_nil]; omega)⟩
  have e1 : cellsOfStr (bl ++ numB n) = (cellsOfStr bl ++ [AV.int .u8 (.ofNat (digs n).length)]) ++ cellsOfStr (digs n).reverse := by
    rw [cells_str_app, List.append_assoc]; rfl
  have e2 : (bl ++ numB n).length = bl.length + 1 + (digs n).length := by
    simp only [numB, List.length_append, List.length_cons, List.length_reverse]; omega
  rw [e1, e2]
  exact o4
theorem WOps.pred1 {T : Tr FnI} {t : EL} {H : HL} {Q : EL → HL → Prop} {os : List AOper} {k : Nat} {g : Option (Nat × Bool)} {x y : AO} {m : Nat} (hg : wantedL g t = some true) (hx : gl t x = some (.int .i64 (.ofNat m))) (hy : gl t y = some (.int .i64 (.ofNat 1))) (hm : m ≤ 9223372036854775807)
    (w : WOps B T os ((k, .int .i64 (Int.ofNat m - 1)) :: t) H Q) : WOps B T (⟨some k, .bin .sub x y, g⟩ :: os) t H Q := by
  refine WOps.purG hg (fun h' => ?_) w
  have : IntKind.i64.wrap (Int.ofNat m - Int.ofNat 1) = Int.ofNat m - 1 := by
    rw [IntKind.wrap_i64]; simp only [Int.ofNat_eq_natCast]; omega
  simp only [aopL, hx, hy, aBin, if_true, this, pure1]
def byC (c : Nat) : List AV := [.int .u8 (.ofNat c)]
theorem bytes_flat (l : List Nat) : (l.map byC).flatten = cellsOfStr l := by
  induction l with
  | nil => rfl
  | cons c l ih => simp only [List.map_cons, List.flatten_cons, cellsOfStr, ih]; rfl
theorem bytes_sl {v : AV} {l : List Nat} {h : HL} (o : OwnSl v (cellsOfStr l) l.length 1 h) : SlIs B h v 1 (l.map byC) := by
  refine OwnSl.sl (by rw [bytes_flat, List.length_map]; exact o) ?_
  intro c hc
  obtain ⟨x, _, rfl⟩ := List.mem_map.1 hc
  rfl
theorem bytes_at {l : List Nat} {i c : Nat} (h : l[i]? = some c) : (l.map byC)[i]? = some (byC c) := by rw [List.getElem?_map, h]; rfl
theorem own_app {v : AV} {a b : List Nat} {n : Nat} {h : HL} (o : OwnSl v (cellsOfStr a ++ cellsOfStr b) (a.length + n) 1 h) (e : b.length = n) : OwnSl v (cellsOfStr (a ++ b)) (a ++ b).length 1 h := by
  rw [cells_str_app, List.length_append, e]; exact o
set_option maxHeartbeats 2000000 in
theorem num87_ok {H : HL} {n : Nat} (hn : n < 18446744073709551616) :
    WF B tab (.func 87) [.int .u64 (.ofNat n)] H fun r H' => ∃ h', OwnSl r (cellsOfStr (numB n)) (numB n).length 1 h' ∧ H' = h' ++ H := by
  refine WF.lessP ?_
  refine WF.fn g87 rfl ?_
  have h8 := digs_8 hn
  refine WC.seq (WC.reg ?_)
  repeat' (first
    | apply WOps.nil | (apply WOps.purG; rfl; (intro _; rfl)))
  refine WC.seq (WC.reg ?_)
  repeat' (first
    | apply WOps.nil | (apply WOps.purG; rfl; (intro _; rfl)))
  refine WC.cut2 (X := AV × HL) (fun x => [(3, x.1)]) (fun x => x.2 ++ H) (fun x => OwnSl x.1 (cellsOfStr (digs n)) (digs n).length 1 x.2) ?_ ?_
  · refine WC.block ?_
    refine WC.loop ?_
    obtain ⟨x, hx⟩ : ∃ x : Nat, x = n := ⟨_, rfl⟩
    obtain ⟨pre, hpre⟩ : ∃ l : List Nat, l = [] := ⟨_, rfl⟩
    obtain ⟨w, hw⟩ : ∃ v, v = AV.nilsl := ⟨_, rfl⟩
    obtain ⟨hv, hhv⟩ : ∃ h : HL, h = [] := ⟨_, rfl⟩
    refine WL.le (t' := [(0, .int .u64 (.ofNat x)), (3, w)]) (by subst hx hw; exact Sub1.cons rfl (Sub1.cons rfl Sub1.nil)) ?_
    refine WL.heq (H' := hv ++ H) (by subst hhv; rfl) ?_
    have o : OwnSl w (cellsOfStr pre) pre.length 1 hv := by subst hpre; exact .inl ⟨hw, rfl, rfl, hhv⟩
    have hp : pre ++ digs x = digs n := by subst hx hpre; rfl
    have hx64 : x < 18446744073709551616 := by omega
    clear hx hpre hw hhv
    induction x using Nat.strongRecOn generalizing pre w hv with | _ x ih => ?_
    apply WL.step
    refine WC.seq (WC.seq (WC.reg ?_))
    repeat' (first
      | apply WOps.nil | apply WC.skip | apply WC.exit | apply WC.block | (apply WOps.cmp; rfl; rfl; rfl; rfl; intro _ _) | (apply WOps.purG; rfl; (intro _; rfl)) | (apply WC.condA; rfl; all_goals (intro hb; try subst hb)))
    · have hx : 0 < x := by
        have h0 := ‹true = true ↔ cmpP BinOp.gtr (Int.ofNat x) (Int.ofNat 0)›.1 rfl
        simpa [cmpP] using h0
      rw [digs_pos hx] at hp
      have hlen : pre.length + 1 ≤ 8 := by
        have := congrArg List.length hp
        rw [List.length_append, List.length_cons] at this; omega
      refine WC.seq (WC.reg ?_)
      repeat' (first
        | (apply WOps.bsl; rfl; (· repeat' (first | rfl | assumption | apply ac1)); intro _) | (apply WOps.rem256; rfl; rfl; rfl) | (apply WOps.cvB; rfl; rfl) | (apply WOps.purG; rfl; (intro _; rfl)))
      rename_i q
      rw [Nat.mod_mod]
      refine WOps.app (n := pre.length) rfl rfl rfl o (List.perm_append_comm_assoc [_] hv _) (src_one Tk.head rfl) (cells_of_str _) rfl rfl (by omega) ?_
      intro v2 h2 o2
      repeat' (first
        | apply WOps.nil | apply WC.reg | (apply WOps.quo256; rfl; rfl; rfl; exact hx64) | (apply WOps.purG; rfl; (intro _; rfl)))
      refine WL.le (t' := [(0, .int .u64 (.ofNat (x / 256))), (3, v2)]) (Sub1.cons rfl (Sub1.cons rfl Sub1.nil)) (WL.lessP (H1 := h2 ++ H) (subF (by intro f; simp only [AV.cells, List.append_eq, List.map_cons, List.map_nil, List.sum_nil, List.map_append, List.sum_cons, List.sum_append, List.cons_append, List.nil_append, List.append_assoc, List.append_nil]; omega)) (ih (x / 256) (by omega) (pre ++ [x % 256]) v2 h2 ?_ (by rw [List.append_assoc]; exact hp) (by omega)))
      exact own_app (b := [x % 256]) o2 rfl
    · have hx : x = 0 := by
        have h0 := eq_of_ff ‹false = true ↔ cmpP BinOp.gtr (Int.ofNat x) (Int.ofNat 0)›
        simp [cmpP] at h0; omega
      rw [hx, digs_zero, List.append_nil] at hp
      subst hp
      exact ⟨(w, hv), Sub1.cons rfl Sub1.nil, SubP.refl, o⟩
  rintro ⟨v3, h3⟩ o3
  simp only at o3 ⊢
  have hd : (digs n).length % 256 = (digs n).length := Nat.mod_eq_of_lt (by omega)
  refine WC.seq (WC.reg ?_)
  repeat' (first
    | apply WOps.nil | (apply WOps.bsl; rfl; (· repeat' (first | rfl | assumption | apply ac1)); intro _) | (apply WOps.lenO; rfl; rfl; exact o3) | (apply WOps.cvB; rfl; rfl) | (apply WOps.purG; rfl; (intro _; rfl)))
  rename_i q
  rw [hd]
  refine WC.seq (WC.seq (WC.reg ?_))
  repeat' (first
    | apply WOps.nil | apply WC.block | (apply WOps.lenO; rfl; rfl; exact o3) | (apply WOps.pred1; rfl; rfl; rfl; omega) | (apply WOps.purG; rfl; (intro _; rfl)))
  refine WC.loop ?_
  obtain ⟨j, hj⟩ : ∃ j : Nat, j = (digs n).length := ⟨_, rfl⟩
  obtain ⟨w, hw⟩ : ∃ v, v = AV.sl ⟨false, q, 0⟩ 1 1 := ⟨_, rfl⟩
  obtain ⟨us, hus⟩ : ∃ l : List Nat, l = [(digs n).length] := ⟨_, rfl⟩
  obtain ⟨hv, hhv⟩ : ∃ h : HL, h = [(q, .row [.int .u8 (.ofNat (digs n).length)])] := ⟨_, rfl⟩
  refine WL.le (t' := [(3, v3), (4, w), (5, .int .i64 (Int.ofNat j - 1))]) (by subst hj hw; exact Sub1.cons rfl (Sub1.cons rfl (Sub1.cons rfl Sub1.nil))) ?_
  refine WL.heq (H' := hv ++ (h3 ++ H)) (by subst hhv; rfl) ?_
  have o : OwnSl w (cellsOfStr us) us.length 1 hv := by subst hw hus hhv; exact .inr ⟨q, rfl, rfl, rfl⟩
  have hu : us = (digs n).length :: ((digs n).drop j).reverse := by subst hus hj; rw [List.drop_length]; rfl
  have hle : j ≤ (digs n).length := by omega
  clear hj hw hus hhv
  induction j generalizing us w hv with
  | zero =>
    apply WL.step
    refine WC.seq (WC.seq (WC.reg ?_))
    repeat' (first
      | apply WOps.nil | apply WC.skip | apply WC.exit | (apply WOps.cmp; rfl; rfl; rfl; rfl; intro _ _) | (apply WOps.purG; rfl; (intro _; rfl)) | (apply WC.condA; rfl; all_goals (intro hb; try subst hb)))
    · exfalso
      have h0 := ‹true = true ↔ cmpP BinOp.geq (Int.ofNat 0 - 1) (Int.ofNat 0)›.1 rfl
      simp [cmpP] at h0
    · repeat' (first
        | apply WOps.nil | apply WC.seq | apply WC.reg | apply WC.ret | (apply WOps.purG; rfl; (intro _; rfl)))
      refine ⟨trivial, [_], ⟨_, [], rfl, rfl, rfl⟩, _, ⟨hv, ?_, rfl⟩, subF (by intro f; simp only [AV.cells, List.append_eq, List.map_cons, List.map_nil, List.sum_nil, List.map_append, List.sum_cons, List.sum_append, List.cons_append, List.nil_append, List.append_assoc, List.append_nil]; omega)⟩
      rw [hu, List.drop_zero] at o
      exact o
  | succ j ih =>
    have e : (Int.ofNat (j + 1) - 1) = Int.ofNat j := by simp only [Int.ofNat_eq_natCast]; omega
    rw [e]
    apply WL.step
    refine WC.seq (WC.seq (WC.reg ?_))
    repeat' (first
      | apply WOps.nil | apply WC.skip | apply WC.exit | (apply WOps.cmp; rfl; rfl; rfl; rfl; intro _ _) | (apply WOps.purG; rfl; (intro _; rfl)) | (apply WC.condA; rfl; all_goals (intro hb; try subst hb)))
    · have hul : us.length ≤ 9 := by rw [hu, List.length_cons, List.length_reverse, List.length_drop]; omega
      have hc : (digs n)[j]? = some ((digs n)[j]'(by omega)) := List.getElem?_eq_getElem _
      refine WC.seq (WC.block (WC.reg ?_))
      repeat' (first
        | (apply WOps.bsl; rfl; (· repeat' (first | rfl | assumption | apply ac1)); intro _) | (apply WOps.ixSl; rfl; rfl; rfl; exact SlIs.right (SlIs.left (bytes_sl o3)); exact bytes_at hc; intro ax hax) | (apply WOps.ldG; rfl; rfl; exact hax; rfl) | (apply WOps.purG; rfl; (intro _; rfl)))
      refine WOps.app (n := us.length) rfl rfl rfl o (List.perm_append_comm_assoc [_] hv _) (src_one Tk.head rfl) (cells_of_str _) rfl rfl (by omega) ?_
      intro v2 h2 o2
      repeat' (first
        | apply WOps.nil | apply WC.reg | (apply WOps.pred1; rfl; rfl; rfl; omega) | (apply WOps.purG; rfl; (intro _; rfl)))
      refine WL.le (t' := [(3, v3), (4, v2), (5, .int .i64 (Int.ofNat j - 1))]) (Sub1.cons rfl (Sub1.cons rfl (Sub1.cons rfl Sub1.nil))) (WL.lessP (H1 := h2 ++ (h3 ++ H)) (subF (by intro f; simp only [AV.cells, List.append_eq, List.map_cons, List.map_nil, List.sum_nil, List.map_append, List.sum_cons, List.sum_append, List.cons_append, List.nil_append, List.append_assoc, List.append_nil]; omega)) (ih v2 (us ++ [(digs n)[j]'(by omega)]) h2 ?_ ?_ (by omega)))
      · exact own_app (b := [(digs n)[j]'(by omega)]) o2 rfl
      · rw [hu, List.drop_eq_getElem_cons (show j < (digs n).length by omega), List.reverse_cons]; rfl
    · exfalso
      have h0 := eq_of_ff ‹false = true ↔ cmpP BinOp.geq (Int.ofNat j) (Int.ofNat 0)›
      simp [cmpP] at h0
/-! ### Texts, flags, lists of texts as bytes -/
def textB (s : List Nat) : List Nat := numB s.length ++ s
def flagB (b : Bool) : List Nat := if b then [1, 1] else [0]
def textsB (l : List (List Nat)) : List Nat := numB l.length ++ (l.map textB).flatten
theorem numB_zero : numB 0 = [0] := by simp [numB, digs_zero]
theorem numB_one : numB 1 = [1, 1] := by
  have : digs 1 = [1] := by rw [digs_pos (by omega)]; simp [digs_zero]
  simp [numB, this]
theorem textB_len {s : List Nat} (h : s.length ≤ 80) : (textB s).length ≤ 89 := by
  have := numB_len (n := s.length) (by omega)
  simp only [textB, List.length_append]; omega
theorem texts_len {l : List (List Nat)} (h : ∀ s, s ∈ l → s.length ≤ 80) : ((l.map textB).flatten).length ≤ l.length * 89 := by
  induction l with
  | nil => simp
  | cons s l ih =>
    have h1 := textB_len (h s List.mem_cons_self)
    have h2 := ih fun x hx => h x (List.mem_cons_of_mem _ hx)
    simp only [List.map_cons, List.flatten_cons, List.length_append, List.length_cons]; omega
def strC (k : List Nat) : List AV := [.str k]
theorem own_src {v : AV} {l : List Nat} {h : HL} (o : OwnSl v (cellsOfStr l) l.length 1 h) : SrcIs B h v 1 l.length (cellsOfStr l) := o.src
theorem own_app2 {v : AV} {a b : List Nat} {h : HL} (o : OwnSl v (cellsOfStr a ++ cellsOfStr b) (a.length + b.length) 1 h) : OwnSl v (cellsOfStr (a ++ b)) (a ++ b).length 1 h := own_app o rfl
theorem WOps.cvL {T : Tr FnI} {t : EL} {H : HL} {Q : EL → HL → Prop} {os : List AOper} {k : Nat} {g : Option (Nat × Bool)} {x : AO} {m : Nat} (hg : wantedL g t = some true) (hx : gl t x = some (.int .i64 (.ofNat m))) (hm : m < 18446744073709551616)
    (w : WOps B T os ((k, .int .u64 (.ofNat m)) :: t) H Q) : WOps B T (⟨some k, .cvInt .u64 x, g⟩ :: os) t H Q := WOps.cvU hg hx hm w
theorem text94_ok {H : HL} {vb : AV} {bl s : List Nat} (hb : SrcIs B H vb 1 bl.length (cellsOfStr bl)) (hl : bl.length ≤ 10000000000000) (hs : s.length ≤ 10000000000000) :
    WF B tab (.func 94) [vb, .str s] H fun r H' => ∃ h', OwnSl r (cellsOfStr (bl ++ textB s)) (bl ++ textB s).length 1 h' ∧ H' = h' ++ H := by
  refine WF.fn g94 rfl ?_
  have hn := numB_len (n := s.length) (by omega)
  refine WC.seq (WC.reg ?_)
  repeat' (first
    | apply WOps.nil | (apply WOps.purG; rfl; (intro _; rfl)))
  refine WC.seq (WC.reg ?_)
  repeat' (first
    | (apply WOps.lenT; rfl; rfl) | (apply WOps.cvL; rfl; rfl; omega) | (apply WOps.clA; rfl; rfl; exact num61_ok hb (by omega) (by omega); rintro v1 _ ⟨h1, o1, rfl⟩) | (apply WOps.purG; rfl; (intro _; rfl)))
  refine WOps.appT (n := (bl ++ numB s.length).length) rfl rfl rfl o1 (List.Perm.refl _) (cells_of_str _) (by rw [List.length_append]; omega) ?_
  intro v2 h2 o2
  repeat' (first
    | apply WOps.nil | apply WC.ret | (apply WOps.purG; rfl; (intro _; rfl)))
  refine ⟨trivial, [_], ⟨_, [], rfl, rfl, rfl⟩, h2, ?_, rfl⟩
  have := own_app2 o2
  rw [List.append_assoc] at this
  exact this
theorem flag102_ok {H : HL} {vb : AV} {bl : List Nat} {b : Bool} (hb : SrcIs B H vb 1 bl.length (cellsOfStr bl)) (hl : bl.length ≤ 10000000000000) :
    WF B tab (.func 102) [vb, .bool b] H fun r H' => ∃ h', OwnSl r (cellsOfStr (bl ++ flagB b)) (bl ++ flagB b).length 1 h' ∧ H' = h' ++ H := by
  refine WF.fn g102 rfl ?_
  cases b
  · repeat' (first
      | apply WOps.nil | apply WC.seq | apply WC.reg | apply WC.skip | apply WC.ret | (apply WC.condF; rfl) | (apply WOps.clA; rfl; rfl; exact num61_ok hb (by omega) (by omega); rintro v1 _ ⟨h1, o1, rfl⟩) | (apply WOps.purG; rfl; (intro _; rfl)))
    rw [numB_zero] at o1
    exact ⟨trivial, [_], ⟨_, [], rfl, rfl, rfl⟩, h1, o1, rfl⟩
  · repeat' (first
      | apply WOps.nil | apply WC.seq | apply WC.reg | apply WC.ret | (apply WC.condT; rfl) | (apply WOps.clA; rfl; rfl; exact num61_ok hb (by omega) (by omega); rintro v1 _ ⟨h1, o1, rfl⟩) | (apply WOps.purG; rfl; (intro _; rfl)))
    rw [numB_one] at o1
    exact ⟨trivial, [_], ⟨_, [], rfl, rfl, rfl⟩, h1, o1, rfl⟩
set_option maxHeartbeats 1000000 in
theorem texts96_ok {H : HL} {vb vl : AV} {bl : List Nat} {l : List (List Nat)} (hb : SrcIs B H vb 1 bl.length (cellsOfStr bl)) (hl : bl.length ≤ 10000000000) (hv : SlIs B H vl 1 (l.map strC)) (h8 : l.length ≤ 8) (h80 : ∀ s, s ∈ l → s.length ≤ 80) :
    WF B tab (.func 96) [vb, vl] H fun r H' => ∃ h', OwnSl r (cellsOfStr (bl ++ textsB l)) (bl ++ textsB l).length 1 h' ∧ H' = h' ++ H := by
  have L : WF B tab (.func 103) [vb, vl, .fn (.func 94) [] []] H fun r H' => ∃ h', OwnSl r (cellsOfStr (bl ++ textsB l)) (bl ++ textsB l).length 1 h' ∧ H' = h' ++ H := by
    refine WF.lessP ?_
    refine WF.fn g103 rfl ?_
    have hn := numB_len (n := l.length) (by omega)
    refine WC.seq (WC.reg ?_)
    repeat' (first
      | apply WOps.nil | (apply WOps.purG; rfl; (intro _; rfl)))
    refine WC.seq (WC.reg ?_)
    repeat' (first
      | apply WOps.nil | (apply WOps.lenS; rfl; rfl; exact hv) | (apply WOps.cvL; rfl; rfl; rw [List.length_map]; omega) | (apply WOps.clA; rfl; rfl; exact num61_ok hb (by rw [List.length_map]; omega) (by omega); rintro v1 _ ⟨h1, o1, rfl⟩) | (apply WOps.purG; rfl; (intro _; rfl)))
    rw [List.length_map] at o1
    refine WC.seq (WC.seq (WC.reg ?_))
    repeat' (first
      | apply WOps.nil | apply WC.block | (apply WOps.lenS; rfl; rfl; exact SlIs.right hv) | (apply WOps.purG; rfl; (intro _; rfl)))
    rw [List.length_map]
    refine WC.loop ?_
    obtain ⟨i, hi⟩ : ∃ i : Nat, i = 0 := ⟨0, rfl⟩
    obtain ⟨w, hw⟩ : ∃ v, v = v1 := ⟨_, rfl⟩
    obtain ⟨us, hus⟩ : ∃ l' : List Nat, l' = bl ++ numB l.length := ⟨_, rfl⟩
    obtain ⟨hx, hhx⟩ : ∃ h : HL, h = h1 := ⟨_, rfl⟩
    refine WL.le (t' := [(2, .fn (.func 94) [] []), (7, w), (15, vl), (16, .int .i64 (.ofNat l.length)), (17, .int .i64 (.ofNat i))]) (by subst hi hw; exact Sub1.cons rfl (Sub1.cons rfl (Sub1.cons rfl (Sub1.cons rfl (Sub1.cons rfl Sub1.nil))))) ?_
    refine WL.heq (H' := hx ++ H) (by subst hhx; rfl) ?_
    have o : OwnSl w (cellsOfStr us) us.length 1 hx := by subst hw hus hhx; exact o1
    have hu : us = bl ++ (numB l.length ++ ((l.take i).map textB).flatten) := by subst hi hus; simp
    have hle : i ≤ l.length := by omega
    clear hi hw hus hhx o1
    induction hk : l.length - i using Nat.strongRecOn generalizing i w us hx with | _ k ih => ?_
    apply WL.step
    repeat' (first
      | apply WOps.nil | apply WC.seq | apply WC.reg | apply WC.skip | apply WC.ret | apply WC.exit | apply WC.block | (apply WOps.cmp; rfl; rfl; rfl; rfl; intro _ _) | (apply WOps.purG; rfl; (intro _; rfl)) | (apply WC.condA; rfl; all_goals (intro hb; try subst hb)))
    · have hlt : i < l.length := by
        have h0 := ‹true = true ↔ cmpP BinOp.lss (Int.ofNat i) (Int.ofNat l.length)›.1 rfl
        simp [cmpP] at h0; omega
      have hc : (l.map strC)[i]? = some (strC l[i]) := by rw [List.getElem?_map, List.getElem?_eq_getElem hlt]; rfl
      have h8i := h80 l[i] (List.getElem_mem hlt)
      have hul : us.length ≤ bl.length + 9 + 8 * 89 := by
        have h2 := texts_len (l := l.take i) fun s hs => h80 s (List.mem_of_mem_take hs)
        rw [hu]; simp only [List.length_append, List.length_take] at h2 ⊢; omega
      repeat' (first
        | apply WOps.nil | apply WC.reg | (apply WOps.ixSl; rfl; rfl; rfl; exact SlIs.right hv; exact hc; intro ax hax) | (apply WOps.ldG; rfl; rfl; exact hax; rfl) | (apply WOps.cvA; rfl; rfl; rfl; exact text94_ok (SrcIs.left (own_src o)) (by omega) (by omega); rintro v2 _ ⟨h2, o2, rfl⟩) | (apply WOps.addN; rfl; rfl; rfl; omega) | (apply WOps.purG; rfl; (intro _; rfl)))
      refine WL.le (Sub1.cons rfl (Sub1.cons rfl (Sub1.cons rfl (Sub1.cons rfl (Sub1.cons rfl Sub1.nil))))) (WL.lessP (H1 := h2 ++ H) (subF (by intro f; simp only [AV.cells, List.append_eq, List.map_cons, List.map_nil, List.sum_nil, List.map_append, List.sum_cons, List.sum_append, List.cons_append, List.nil_append, List.append_assoc, List.append_nil]; omega)) (ih _ (by omega) (i + 1) v2 (us ++ textB l[i]) h2 o2 ?_ (by omega) rfl))
      rw [hu, List.take_succ_eq_append_getElem hlt]
      simp only [List.map_append, List.flatten_append, List.map_cons, List.map_nil, List.flatten_cons, List.flatten_nil, List.append_nil, List.append_assoc]
    · have hge : i = l.length := by
        have h0 := eq_of_ff ‹false = true ↔ cmpP BinOp.lss (Int.ofNat i) (Int.ofNat l.length)›
        simp [cmpP] at h0; omega
      rw [hge, List.take_length] at hu
      repeat' (first
        | apply WOps.nil | apply WC.seq | apply WC.reg | apply WC.skip | apply WC.ret | apply WC.exit | (apply WC.condT; rfl) | (apply WC.condF; rfl) | apply WC.block | (apply WOps.ldG; rfl; rfl; (first | exact ld0 rfl | exact ld1 rfl | exact ld2 rfl); rfl) | (apply WOps.cmp; rfl; rfl; rfl; rfl; intro _ _) | (apply WOps.cmpT; rfl; rfl; rfl; rfl; intro _ _) | (apply WOps.purG; rfl; (intro _; rfl)) | (apply WC.condA; rfl; all_goals (intro hb; try subst hb)))
      exact ⟨trivial, [_], ⟨_, [], rfl, rfl, rfl⟩, _, ⟨hx, by rw [hu] at o; exact o, rfl⟩, SubP.refl⟩
  refine WF.fn g96 rfl ?_
  repeat' (first
    | apply WOps.nil | apply WC.seq | apply WC.reg | apply WC.ret | (apply WOps.clA; rfl; rfl; exact L; rintro v1 _ ⟨h1, o1, rfl⟩) | (apply WOps.purG; rfl; (intro _; rfl)))
  exact ⟨trivial, [_], ⟨_, [], rfl, rfl, rfl⟩, h1, o1, rfl⟩
/-! ### The document's bytes -/
theorem flag38_ok {H : HL} {b : Bool} : WF B tab (.func 38) [.bool b] H fun r H' => ∃ h', OwnSl r (cellsOfStr (flagB b)) (flagB b).length 1 h' ∧ H' = h' ++ H := by
  refine WF.fn g38 rfl ?_
  cases b
  · repeat' (first
      | apply WOps.nil | apply WC.seq | apply WC.reg | apply WC.skip | apply WC.ret | (apply WC.condF; rfl) | (apply WOps.bsl; rfl; (· repeat' (first | rfl | assumption | apply ac1)); intro _) | (apply WOps.purG; rfl; (intro _; rfl)))
    rename_i q
    exact ⟨trivial, [_], ⟨_, [], rfl, rfl, rfl⟩, [(q, .row [.int .u8 (.ofNat 0)])], .inr ⟨q, rfl, rfl, rfl⟩, rfl⟩
  · repeat' (first
      | apply WOps.nil | apply WC.seq | apply WC.reg | apply WC.ret | (apply WC.condT; rfl) | (apply WOps.bsl; rfl; (· repeat' (first | rfl | assumption | apply ac1)); intro _) | (apply WOps.purG; rfl; (intro _; rfl)))
    rename_i q
    exact ⟨trivial, [_], ⟨_, [], rfl, rfl, rfl⟩, [(q, .row [.int .u8 (.ofNat 1), .int .u8 (.ofNat 1)])], .inr ⟨q, rfl, rfl, rfl⟩, rfl⟩
set_option maxHeartbeats 1000000 in
theorem text88_ok {H : HL} {s : List Nat} (hs : s.length ≤ 10000000000) :
    WF B tab (.func 88) [.str s] H fun r H' => ∃ h', OwnSl r (cellsOfStr (textB s)) (textB s).length 1 h' ∧ H' = h' ++ H := by
  refine WF.lessP ?_
  refine WF.fn g88 rfl ?_
  have hn := numB_len (n := s.length) (by omega)
  refine WC.seq (WC.reg ?_)
  repeat' (first
    | apply WOps.nil | (apply WOps.purG; rfl; (intro _; rfl)))
  refine WC.seq (WC.reg ?_)
  repeat' (first
    | apply WOps.nil | (apply WOps.lenT; rfl; rfl) | (apply WOps.cvL; rfl; rfl; omega) | (apply WOps.clA; rfl; rfl; exact num87_ok (by omega); rintro v1 _ ⟨h1, o1, rfl⟩) | (apply WOps.purG; rfl; (intro _; rfl)))
  refine WC.seq (WC.seq (WC.reg ?_))
  repeat' (first
    | apply WOps.nil | apply WC.block | (apply WOps.purG; rfl; (intro _; rfl)))
  refine WC.loop ?_
  obtain ⟨i, hi⟩ : ∃ i : Nat, i = 0 := ⟨0, rfl⟩
  obtain ⟨w, hw⟩ : ∃ v, v = v1 := ⟨_, rfl⟩
  obtain ⟨us, hus⟩ : ∃ l' : List Nat, l' = numB s.length := ⟨_, rfl⟩
  obtain ⟨hx, hhx⟩ : ∃ h : HL, h = h1 := ⟨_, rfl⟩
  refine WL.le (t' := [(0, .str s), (3, w), (4, .int .i64 (.ofNat i))]) (by subst hi hw; exact Sub1.cons rfl (Sub1.cons rfl (Sub1.cons rfl Sub1.nil))) ?_
  refine WL.heq (H' := hx ++ H) (by subst hhx; rfl) ?_
  have o : OwnSl w (cellsOfStr us) us.length 1 hx := by subst hw hus hhx; exact o1
  have hu : us = numB s.length ++ s.take i := by subst hi hus; simp
  have hle : i ≤ s.length := by omega
  clear hi hw hus hhx o1
  induction hk : s.length - i using Nat.strongRecOn generalizing i w us hx with | _ k ih => ?_
  apply WL.step
  refine WC.seq (WC.seq (WC.reg ?_))
  repeat' (first
    | apply WOps.nil | apply WC.skip | apply WC.exit | (apply WOps.lenT; rfl; rfl) | (apply WOps.cmp; rfl; rfl; rfl; rfl; intro _ _) | (apply WOps.purG; rfl; (intro _; rfl)) | (apply WC.condA; rfl; all_goals (intro hb; try subst hb)))
  · have hlt : i < s.length := by
      have h0 := ‹true = true ↔ cmpP BinOp.lss (Int.ofNat i) (Int.ofNat s.length)›.1 rfl
      simp [cmpP] at h0; omega
    have hul : us.length ≤ 9 + s.length := by rw [hu]; simp only [List.length_append, List.length_take]; omega
    refine WC.seq (WC.block (WC.reg ?_))
    repeat' (first
      | (apply WOps.bsl; rfl; (· repeat' (first | rfl | assumption | apply ac1)); intro _) | (apply WOps.ixT; rfl; rfl; rfl; exact List.getElem?_eq_getElem hlt) | (apply WOps.purG; rfl; (intro _; rfl)))
    refine WOps.app (n := us.length) rfl rfl rfl o (List.perm_append_comm_assoc [_] hx _) (src_one Tk.head rfl) (cells_of_str _) rfl rfl (by omega) ?_
    intro v2 h2 o2
    repeat' (first
      | apply WOps.nil | apply WC.reg | (apply WOps.addN; rfl; rfl; rfl; omega) | (apply WOps.purG; rfl; (intro _; rfl)))
    refine WL.le (Sub1.cons rfl (Sub1.cons rfl (Sub1.cons rfl Sub1.nil))) (WL.lessP (H1 := h2 ++ H) (subF (by intro f; simp only [AV.cells, List.append_eq, List.map_cons, List.map_nil, List.sum_nil, List.map_append, List.sum_cons, List.sum_append, List.cons_append, List.nil_append, List.append_assoc, List.append_nil]; omega)) (ih _ (by omega) (i + 1) v2 (us ++ [s[i]]) h2 (own_app (b := [s[i]]) o2 rfl) ?_ (by omega) rfl))
    rw [hu, List.take_succ_eq_append_getElem hlt, List.append_assoc]
  · have hge : i = s.length := by
      have h0 := eq_of_ff ‹false = true ↔ cmpP BinOp.lss (Int.ofNat i) (Int.ofNat s.length)›
      simp [cmpP] at h0; omega
    rw [hge, List.take_length] at hu
    repeat' (first
      | apply WOps.nil | apply WC.seq | apply WC.reg | apply WC.ret | (apply WOps.purG; rfl; (intro _; rfl)))
    exact ⟨trivial, [_], ⟨_, [], rfl, rfl, rfl⟩, _, ⟨hx, by rw [hu] at o; exact o, rfl⟩, SubP.refl⟩
set_option maxHeartbeats 1000000 in
theorem texts37_ok {H : HL} {vl : AV} {l : List (List Nat)} (hv : SlIs B H vl 1 (l.map strC)) (h8 : l.length ≤ 8) (h80 : ∀ s, s ∈ l → s.length ≤ 80) :
    WF B tab (.func 37) [vl] H fun r H' => ∃ h', OwnSl r (cellsOfStr (textsB l)) (textsB l).length 1 h' ∧ H' = h' ++ H := by
  refine WF.lessP ?_
  refine WF.fn g37 rfl ?_
  have hn := numB_len (n := l.length) (by omega)
  refine WC.seq (WC.reg ?_)
  repeat' (first
    | apply WOps.nil | (apply WOps.purG; rfl; (intro _; rfl)))
  refine WC.seq (WC.reg ?_)
  repeat' (first
    | apply WOps.nil | (apply WOps.lenS; rfl; rfl; exact hv) | (apply WOps.cvL; rfl; rfl; rw [List.length_map]; omega) | (apply WOps.clA; rfl; rfl; exact num87_ok (by rw [List.length_map]; omega); rintro v1 _ ⟨h1, o1, rfl⟩) | (apply WOps.purG; rfl; (intro _; rfl)))
  rw [List.length_map] at o1
  refine WC.seq (WC.seq (WC.reg ?_))
  repeat' (first
    | apply WOps.nil | apply WC.block | (apply WOps.purG; rfl; (intro _; rfl)))
  refine WC.loop ?_
  obtain ⟨i, hi⟩ : ∃ i : Nat, i = 0 := ⟨0, rfl⟩
  obtain ⟨w, hw⟩ : ∃ v, v = v1 := ⟨_, rfl⟩
  obtain ⟨us, hus⟩ : ∃ l' : List Nat, l' = numB l.length := ⟨_, rfl⟩
  obtain ⟨hx, hhx⟩ : ∃ h : HL, h = h1 := ⟨_, rfl⟩
  refine WL.le (t' := [(0, vl), (3, w), (4, .int .i64 (.ofNat i))]) (by subst hi hw; exact Sub1.cons rfl (Sub1.cons rfl (Sub1.cons rfl Sub1.nil))) ?_
  refine WL.heq (H' := hx ++ H) (by subst hhx; rfl) ?_
  have o : OwnSl w (cellsOfStr us) us.length 1 hx := by subst hw hus hhx; exact o1
  have hu : us = numB l.length ++ ((l.take i).map textB).flatten := by subst hi hus; simp
  have hle : i ≤ l.length := by omega
  clear hi hw hus hhx o1
  induction hk : l.length - i using Nat.strongRecOn generalizing i w us hx with | _ k ih => ?_
  apply WL.step
  refine WC.seq (WC.seq (WC.reg ?_))
  repeat' (first
    | apply WOps.nil | apply WC.skip | apply WC.exit | (apply WOps.lenS; rfl; rfl; exact SlIs.right hv) | (apply WOps.cmp; rfl; rfl; rfl; rfl; intro _ _) | (apply WOps.purG; rfl; (intro _; rfl)) | (apply WC.condA; rfl; all_goals (intro hb; try subst hb)))
  all_goals rw [List.length_map] at *
  · have hlt : i < l.length := by
      have h0 := ‹true = true ↔ cmpP BinOp.lss (Int.ofNat i) (Int.ofNat l.length)›.1 rfl
      simp [cmpP] at h0; omega
    have hc : (l.map strC)[i]? = some (strC l[i]) := by rw [List.getElem?_map, List.getElem?_eq_getElem hlt]; rfl
    have h8i := h80 l[i] (List.getElem_mem hlt)
    have htl := textB_len h8i
    have hul : us.length ≤ 9 + 8 * 89 := by
      have h2 := texts_len (l := l.take i) fun s hs => h80 s (List.mem_of_mem_take hs)
      rw [hu]; simp only [List.length_append, List.length_take] at h2 ⊢; omega
    refine WC.seq (WC.block (WC.reg ?_))
    repeat' (first
      | (apply WOps.ixSl; rfl; rfl; rfl; exact SlIs.right hv; exact hc; intro ax hax) | (apply WOps.ldG; rfl; rfl; exact hax; rfl) | (apply WOps.clA; rfl; rfl; exact text88_ok (by omega); rintro v2 _ ⟨h2, o2, rfl⟩) | (apply WOps.purG; rfl; (intro _; rfl)))
    refine WOps.app (n := us.length) rfl rfl rfl o (List.perm_append_comm_assoc h2 hx _) (SrcIs.left (own_src o2)) (cells_of_str _) (cells_of_str _) (by rw [cells_str_len, Nat.mul_one]) (by omega) ?_
    intro v3 h3 o3
    repeat' (first
      | apply WOps.nil | apply WC.reg | (apply WOps.addN; rfl; rfl; rfl; omega) | (apply WOps.purG; rfl; (intro _; rfl)))
    refine WL.le (Sub1.cons rfl (Sub1.cons rfl (Sub1.cons rfl Sub1.nil))) (WL.lessP (H1 := h3 ++ H) (subF (by intro f; simp only [AV.cells, List.append_eq, List.map_cons, List.map_nil, List.sum_nil, List.map_append, List.sum_cons, List.sum_append, List.cons_append, List.nil_append, List.append_assoc, List.append_nil]; omega)) (ih _ (by omega) (i + 1) v3 (us ++ textB l[i]) h3 (own_app2 o3) ?_ (by omega) rfl))
    rw [hu, List.take_succ_eq_append_getElem hlt]
    simp only [List.map_append, List.flatten_append, List.map_cons, List.map_nil, List.flatten_cons, List.flatten_nil, List.append_nil, List.append_assoc]
  · have hge : i = l.length := by
      have h0 := eq_of_ff ‹false = true ↔ cmpP BinOp.lss (Int.ofNat i) (Int.ofNat l.length)›
      simp [cmpP] at h0; omega
    rw [hge, List.take_length] at hu
    repeat' (first
      | apply WOps.nil | apply WC.seq | apply WC.reg | apply WC.ret | (apply WOps.purG; rfl; (intro _; rfl)))
    exact ⟨trivial, [_], ⟨_, [], rfl, rfl, rfl⟩, _, ⟨hx, by rw [hu] at o; exact o, rfl⟩, SubP.refl⟩
theorem num35_ok {H R : HL} {v : AV} {us : List Nat} {h : HL} {n : Nat} (o : OwnSl v (cellsOfStr us) us.length 1 h) (hn : n < 18446744073709551616) (hl : us.length ≤ 10000000000) :
    WF B tab (.func 35) [v, .int .u64 (.ofNat n)] (h ++ R) fun r H' => ∃ h', OwnSl r (cellsOfStr (us ++ numB n)) (us ++ numB n).length 1 h' ∧ H' = h' ++ R := by
  refine WF.lessP ?_
  refine WF.fn g35 rfl ?_
  have hb := numB_len hn
  refine WC.seq (WC.reg ?_)
  repeat' (first
    | apply WOps.nil | (apply WOps.purG; rfl; (intro _; rfl)))
  refine WC.seq (WC.reg ?_)
  repeat' (first
    | (apply WOps.clA; rfl; rfl; exact num87_ok hn; rintro v2 _ ⟨h2, o2, rfl⟩) | (apply WOps.purG; rfl; (intro _; rfl)))
  refine WOps.app (n := us.length) rfl rfl rfl o (List.perm_append_comm_assoc h2 h _) (SrcIs.left (own_src o2)) (cells_of_str _) (cells_of_str _) (by rw [cells_str_len, Nat.mul_one]) (by omega) ?_
  intro v3 h3 o3
  repeat' (first
    | apply WOps.nil | apply WC.ret | (apply WOps.purG; rfl; (intro _; rfl)))
  exact ⟨trivial, [_], ⟨_, [], rfl, rfl, rfl⟩, _, ⟨h3, own_app2 o3, rfl⟩, subF (by intro f; simp only [AV.cells, List.append_eq, List.map_cons, List.map_nil, List.sum_nil, List.map_append, List.sum_cons, List.sum_append, List.cons_append, List.nil_append, List.append_assoc, List.append_nil]; omega)⟩
theorem text36_ok {H R : HL} {v : AV} {us s : List Nat} {h : HL} (o : OwnSl v (cellsOfStr us) us.length 1 h) (hs : s.length ≤ 10000000000) (hl : us.length ≤ 10000000000) :
    WF B tab (.func 36) [v, .str s] (h ++ R) fun r H' => ∃ h', OwnSl r (cellsOfStr (us ++ textB s)) (us ++ textB s).length 1 h' ∧ H' = h' ++ R := by
  refine WF.lessP ?_
  refine WF.fn g36 rfl ?_
  have hb := numB_len (n := s.length) (by omega)
  have hb2 : (textB s).length ≤ 9 + s.length := by simp only [textB, List.length_append]; omega
  refine WC.seq (WC.reg ?_)
  repeat' (first
    | apply WOps.nil | (apply WOps.purG; rfl; (intro _; rfl)))
  refine WC.seq (WC.reg ?_)
  repeat' (first
    | (apply WOps.clA; rfl; rfl; exact text88_ok hs; rintro v2 _ ⟨h2, o2, rfl⟩) | (apply WOps.purG; rfl; (intro _; rfl)))
  refine WOps.app (n := us.length) rfl rfl rfl o (List.perm_append_comm_assoc h2 h _) (SrcIs.left (own_src o2)) (cells_of_str _) (cells_of_str _) (by rw [cells_str_len, Nat.mul_one]) (by omega) ?_
  intro v3 h3 o3
  repeat' (first
    | apply WOps.nil | apply WC.ret | (apply WOps.purG; rfl; (intro _; rfl)))
  exact ⟨trivial, [_], ⟨_, [], rfl, rfl, rfl⟩, _, ⟨h3, own_app2 o3, rfl⟩, subF (by intro f; simp only [AV.cells, List.append_eq, List.map_cons, List.map_nil, List.sum_nil, List.map_append, List.sum_cons, List.sum_append, List.cons_append, List.nil_append, List.append_assoc, List.append_nil]; omega)⟩
/-- A writer: the bytes that it has laid. -/
def WrAt (H : HL) (wp : Nat) (us : List Nat) (R : HL) : Prop := ∃ v h, OwnSl v (cellsOfStr us) us.length 1 h ∧ H.Perm ((wp, .row [v]) :: (h ++ R))
theorem WrAt.permR {H R R' : HL} {wp : Nat} {us : List Nat} (h : WrAt H wp us R) (p : R.Perm R') : WrAt H wp us R' := by
  obtain ⟨v, hv, o, q⟩ := h
  exact ⟨v, hv, o, q.trans ((p.append_left hv).cons _)⟩
theorem WrAt.app {H R : HL} {wp : Nat} {us : List Nat} (h : WrAt H wp us R) (X : HL) : WrAt (X ++ H) wp us (X ++ R) := by
  obtain ⟨v, hv, o, q⟩ := h
  exact ⟨v, hv, o, (q.append_left X).trans (permF (by intro f; simp only [AV.cells, List.append_eq, List.map_cons, List.map_nil, List.sum_nil, List.map_append, List.sum_cons, List.sum_append, List.cons_append, List.nil_append, List.append_assoc, List.append_nil]; omega))⟩
theorem WrAt.cons {H R : HL} {wp : Nat} {us : List Nat} {x : Nat × AObj} (h : WrAt H wp us R) : WrAt (x :: H) wp us (x :: R) := h.app [x]
theorem WrAt.less {H R R1 : HL} {wp : Nat} {us : List Nat} (h : WrAt H wp us R) (p : SubP R1 R) : ∃ H3, WrAt H3 wp us R1 ∧ SubP H3 H := by
  obtain ⟨v, hv, o, q⟩ := h
  obtain ⟨G, pg⟩ := p
  refine ⟨_, ⟨v, hv, o, List.Perm.refl _⟩, G, q.trans ?_⟩
  refine permF fun f => ?_
  have := sum_perm pg f
  simp only [List.cons_append, List.map_cons, List.map_append, List.sum_cons, List.sum_append] at this ⊢
  omega
theorem WrAt.ld {H R : HL} {wp : Nat} {us : List Nat} {a : AA} {n : Nat} {l : List AV} (h : WrAt H wp us R) (k : Ld B R a n l) : Ld B H a n l := by
  obtain ⟨v, hv, o, q⟩ := h
  exact Ld.perm q (Ld.right k).cons
theorem WrAt.sl {H R : HL} {wp : Nat} {us : List Nat} {w : AV} {n : Nat} {xs : List (List AV)} (h : WrAt H wp us R) (k : SlIs B R w n xs) : SlIs B H w n xs := by
  obtain ⟨v, hv, o, q⟩ := h
  exact SlIs.perm q (SlIs.cons (SlIs.right k))
theorem WrAt.heq {H R : HL} {wp : Nat} {us us2 : List Nat} (h : WrAt H wp us R) (e : us = us2) : WrAt H wp us2 R := e ▸ h
theorem nil_src {H : HL} : SrcIs B H .nilsl 1 ([] : List Nat).length (cellsOfStr []) := .inl ⟨rfl, rfl, rfl⟩
set_option maxHeartbeats 1000000 in
theorem num15_ok {H R : HL} {wp : Nat} {us : List Nat} {n : Nat} (h : WrAt H wp us R) (hn : n < 18446744073709551616) (hl : us.length ≤ 10000000000) :
    WF B tab (.func 15) [.ptr ⟨false, wp, 0⟩, .int .u64 (.ofNat n)] H fun _ H' => WrAt H' wp (us ++ numB n) R := by
  obtain ⟨v, hv, o, p⟩ := h
  refine WF.perm p (WF.lessP ?_)
  refine WF.fn g15 rfl ?_
  have hb : (numB n).length ≤ 100000000 := by have := numB_len hn; omega
  have L : Ld B ((wp, .row [v]) :: (hv ++ R)) ⟨false, wp, 0⟩ 1 [v] := Ld.own Tk.head rfl
  repeat' (first
    | apply WC.dreg | (apply WD.clA; rfl; rfl; exact num61_ok (bl := []) nil_src hn (by simp); rintro v1 _ ⟨h1, o1, rfl⟩) | (apply WD.load; rfl; · repeat' (first | refine at1 ?_ rfl | apply at2 | exact same0 | refine same1 ?_ rfl | apply same2 | exact rd_ld rfl ((by first | exact L | exact Ld.right L)) rfl)) | (apply WD.pur; rfl; (intro _; rfl)))
  rw [List.nil_append] at o1
  refine WD.app (h := hv) (R := h1 ++ ((wp, .row [v]) :: R)) (cells := cellsOfStr us) (n := us.length) (m := (numB n).length) (xs := cellsOfStr (numB n)) rfl rfl rfl o ?_ (SrcIs.left (own_src o1)) (cells_of_str _) (cells_of_str _) (by rw [cells_str_len, Nat.mul_one]) (by omega) ?_
  · exact permF (by intro f; simp only [AV.cells, List.append_eq, List.map_cons, List.map_nil, List.sum_nil, List.map_append, List.sum_cons, List.sum_append, List.cons_append, List.nil_append, List.append_assoc, List.append_nil]; omega)
  intro v2 h2 o2
  repeat' (first
    | (apply WD.pur; rfl; (intro _; rfl)))
  apply WD.st (cs := [v]) (cs' := [v2]) (id := wp) (R := h2 ++ (h1 ++ R))
  · rfl
  · rfl
  · rfl
  · exact permF (by intro f; simp only [AV.cells, List.append_eq, List.map_cons, List.map_nil, List.sum_nil, List.map_append, List.sum_cons, List.sum_append, List.cons_append, List.nil_append, List.append_assoc, List.append_nil]; omega)
  · rw [o2.cells]; rfl
  · rw [o2.cells]; exact allCell_cons o2.cell allCell_nil
  · rw [o2.cells]; rfl
  repeat' (first
    | apply WD.nil)
  exact ⟨trivial, [], rfl, (wp, .row [v2]) :: (h2 ++ R), ⟨v2, h2, own_app2 o2, List.Perm.refl _⟩, subF (by intro f; simp only [AV.cells, List.append_eq, List.map_cons, List.map_nil, List.sum_nil, List.map_append, List.sum_cons, List.sum_append, List.cons_append, List.nil_append, List.append_assoc, List.append_nil]; omega)⟩
set_option maxHeartbeats 1000000 in
theorem text64_ok {H R : HL} {wp : Nat} {us : List Nat} {s : List Nat} (h : WrAt H wp us R) (hs : s.length ≤ 80) (hl : us.length ≤ 10000000000) :
    WF B tab (.func 64) [.ptr ⟨false, wp, 0⟩, .str s] H fun _ H' => WrAt H' wp (us ++ textB s) R := by
  obtain ⟨v, hv, o, p⟩ := h
  refine WF.perm p (WF.lessP ?_)
  refine WF.fn g64 rfl ?_
  have hb : (textB s).length ≤ 100000000 := by have := textB_len hs; omega
  have L : Ld B ((wp, .row [v]) :: (hv ++ R)) ⟨false, wp, 0⟩ 1 [v] := Ld.own Tk.head rfl
  repeat' (first
    | apply WC.dreg | (apply WD.clA; rfl; rfl; exact text94_ok (bl := []) nil_src (by simp) (by omega); rintro v1 _ ⟨h1, o1, rfl⟩) | (apply WD.load; rfl; · repeat' (first | refine at1 ?_ rfl | apply at2 | exact same0 | refine same1 ?_ rfl | apply same2 | exact rd_ld rfl ((by first | exact L | exact Ld.right L)) rfl)) | (apply WD.pur; rfl; (intro _; rfl)))
  rw [List.nil_append] at o1
  refine WD.app (h := hv) (R := h1 ++ ((wp, .row [v]) :: R)) (cells := cellsOfStr us) (n := us.length) (m := (textB s).length) (xs := cellsOfStr (textB s)) rfl rfl rfl o ?_ (SrcIs.left (own_src o1)) (cells_of_str _) (cells_of_str _) (by rw [cells_str_len, Nat.mul_one]) (by omega) ?_
  · exact permF (by intro f; simp only [AV.cells, List.append_eq, List.map_cons, List.map_nil, List.sum_nil, List.map_append, List.sum_cons, List.sum_append, List.cons_append, List.nil_append, List.append_assoc, List.append_nil]; omega)
  intro v2 h2 o2
  repeat' (first
    | (apply WD.pur; rfl; (intro _; rfl)))
  apply WD.st (cs := [v]) (cs' := [v2]) (id := wp) (R := h2 ++ (h1 ++ R))
  · rfl
  · rfl
  · rfl
  · exact permF (by intro f; simp only [AV.cells, List.append_eq, List.map_cons, List.map_nil, List.sum_nil, List.map_append, List.sum_cons, List.sum_append, List.cons_append, List.nil_append, List.append_assoc, List.append_nil]; omega)
  · rw [o2.cells]; rfl
  · rw [o2.cells]; exact allCell_cons o2.cell allCell_nil
  · rw [o2.cells]; rfl
  repeat' (first
    | apply WD.nil)
  exact ⟨trivial, [], rfl, (wp, .row [v2]) :: (h2 ++ R), ⟨v2, h2, own_app2 o2, List.Perm.refl _⟩, subF (by intro f; simp only [AV.cells, List.append_eq, List.map_cons, List.map_nil, List.sum_nil, List.map_append, List.sum_cons, List.sum_append, List.cons_append, List.nil_append, List.append_assoc, List.append_nil]; omega)⟩
set_option maxHeartbeats 1000000 in
theorem flag78_ok {H R : HL} {wp : Nat} {us : List Nat} {b : Bool} (h : WrAt H wp us R)  (hl : us.length ≤ 10000000000) :
    WF B tab (.func 78) [.ptr ⟨false, wp, 0⟩, .bool b] H fun _ H' => WrAt H' wp (us ++ flagB b) R := by
  obtain ⟨v, hv, o, p⟩ := h
  refine WF.perm p (WF.lessP ?_)
  refine WF.fn g78 rfl ?_
  have hb : (flagB b).length ≤ 100000000 := by cases b <;> simp [flagB]
  have L : Ld B ((wp, .row [v]) :: (hv ++ R)) ⟨false, wp, 0⟩ 1 [v] := Ld.own Tk.head rfl
  repeat' (first
    | apply WC.dreg | (apply WD.clA; rfl; rfl; exact flag102_ok (bl := []) nil_src (by simp); rintro v1 _ ⟨h1, o1, rfl⟩) | (apply WD.load; rfl; · repeat' (first | refine at1 ?_ rfl | apply at2 | exact same0 | refine same1 ?_ rfl | apply same2 | exact rd_ld rfl ((by first | exact L | exact Ld.right L)) rfl)) | (apply WD.pur; rfl; (intro _; rfl)))
  rw [List.nil_append] at o1
  refine WD.app (h := hv) (R := h1 ++ ((wp, .row [v]) :: R)) (cells := cellsOfStr us) (n := us.length) (m := (flagB b).length) (xs := cellsOfStr (flagB b)) rfl rfl rfl o ?_ (SrcIs.left (own_src o1)) (cells_of_str _) (cells_of_str _) (by rw [cells_str_len, Nat.mul_one]) (by omega) ?_
  · exact permF (by intro f; simp only [AV.cells, List.append_eq, List.map_cons, List.map_nil, List.sum_nil, List.map_append, List.sum_cons, List.sum_append, List.cons_append, List.nil_append, List.append_assoc, List.append_nil]; omega)
  intro v2 h2 o2
  repeat' (first
    | (apply WD.pur; rfl; (intro _; rfl)))
  apply WD.st (cs := [v]) (cs' := [v2]) (id := wp) (R := h2 ++ (h1 ++ R))
  · rfl
  · rfl
  · rfl
  · exact permF (by intro f; simp only [AV.cells, List.append_eq, List.map_cons, List.map_nil, List.sum_nil, List.map_append, List.sum_cons, List.sum_append, List.cons_append, List.nil_append, List.append_assoc, List.append_nil]; omega)
  · rw [o2.cells]; rfl
  · rw [o2.cells]; exact allCell_cons o2.cell allCell_nil
  · rw [o2.cells]; rfl
  repeat' (first
    | apply WD.nil)
  exact ⟨trivial, [], rfl, (wp, .row [v2]) :: (h2 ++ R), ⟨v2, h2, own_app2 o2, List.Perm.refl _⟩, subF (by intro f; simp only [AV.cells, List.append_eq, List.map_cons, List.map_nil, List.sum_nil, List.map_append, List.sum_cons, List.sum_append, List.cons_append, List.nil_append, List.append_assoc, List.append_nil]; omega)⟩
set_option maxHeartbeats 1000000 in
theorem texts71_ok {H R : HL} {wp : Nat} {us : List Nat} {vl : AV} {l : List (List Nat)} (h : WrAt H wp us R) (hv : SlIs B H vl 1 (l.map strC)) (h8 : l.length ≤ 8) (h80 : ∀ s, s ∈ l → s.length ≤ 80) (hl : us.length ≤ 10000000000) :
    WF B tab (.func 71) [.ptr ⟨false, wp, 0⟩, vl] H fun _ H' => WrAt H' wp (us ++ textsB l) R := by
  obtain ⟨v, hh, o, p⟩ := h
  have hv := SlIs.perm p.symm hv
  refine WF.perm p (WF.lessP ?_)
  refine WF.fn g71 rfl ?_
  have hb : (textsB l).length ≤ 100000000 := by have h1 := texts_len h80; have h2 := numB_len (n := l.length) (by omega); simp only [textsB, List.length_append]; omega
  have L : Ld B ((wp, .row [v]) :: (hh ++ R)) ⟨false, wp, 0⟩ 1 [v] := Ld.own Tk.head rfl
  repeat' (first
    | apply WC.dreg | (apply WD.clA; rfl; rfl; exact texts96_ok (bl := []) nil_src (by simp) hv h8 h80; rintro v1 _ ⟨h1, o1, rfl⟩) | (apply WD.load; rfl; · repeat' (first | refine at1 ?_ rfl | apply at2 | exact same0 | refine same1 ?_ rfl | apply same2 | exact rd_ld rfl ((by first | exact L | exact Ld.right L)) rfl)) | (apply WD.pur; rfl; (intro _; rfl)))
  rw [List.nil_append] at o1
  refine WD.app (h := hh) (R := h1 ++ ((wp, .row [v]) :: R)) (cells := cellsOfStr us) (n := us.length) (m := (textsB l).length) (xs := cellsOfStr (textsB l)) rfl rfl rfl o ?_ (SrcIs.left (own_src o1)) (cells_of_str _) (cells_of_str _) (by rw [cells_str_len, Nat.mul_one]) (by omega) ?_
  · exact permF (by intro f; simp only [AV.cells, List.append_eq, List.map_cons, List.map_nil, List.sum_nil, List.map_append, List.sum_cons, List.sum_append, List.cons_append, List.nil_append, List.append_assoc, List.append_nil]; omega)
  intro v2 h2 o2
  repeat' (first
    | (apply WD.pur; rfl; (intro _; rfl)))
  apply WD.st (cs := [v]) (cs' := [v2]) (id := wp) (R := h2 ++ (h1 ++ R))
  · rfl
  · rfl
  · rfl
  · exact permF (by intro f; simp only [AV.cells, List.append_eq, List.map_cons, List.map_nil, List.sum_nil, List.map_append, List.sum_cons, List.sum_append, List.cons_append, List.nil_append, List.append_assoc, List.append_nil]; omega)
  · rw [o2.cells]; rfl
  · rw [o2.cells]; exact allCell_cons o2.cell allCell_nil
  · rw [o2.cells]; rfl
  repeat' (first
    | apply WD.nil)
  exact ⟨trivial, [], rfl, (wp, .row [v2]) :: (h2 ++ R), ⟨v2, h2, own_app2 o2, List.Perm.refl _⟩, subF (by intro f; simp only [AV.cells, List.append_eq, List.map_cons, List.map_nil, List.sum_nil, List.map_append, List.sum_cons, List.sum_append, List.cons_append, List.nil_append, List.append_assoc, List.append_nil]; omega)⟩
theorem int62_ok {H R : HL} {wp n : Nat} {us : List Nat} (h : WrAt H wp us R) (hn : n < 9223372036854775808) (hl : us.length ≤ 10000000000) :
    WF B tab (.func 62) [.ptr ⟨false, wp, 0⟩, .int .i64 (.ofNat n)] H fun _ H' => WrAt H' wp (us ++ numB n) R := by
  refine WF.fn g62 rfl ?_
  repeat' (first
    | apply WOps.nil | apply WC.reg | (apply WOps.cvL; rfl; rfl; omega) | (apply WOps.clA; rfl; rfl; exact num15_ok h (by omega) hl; intro _ H1 h1) | (apply WOps.purG; rfl; (intro _; rfl)))
  exact ⟨trivial, [], rfl, h1⟩
theorem ends65_ok {H R : HL} {wp a b : Nat} {us : List Nat} (h : WrAt H wp us R) (ha : a < 18446744073709551616) (hb : b < 18446744073709551616) (hl : us.length ≤ 1000000000) :
    WF B tab (.func 65) [.ptr ⟨false, wp, 0⟩, .int .u64 (.ofNat a), .int .u64 (.ofNat b)] H fun _ H' => WrAt H' wp (us ++ (numB a ++ numB b)) R := by
  refine WF.fn g65 rfl ?_
  have l1 := numB_len ha
  repeat' (first
    | apply WOps.nil | apply WC.seq | apply WC.reg | (apply WOps.clA; rfl; rfl; exact num15_ok h ha (by omega); intro _ H1 h1) | (apply WOps.clA; rfl; rfl; exact num15_ok h1 hb (by rw [List.length_append]; omega); intro _ H2 h2) | (apply WOps.purG; rfl; (intro _; rfl)))
  exact ⟨trivial, [], rfl, h2.heq (by rw [List.append_assoc])⟩
/-! ### Rows as fields -/
inductive Fd where
  | int (n : Int) (most : Nat)
  | num (n : Nat)
  | u32 (n : Nat)
  | txt (s : List Nat)
  | flg (b : Bool)
  | txs (v : AV) (l : List (List Nat))
def Fd.cell : Fd → AV
  | .int n _ => .int .i64 n
  | .num n => .int .u64 (.ofNat n)
  | .u32 n => .int .u32 (.ofNat n)
  | .txt s => .str s
  | .flg b => .bool b
  | .txs v _ => v
def Fd.bytes : Fd → List Nat
  | .int n _ => numB n.toNat
  | .num n => numB n
  | .u32 n => numB n
  | .txt s => textB s
  | .flg b => flagB b
  | .txs _ l => textsB l
/-- What a number of its kind is. -/
def Fd.wf : Fd → Prop
  | .int _ m => m ≤ 65535
  | .num n => n < 18446744073709551616
  | .u32 n => n < 4294967296
  | .txs _ l => l.length ≤ 9223372036854775807
  | _ => True
/-- What may be. -/
def Fd.right : Fd → Prop
  | .int n m => 0 ≤ n ∧ n ≤ .ofNat m
  | .txt s => s.length ≤ 80
  | .txs _ l => l.length ≤ 8 ∧ ∀ s, s ∈ l → s.length ≤ 80
  | _ => True
def Fd.at (B : Nat → List AV) (H : HL) : Fd → Prop
  | .txs v l => SlIs B H v 1 (l.map strC)
  | _ => True
theorem Fd.at_any {H : HL} {f : Fd} (h : f.at B []) : f.at B H := by
  cases f <;> first | trivial | exact SlIs.left h
def rowC (r : List Fd) : List AV := r.map Fd.cell
def rowB (r : List Fd) : List Nat := (r.map Fd.bytes).flatten
def rowOk (r : List Fd) : Prop := ∀ f, f ∈ r → f.wf ∧ f.right
theorem bytes_len {f : Fd} (w : f.wf) (r : f.right) : f.bytes.length ≤ 721 := by
  cases f with
  | int n m => have := numB_len (n := n.toNat) (by simp only [Fd.right, Fd.wf, Int.ofNat_eq_natCast] at r w; omega); simp only [Fd.bytes]; omega
  | num n => have := numB_len (n := n) w; simp only [Fd.bytes]; omega
  | u32 n => have := numB_len (n := n) (by simp only [Fd.wf] at w; omega); simp only [Fd.bytes]; omega
  | txt s => have := textB_len r; simp only [Fd.bytes]; omega
  | flg b => cases b <;> simp [Fd.bytes, flagB]
  | txs v l =>
    have h1 := texts_len r.2
    have h2 := numB_len (n := l.length) (by have := r.1; omega)
    have h3 := r.1
    simp only [Fd.bytes, textsB, List.length_append]; omega
theorem rowB_len {r : List Fd} (h : rowOk r) : (rowB r).length ≤ r.length * 721 := by
  induction r with
  | nil => simp [rowB]
  | cons f r ih =>
    have h1 := bytes_len (h f List.mem_cons_self).1 (h f List.mem_cons_self).2
    have h2 := ih fun x hx => h x (List.mem_cons_of_mem _ hx)
    unfold rowB at *
    simp only [List.map_cons, List.flatten_cons, List.length_append, List.length_cons]; omega
def rowsB (l : List (List Fd)) : List Nat := numB l.length ++ (l.map rowB).flatten
theorem rows_len {l : List (List Fd)} (h : ∀ r, r ∈ l → rowOk r ∧ r.length ≤ 7) : ((l.map rowB).flatten).length ≤ l.length * 5047 := by
  induction l with
  | nil => simp
  | cons s l ih =>
    have h0 := h s List.mem_cons_self
    have h1 := rowB_len h0.1
    have h2 := ih fun x hx => h x (List.mem_cons_of_mem _ hx)
    simp only [List.map_cons, List.flatten_cons, List.length_append, List.length_cons]; omega
theorem rowsB_len {l : List (List Fd)} (h : ∀ r, r ∈ l → rowOk r ∧ r.length ≤ 7) (h64 : l.length ≤ 64) : (rowsB l).length ≤ 323017 := by
  have h1 := rows_len h
  have h2 := numB_len (n := l.length) (by omega)
  simp only [rowsB, List.length_append]; omega
end Go.Proofs.Ytdcbglljljfleaa.DU
