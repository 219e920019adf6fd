/- What the functions do, shown by the logic. -/
import Derived.Test.YtlfhlkndccjejaaKvP2
set_option linter.unusedSimpArgs false
set_option linter.unusedVariables false
set_option maxRecDepth 20000
namespace Go.Proofs.Ytlfhlkndccjejaa.KV
open Go.Proofs.Ytlfhlkndccjejaa.Abs
variable {B : Nat → List AV}
theorem drop127_ok {hs R : HL} {a most : Nat} {v : AV} {last ix : Int} {es : List E} {key : List Nat} (hm : 1 ≤ most) (o : OwnSl v (es.map rowC).flatten es.length 9 hs) (hn : es.length ≤ 1000) (so : Rise es) :
    WF B tab (.func 127) [.ptr ⟨false, a, 0⟩, .str key, .int .u64 ix] ((a, .row (tblC most v last)) :: (hs ++ R)) fun r H' =>
      (findE es key = none ∧ H' = (a, .row (tblC most v last)) :: (hs ++ R)) ∨
      ((∃ x, findE es key = some x) ∧ ∃ v' hs', OwnSl v' ((dropE es key).map rowC).flatten (dropE es key).length 9 hs' ∧ H' = (a, .row (tblC most v' (maxI last ix))) :: (hs' ++ R)) := by
  refine WF.lessP ?_
  refine WF.fn g127 rfl ?_
  have hsl : ∀ {H : HL}, SlIs B (H ++ (hs ++ R)) v 9 (es.map rowC) := SlIs.right (SlIs.left (rows_sl o))
  repeat' (first
    | apply WOps.nil | apply WC.seq | apply WC.reg | apply WC.skip | apply WC.ret | (apply WC.condT; rfl) | (apply WC.condF; rfl) | apply WC.dreg | apply WD.nil | (apply WOps.ldG; rfl; rfl; (first | exact ld0 rfl | exact ld1 rfl | exact ld2 rfl); rfl) | (apply WOps.st; rfl; rfl; (first | exact tk0 | exact tk1 | exact tk2); rfl; (first | rfl | ((repeat' (first | exact ac0 | apply ac1)) <;> (first | rfl | assumption))); rfl) | (apply WOps.bsl; rfl; (first | rfl | ((repeat' (first | exact ac0 | apply ac1)) <;> (first | rfl | assumption))); intro _) | (apply WD.st; rfl; rfl; rfl; (first | exact tk0 | exact tk1 | exact tk2); rfl; (first | rfl | ((repeat' (first | exact ac0 | apply ac1)) <;> (first | rfl | assumption))); rfl) | (apply WD.bsl; rfl; rfl; (first | rfl | ((repeat' (first | exact ac0 | apply ac1)) <;> (first | rfl | assumption))); intro _) | (apply WOps.clR; rfl; rfl; exact none115_ok (most := most) (Ld.own Tk.head rfl) hm; rintro _ rfl) | (apply WOps.clR; rfl; rfl; exact at126_ok (v := v) (Ld.own Tk.head rfl) (hsl (H := [_])) (by omega) (sorted_of so); rintro _ ⟨k, b, rfl, hk, hkb⟩; cases b) | (apply WOps.cmp; rfl; rfl; rfl; rfl; intro _ _) | (apply WOps.cmpT; rfl; rfl; rfl; rfl; intro _ _) | (apply WOps.purG; rfl; (intro _; rfl)) | (apply WD.load; rfl; (first | (apply at1; (first | exact rd0 rfl rfl rfl | exact rd1 rfl rfl rfl | exact rd2 rfl rfl rfl); rfl) | (apply at2; (first | exact rd0 rfl rfl rfl | exact rd1 rfl rfl rfl | exact rd2 rfl rfl rfl); repeat' (first | exact same0 | (apply same1; (first | exact rd0 rfl rfl rfl | exact rd1 rfl rfl rfl | exact rd2 rfl rfl rfl); rfl) | (apply same2; (first | exact rd0 rfl rfl rfl | exact rd1 rfl rfl rfl | exact rd2 rfl rfl rfl)))))) | (apply WD.cmp; rfl; rfl; rfl; rfl; intro _ _) | (apply WD.cmpT; rfl; rfl; rfl; rfl; intro _ _) | (apply WD.pur; rfl; (intro _; rfl)) | (apply WC.condA; rfl; all_goals (intro hb; try subst hb)))
  · rcases find_at (sorted_of so) hk with ⟨h1, h2, h3⟩ | ⟨h1, h2⟩
    · have h := hkb.2 ⟨h1, h2⟩
      cases h
    · exact ⟨trivial, [_], ⟨_, [], rfl, rfl, rfl⟩, _, .inl ⟨h2, rfl⟩, SubP.refl⟩
  · obtain ⟨hlt, hkey⟩ := hkb.1 rfl
    rcases o with ⟨_, hz, _⟩ | ⟨id2, rfl, rfl, hl2⟩
    · omega
    rename_i q
    have hdrop : dropE es key = es.take k ++ es.drop (k + 1) := by
      rcases drop_at (sorted_of so) hk with ⟨h1, h2, h3⟩ | ⟨h1, h2⟩
      · exact h3
      · exact absurd ⟨hlt, hkey⟩ h1
    have hf : findE es key = some es[k] := by
      rcases find_at (sorted_of so) hk with ⟨h1, h2, h3⟩ | ⟨h1, h2⟩
      · exact h3
      · exact absurd ⟨hlt, hkey⟩ h1
    repeat' (first
      | apply WOps.nil | apply WC.seq | apply WC.reg | apply WC.skip | apply WC.ret | (apply WC.condT; rfl) | (apply WC.condF; rfl) | apply WC.dreg | apply WD.nil | (apply WOps.ldG; rfl; rfl; (first | exact ld0 rfl | exact ld1 rfl | exact ld2 rfl); rfl) | (apply WOps.st; rfl; rfl; (first | exact tk0 | exact tk1 | exact tk2); rfl; (first | rfl | ((repeat' (first | exact ac0 | apply ac1)) <;> (first | rfl | assumption))); rfl) | (apply WOps.bsl; rfl; (first | rfl | ((repeat' (first | exact ac0 | apply ac1)) <;> (first | rfl | assumption))); intro _) | (apply WD.st; rfl; rfl; rfl; (first | exact tk0 | exact tk1 | exact tk2); rfl; (first | rfl | ((repeat' (first | exact ac0 | apply ac1)) <;> (first | rfl | assumption))); rfl) | (apply WD.bsl; rfl; rfl; (first | rfl | ((repeat' (first | exact ac0 | apply ac1)) <;> (first | rfl | assumption))); intro _) | (apply WD.slHi; rfl; rfl; rfl; omega) | (apply WD.slLo; rfl; rfl; rfl; omega) | (apply WOps.cmp; rfl; rfl; rfl; rfl; intro _ _) | (apply WOps.cmpT; rfl; rfl; rfl; rfl; intro _ _) | (apply WOps.purG; rfl; (intro _; rfl)) | (apply WD.load; rfl; (first | (apply at1; (first | exact rd0 rfl rfl rfl | exact rd1 rfl rfl rfl | exact rd2 rfl rfl rfl); rfl) | (apply at2; (first | exact rd0 rfl rfl rfl | exact rd1 rfl rfl rfl | exact rd2 rfl rfl rfl); repeat' (first | exact same0 | (apply same1; (first | exact rd0 rfl rfl rfl | exact rd1 rfl rfl rfl | exact rd2 rfl rfl rfl); rfl) | (apply same2; (first | exact rd0 rfl rfl rfl | exact rd1 rfl rfl rfl | exact rd2 rfl rfl rfl)))))) | (apply WD.cmp; rfl; rfl; rfl; rfl; intro _ _) | (apply WD.cmpT; rfl; rfl; rfl; rfl; intro _ _) | (apply WD.pur; rfl; (intro _; rfl)) | (apply WC.condA; rfl; all_goals (intro hb; try subst hb)))
    refine WD.app (h := [(q, .row [])]) (cells := []) (n := 0) (m := k) (xs := ((es.take k).map rowC).flatten) rfl rfl rfl (.inr ⟨q, rfl, rfl, rfl⟩) (List.Perm.refl _) (.inr ⟨_, rfl, .inr (Ld.own (Tk.tail (Tk.tail Tk.head)) ?_)⟩) rfl (rows_cell _) (by rw [rows_len, List.length_take]; omega) (by omega) ?_
    · show takeN (List.drop (0 + 0 * 9) _) _ = _
      rw [Nat.zero_mul, Nat.add_zero, List.drop_zero, takeN_of (by omega), rows_take]
    intro v2 h2 o2
    have hrd : ∀ {G : HL}, Ld B (G ++ (a, .row (tblC most (.sl ⟨false, id2, 0⟩ es.length 9) last)) :: ([(id2, .row (es.map rowC).flatten)] ++ R)) ⟨false, a, 0 + 1⟩ 1 [.sl ⟨false, id2, 0⟩ es.length 9] := Ld.right (Ld.own Tk.head rfl)
    repeat' (first
      | apply WOps.nil | apply WC.seq | apply WC.reg | apply WC.skip | apply WC.ret | (apply WC.condT; rfl) | (apply WC.condF; rfl) | apply WC.dreg | apply WD.nil | (apply WOps.ldG; rfl; rfl; (first | exact ld0 rfl | exact ld1 rfl | exact ld2 rfl); rfl) | (apply WOps.st; rfl; rfl; (first | exact tk0 | exact tk1 | exact tk2); rfl; (first | rfl | ((repeat' (first | exact ac0 | apply ac1)) <;> (first | rfl | assumption))); rfl) | (apply WOps.bsl; rfl; (first | rfl | ((repeat' (first | exact ac0 | apply ac1)) <;> (first | rfl | assumption))); intro _) | (apply WD.st; rfl; rfl; rfl; (first | exact tk0 | exact tk1 | exact tk2); rfl; (first | rfl | ((repeat' (first | exact ac0 | apply ac1)) <;> (first | rfl | assumption))); rfl) | (apply WD.bsl; rfl; rfl; (first | rfl | ((repeat' (first | exact ac0 | apply ac1)) <;> (first | rfl | assumption))); intro _) | (apply WD.load; rfl; (apply at2; exact rd_ld rfl hrd rfl; (apply same2; exact rd_ld rfl (hrd (G := [])) rfl; exact same0))) | (apply WD.addN; rfl; rfl; rfl; omega) | (apply WD.slLo; rfl; rfl; rfl; omega) | (apply WOps.cmp; rfl; rfl; rfl; rfl; intro _ _) | (apply WOps.cmpT; rfl; rfl; rfl; rfl; intro _ _) | (apply WOps.purG; rfl; (intro _; rfl)) | (apply WD.load; rfl; (first | (apply at1; (first | exact rd0 rfl rfl rfl | exact rd1 rfl rfl rfl | exact rd2 rfl rfl rfl); rfl) | (apply at2; (first | exact rd0 rfl rfl rfl | exact rd1 rfl rfl rfl | exact rd2 rfl rfl rfl); repeat' (first | exact same0 | (apply same1; (first | exact rd0 rfl rfl rfl | exact rd1 rfl rfl rfl | exact rd2 rfl rfl rfl); rfl) | (apply same2; (first | exact rd0 rfl rfl rfl | exact rd1 rfl rfl rfl | exact rd2 rfl rfl rfl)))))) | (apply WD.cmp; rfl; rfl; rfl; rfl; intro _ _) | (apply WD.cmpT; rfl; rfl; rfl; rfl; intro _ _) | (apply WD.pur; rfl; (intro _; rfl)) | (apply WC.condA; rfl; all_goals (intro hb; try subst hb)))
    have hdl : ((es.drop (k + 1)).map rowC).flatten.length = (es.length - (k + 1)) * 9 := by rw [rows_len, List.length_drop]
    have hsrc : SrcIs B (h2 ++ ((a, .row (tblC most (.sl ⟨false, id2, 0⟩ es.length 9) last)) :: ([(id2, .row (es.map rowC).flatten)] ++ R))) (.sl ⟨false, id2, 0 + (k + 1) * 9⟩ (es.length - (k + 1)) 9) 9 (es.length - (k + 1)) ((es.drop (k + 1)).map rowC).flatten := by
      refine .inr ⟨_, rfl, .inr (Ld.right (Ld.cons (Ld.own Tk.head ?_)))⟩
      rw [Nat.zero_add, rows_drop, takeN_of (by omega), List.take_of_length_le (by omega)]
    refine WD.app (h := h2) (n := k) rfl rfl rfl (by rw [Nat.zero_add] at o2; exact o2) (List.Perm.refl _) hsrc (rows_cell _) (rows_cell _) hdl (by omega) ?_
    intro v3 h3 o3
    have e : dropE es key = es.take k ++ es.drop (k + 1) := hdrop
    have o4 : OwnSl v3 ((dropE es key).map rowC).flatten (dropE es key).length 9 h3 := by
      rw [e, List.length_append, List.length_take, List.length_drop, List.map_append, List.flatten_append, Nat.min_eq_left (by omega)]
      exact o3
    repeat' (first
      | apply WOps.nil | apply WC.seq | apply WC.reg | apply WC.skip | apply WC.ret | (apply WC.condT; rfl) | (apply WC.condF; rfl) | apply WC.dreg | apply WD.nil | (apply WOps.ldG; rfl; rfl; (first | exact ld0 rfl | exact ld1 rfl | exact ld2 rfl); rfl) | (apply WOps.st; rfl; rfl; (first | exact tk0 | exact tk1 | exact tk2); rfl; (first | rfl | ((repeat' (first | exact ac0 | apply ac1)) <;> (first | rfl | assumption))); rfl) | (apply WOps.bsl; rfl; (first | rfl | ((repeat' (first | exact ac0 | apply ac1)) <;> (first | rfl | assumption))); intro _) | (apply WD.st; rfl; rfl; rfl; (first | exact tk0 | exact tk1 | exact tk2); rfl; (first | rfl | ((repeat' (first | exact ac0 | apply ac1)) <;> (first | rfl | assumption))); rfl) | (apply WD.bsl; rfl; rfl; (first | rfl | ((repeat' (first | exact ac0 | apply ac1)) <;> (first | rfl | assumption))); intro _) | (apply WOps.cmp; rfl; rfl; rfl; rfl; intro _ _) | (apply WOps.cmpT; rfl; rfl; rfl; rfl; intro _ _) | (apply WOps.purG; rfl; (intro _; rfl)) | (apply WD.load; rfl; (first | (apply at1; (first | exact rd0 rfl rfl rfl | exact rd1 rfl rfl rfl | exact rd2 rfl rfl rfl); rfl) | (apply at2; (first | exact rd0 rfl rfl rfl | exact rd1 rfl rfl rfl | exact rd2 rfl rfl rfl); repeat' (first | exact same0 | (apply same1; (first | exact rd0 rfl rfl rfl | exact rd1 rfl rfl rfl | exact rd2 rfl rfl rfl); rfl) | (apply same2; (first | exact rd0 rfl rfl rfl | exact rd1 rfl rfl rfl | exact rd2 rfl rfl rfl)))))) | (apply WD.cmp; rfl; rfl; rfl; rfl; intro _ _) | (apply WD.cmpT; rfl; rfl; rfl; rfl; intro _ _) | (apply WD.pur; rfl; (intro _; rfl)) | (apply WC.condA; rfl; all_goals (intro hb; try subst hb)))
    apply WD.st (cs := tblC most (.sl ⟨false, id2, 0⟩ es.length 9) last) (cs' := tblC most v3 last)
    · rfl
    · rfl
    · rfl
    · exact List.perm_middle
    · rw [o4.cells]; rfl
    · rw [o4.cells]; exact allCell_cons o4.cell allCell_nil
    · rw [o4.cells]; rfl
    repeat' (first
      | apply WOps.nil | apply WC.seq | apply WC.reg | apply WC.skip | apply WC.ret | (apply WC.condT; rfl) | (apply WC.condF; rfl) | apply WC.dreg | apply WD.nil | (apply WOps.ldG; rfl; rfl; (first | exact ld0 rfl | exact ld1 rfl | exact ld2 rfl); rfl) | (apply WOps.st; rfl; rfl; (first | exact tk0 | exact tk1 | exact tk2); rfl; (first | rfl | ((repeat' (first | exact ac0 | apply ac1)) <;> (first | rfl | assumption))); rfl) | (apply WOps.bsl; rfl; (first | rfl | ((repeat' (first | exact ac0 | apply ac1)) <;> (first | rfl | assumption))); intro _) | (apply WD.st; rfl; rfl; rfl; (first | exact tk0 | exact tk1 | exact tk2); rfl; (first | rfl | ((repeat' (first | exact ac0 | apply ac1)) <;> (first | rfl | assumption))); rfl) | (apply WD.bsl; rfl; rfl; (first | rfl | ((repeat' (first | exact ac0 | apply ac1)) <;> (first | rfl | assumption))); intro _) | (apply WOps.clA; rfl; rfl; exact raise63_tk hm Tk.head; rintro _ _ rfl) | (apply WOps.cmp; rfl; rfl; rfl; rfl; intro _ _) | (apply WOps.cmpT; rfl; rfl; rfl; rfl; intro _ _) | (apply WOps.purG; rfl; (intro _; rfl)) | (apply WD.load; rfl; (first | (apply at1; (first | exact rd0 rfl rfl rfl | exact rd1 rfl rfl rfl | exact rd2 rfl rfl rfl); rfl) | (apply at2; (first | exact rd0 rfl rfl rfl | exact rd1 rfl rfl rfl | exact rd2 rfl rfl rfl); repeat' (first | exact same0 | (apply same1; (first | exact rd0 rfl rfl rfl | exact rd1 rfl rfl rfl | exact rd2 rfl rfl rfl); rfl) | (apply same2; (first | exact rd0 rfl rfl rfl | exact rd1 rfl rfl rfl | exact rd2 rfl rfl rfl)))))) | (apply WD.cmp; rfl; rfl; rfl; rfl; intro _ _) | (apply WD.cmpT; rfl; rfl; rfl; rfl; intro _ _) | (apply WD.pur; rfl; (intro _; rfl)) | (apply WC.condA; rfl; all_goals (intro hb; try subst hb)))
    refine ⟨trivial, [_], ⟨_, [], rfl, rfl, rfl⟩, _, .inr ⟨⟨_, hf⟩, v3, h3, o4, rfl⟩, subF (by intro f; simp only [AV.cells, List.append_eq, List.map_cons, List.map_nil, List.sum_nil, List.map_append, List.sum_cons, List.sum_append, List.cons_append, List.nil_append, List.append_assoc, List.append_nil]; omega)⟩
theorem drop127_at {H R : HL} {a most : Nat} {last ix : Int} {es : List E} {key : List Nat} (hm : 1 ≤ most) (hn : es.length ≤ 1000) (so : Rise es) (t : TbAt H a most es last R) :
    WF B tab (.func 127) [.ptr ⟨false, a, 0⟩, .str key, .int .u64 ix] H fun r H' =>
      (findE es key = none ∧ TbAt H' a most es last R) ∨ ((∃ x, findE es key = some x) ∧ TbAt H' a most (dropE es key) (maxI last ix) R) := by
  obtain ⟨v, hs, ow, q⟩ := t
  refine WF.perm q (WF.mono (drop127_ok hm ow hn so) ?_)
  rintro r H' (⟨h1, rfl⟩ | ⟨h1, v', hs', o', rfl⟩)
  · exact .inl ⟨h1, v, hs, ow, List.Perm.refl _⟩
  · exact .inr ⟨h1, v', hs', o', List.Perm.refl _⟩

/-! ### What a change is -/
structure S where
  es : List E
  last : Int
def fullB (most : Nat) (es : List E) (key : List Nat) : Bool := (findE es key).isNone && decide (most ≤ es.length)
theorem fullB_iff {most : Nat} {es : List E} {key : List Nat} : fullB most es key = true ↔ fullP most es key := by
  simp [fullB, fullP]
def putS (most : Nat) (s : S) (e : E) (ix : Int) : S × Nat := if fullB most s.es e.key = true then (s, 5) else (⟨putE s.es (atIx e ix), maxI s.last ix⟩, 0)
def dropS (s : S) (key : List Nat) (ix : Int) : S := match findE s.es key with
  | none => s
  | some _ => ⟨dropE s.es key, maxI s.last ix⟩
def lookE (es : List E) (key : List Nat) : E := match findE es key with
  | none => e0
  | some x => x
def isE (es : List E) (key : List Nat) : Bool := (findE es key).isSome
def firstBad : List (E → Bool → Nat) → E → Bool → Nat
  | [], _, _ => 0
  | f :: r, e, b => if f e b = 0 then firstBad r e b else f e b
open Classical in
noncomputable def applyS (most : Nat) (s : S) (key : List Nat) (asks : List (E → Bool → Nat)) (d : Option (E → E)) (ix : Int) : S × Nat :=
  if keyP key then
    if firstBad asks (lookE s.es key) (isE s.es key) = 0 then
      match d with
      | none => (dropS s key ix, 0)
      | some f => putS most s (f { lookE s.es key with key := key }) ix
    else (s, firstBad asks (lookE s.es key) (isE s.es key))
  else (s, 10)
/-- The table's state. -/
def KvAt (H : HL) (kp a most : Nat) (s : S) (R : HL) : Prop := TbAt H a most s.es s.last ((kp, .row [.ptr ⟨false, a, 0⟩]) :: R)
def AskOk (B : Nat → List AV) (H : HL) (p : AV × (E → Bool → Nat)) : Prop := ∃ g cap, p.1 = .fn (.func g) [] cap ∧ ∀ e is G, WF B tab (.func g) ([] ++ ([.agg (entC e), .bool is] ++ cap)) (G ++ H) fun r H' => H' = G ++ H ∧ r = .int .i64 (.ofNat (p.2 e is))
def DoOk (B : Nat → List AV) (H : HL) (v : AV) (d : Option (E → E)) : Prop := match d with
  | none => v = .nilfn
  | some f => ∃ g cap, v = .fn (.func g) [] cap ∧ ∀ e p G, WF B tab (.func g) ([] ++ ([.ptr ⟨false, p, 0⟩] ++ cap)) ((p, .row (entC e)) :: (G ++ H)) fun r H' => H' = (p, .row (entC (f e))) :: (G ++ H)
theorem SlIs.cells1 {H : HL} {v : AV} {esz : Nat} {xs : List (List AV)} (h : SlIs B H v esz xs) : v.cells = [v] := by
  rcases h with ⟨rfl, _⟩ | ⟨a, rfl, _⟩ <;> rfl
theorem DoOk.cell {H : HL} {v : AV} {d : Option (E → E)} (h : DoOk B H v d) : v.isCell = true ∧ v.cells = [v] := by
  cases d with
  | none => cases h; exact ⟨rfl, rfl⟩
  | some f => obtain ⟨g, cap, rfl, _⟩ := h; exact ⟨rfl, rfl⟩
theorem look_at (es : List E) (key : List Nat) : ∀ r : AV, ((∃ x, findE es key = some x ∧ r = .tup [.agg (entC x), .bool true]) ∨ (findE es key = none ∧ r = .tup [.agg (entC e0), .bool false])) → r = .tup [.agg (entC (lookE es key)), .bool (isE es key)] := by
  rintro r (⟨x, h, rfl⟩ | ⟨h, rfl⟩)
  · simp [lookE, isE, h]
  · simp [lookE, isE, h]
theorem fb_skip {e : E} {b : Bool} : ∀ {l : List (E → Bool → Nat)} {i : Nat}, (∀ j (hj : j < l.length), j < i → l[j] e b = 0) → firstBad l e b = firstBad (l.drop i) e b := by
  intro l
  induction l with
  | nil => intro i _; simp
  | cons f r ih =>
    intro i h
    cases i with
    | zero => rfl
    | succ i =>
      have h0 := h 0 (by simp) (by omega)
      simp only [List.getElem_cons_zero] at h0
      simp only [firstBad, h0, if_true, List.drop_succ_cons]
      exact ih fun j hj hji => h (j + 1) (by simpa using hj) (by omega)
set_option maxHeartbeats 2000000 in
theorem apply83_ok {H R : HL} {kp a most : Nat} {s : S} {key : List Nat} {aks : List (AV × (E → Bool → Nat))} {w dv : AV} {d : Option (E → E)} {ix : Int} (hm : 1 ≤ most) (hn : s.es.length ≤ 999) (so : Rise s.es) (t : KvAt H kp a most s R)
    (hw : SlIs B H w 1 (aks.map fun p => [p.1])) (hlen : aks.length ≤ 10) (hask : ∀ p, p ∈ aks → AskOk B H p) (hd : DoOk B H dv d) (hdk : ∀ f, d = some f → ∀ e, (f e).key = e.key) :
    WF B tab (.func 83) [.ptr ⟨false, kp, 0⟩, .str key, .agg [w, dv], .int .u64 ix] H fun r H' =>
      r = .int .i64 (.ofNat (applyS most s key (aks.map (·.2)) d ix).2) ∧ KvAt H' kp a most (applyS most s key (aks.map (·.2)) d ix).1 R := by
  refine WF.lessP ?_
  refine WF.fn g83 rfl ?_
  have hkA : Ld B ((kp, .row [.ptr ⟨false, a, 0⟩]) :: R) ⟨false, kp, 0⟩ 1 [.ptr ⟨false, a, 0⟩] := Ld.own Tk.head rfl
  have cw := hw.cell
  obtain ⟨cd, ccd⟩ := hd.cell
  unfold KvAt at t
  repeat' (first
    | apply WOps.nil | apply WC.seq | apply WC.reg | apply WC.skip | apply WC.ret | apply WC.exit | (apply WC.condT; rfl) | (apply WC.condF; rfl) | apply WC.block | apply WC.scope | (apply WOps.ldG; rfl; rfl; (first | exact ld0 rfl | exact ld1 rfl | exact ld2 rfl); rfl) | (apply WOps.st; rfl; rfl; (first | exact tk0 | exact tk1 | exact tk2); rfl; (first | rfl | ((repeat' (first | exact ac0 | apply ac1)) <;> (first | rfl | assumption))); rfl) | (apply WOps.alc; rfl; intro _) | (apply WOps.bx; rfl; rfl; (first | rfl | ((repeat' (first | exact ac0 | apply ac1)) <;> (first | rfl | assumption))); intro _) | (apply WOps.clR; rfl; rfl; exact none66_ok (t.ld hkA).cons; rintro _ rfl) | (apply WOps.clR; rfl; rfl; exact key113_ok _; rintro _ ⟨b, rfl, hkey⟩; cases b) | (apply WOps.clR; rfl; rfl; exact get28_at (key := key) hm (by omega) so hkA.cons t.cons; intro r hr; obtain rfl := look_at _ _ _ hr) | (apply WOps.lenS; rfl; rfl; exact hw.cons.cons) | (apply WOps.neqF; rfl; rfl; rfl; decide) | (apply WOps.neqT; rfl; rfl; rfl; decide) | (apply WOps.eqlF; rfl; rfl; rfl; decide) | (apply WOps.eqlT; rfl; rfl; rfl; decide) | (apply WOps.cmp; rfl; rfl; rfl; rfl; intro _ _) | (apply WOps.cmpT; rfl; rfl; rfl; rfl; intro _ _) | (apply WOps.eqB; rfl; rfl; rfl; intro _ _) | (apply WOps.purG; rfl; (intro _; rfl)) | (apply WC.condA; rfl; all_goals (intro hb; try subst hb)))
  · have hk0 : ¬ keyP key := fun h => by have := hkey.2 h; cases this
    refine ⟨trivial, [_], ⟨_, [], rfl, rfl, rfl⟩, H, ⟨?_, ?_⟩, subF (by intro f; simp only [AV.cells, List.append_eq, List.map_cons, List.map_nil, List.sum_nil, List.map_append, List.sum_cons, List.sum_append, List.cons_append, List.nil_append, List.append_assoc, List.append_nil]; omega)⟩
    · simp only [applyS, if_neg hk0]; rfl
    · simp only [applyS, if_neg hk0]; exact t
  · rename_i p6 p9
    have hk1 : keyP key := hkey.1 rfl
    clear hr
    refine WC.mono (Q := fun ex t' H' => ex = .jump (.exit 0) ∧ H' = (p9, .row (entC (lookE s.es key))) :: (p6, .row [w, dv]) :: H ∧ Sub1 [(0, .ptr ⟨false, kp, 0⟩), (1, .str key), (3, .int .u64 ix), (6, .ptr ⟨false, p6, 0⟩), (9, .ptr ⟨false, p9, 0⟩), (11, .int .i64 (.ofNat (firstBad (aks.map (·.2)) (lookE s.es key) (isE s.es key))))] t') ?_ ?_
    · rw [List.length_map]
      generalize lookE s.es key = le
      generalize isE s.es key = is
      refine WC.loop ?_
      obtain ⟨i, hi⟩ : ∃ i : Nat, i = 0 := ⟨0, rfl⟩
      obtain ⟨w11, hw11⟩ : ∃ i : Nat, i = 0 := ⟨0, rfl⟩
      refine WL.le (t' := [(0, .ptr ⟨false, kp, 0⟩), (1, .str key), (3, .int .u64 ix), (6, .ptr ⟨false, p6, 0⟩), (9, .ptr ⟨false, p9, 0⟩), (10, .bool is), (11, .int .i64 (.ofNat w11)), (26, w), (27, .int .i64 (.ofNat aks.length)), (28, .int .i64 (.ofNat i))]) (by subst hi; subst hw11; exact Sub1.cons rfl (Sub1.cons rfl (Sub1.cons rfl (Sub1.cons rfl (Sub1.cons rfl (Sub1.cons rfl (Sub1.cons rfl (Sub1.cons rfl (Sub1.cons rfl (Sub1.cons rfl Sub1.nil)))))))))) ?_
      have hpre : ∀ j (hj : j < aks.length), j < i → aks[j].2 le is = 0 := by intro j hj h; omega
      have hle : i ≤ aks.length := by omega
      clear hi
      induction hk : aks.length - i using Nat.strongRecOn generalizing i w11 with | _ k ih => ?_
      have hfb : firstBad (aks.map (·.2)) le is = firstBad ((aks.drop i).map (·.2)) le is := by
        rw [fb_skip (i := i) (fun j hj hji => by rw [List.getElem_map]; exact hpre j (by simpa using hj) hji), List.map_drop]
      apply WL.step
      repeat' (first
        | apply WOps.nil | apply WC.seq | apply WC.reg | apply WC.skip | apply WC.ret | apply WC.exit | (apply WC.condT; rfl) | (apply WC.condF; rfl) | apply WC.block | apply WC.scope | (apply WOps.ldG; rfl; rfl; (first | exact ld0 rfl | exact ld1 rfl | exact ld2 rfl); rfl) | (apply WOps.st; rfl; rfl; (first | exact tk0 | exact tk1 | exact tk2); rfl; (first | rfl | ((repeat' (first | exact ac0 | apply ac1)) <;> (first | rfl | assumption))); rfl) | (apply WOps.alc; rfl; intro _) | (apply WOps.bx; rfl; rfl; (first | rfl | ((repeat' (first | exact ac0 | apply ac1)) <;> (first | rfl | assumption))); intro _) | (apply WOps.cmp; rfl; rfl; rfl; rfl; intro _ _) | (apply WOps.cmpT; rfl; rfl; rfl; rfl; intro _ _) | (apply WOps.eqB; rfl; rfl; rfl; intro _ _) | (apply WOps.purG; rfl; (intro _; rfl)) | (apply WC.condA; rfl; all_goals (intro hb; try subst hb)))
      · have hlt : i < aks.length := by
          have h0 := ‹true = true ↔ cmpP BinOp.lss (Int.ofNat i) (Int.ofNat aks.length)›
          simp [cmpP] at h0; omega
        obtain ⟨g, cap, hg, hsp⟩ := hask _ (List.getElem_mem hlt)
        have hcm : (aks.map fun p => [p.1])[i]? = some [.fn (.func g) [] cap] := by rw [List.getElem?_map, List.getElem?_eq_getElem hlt]; simp only [Option.map_some, hg]
        rw [List.drop_eq_getElem_cons hlt] at hfb
        simp only [List.map_cons, firstBad] at hfb
        repeat' (first
          | apply WOps.nil | apply WC.seq | apply WC.reg | apply WC.skip | apply WC.ret | apply WC.exit | (apply WC.condT; rfl) | (apply WC.condF; rfl) | apply WC.block | apply WC.scope | (apply WOps.ldG; rfl; rfl; (first | exact ld0 rfl | exact ld1 rfl | exact ld2 rfl); rfl) | (apply WOps.st; rfl; rfl; (first | exact tk0 | exact tk1 | exact tk2); rfl; (first | rfl | ((repeat' (first | exact ac0 | apply ac1)) <;> (first | rfl | assumption))); rfl) | (apply WOps.alc; rfl; intro _) | (apply WOps.bx; rfl; rfl; (first | rfl | ((repeat' (first | exact ac0 | apply ac1)) <;> (first | rfl | assumption))); intro _) | (apply WOps.ixSl; rfl; rfl; rfl; exact hw.cons.cons; exact hcm; intro ax hax) | (apply WOps.ldG; rfl; rfl; exact hax; rfl) | (apply WOps.cvR; rfl; rfl; rfl; exact hsp le is [_, _]; rintro _ rfl) | (apply WOps.addN; rfl; rfl; rfl; omega) | (apply WOps.cmp; rfl; rfl; rfl; rfl; intro _ _) | (apply WOps.cmpT; rfl; rfl; rfl; rfl; intro _ _) | (apply WOps.eqB; rfl; rfl; rfl; intro _ _) | (apply WOps.purG; rfl; (intro _; rfl)) | (apply WC.condA; rfl; all_goals (intro hb; try subst hb)))
        · have hne := ‹true = true ↔ cmpP BinOp.neq (Int.ofNat (aks[i].2 le is)) (Int.ofNat 0)›
          have hne2 : aks[i].2 le is ≠ 0 := by
            intro h
            rw [h] at hne
            exact hne.1 rfl rfl
          rw [if_neg hne2] at hfb
          rw [hfb]
          exact ⟨rfl, rfl, Sub1.cons rfl (Sub1.cons rfl (Sub1.cons rfl (Sub1.cons rfl (Sub1.cons rfl (Sub1.cons rfl Sub1.nil)))))⟩
        · have hne := ‹false = true ↔ cmpP BinOp.neq (Int.ofNat (aks[i].2 le is)) (Int.ofNat 0)›
          have h0 : aks[i].2 le is = 0 := by
            have h1 : ¬ cmpP BinOp.neq (Int.ofNat (aks[i].2 le is)) (Int.ofNat 0) := fun h => by have := hne.2 h; cases this
            simp only [cmpP, Decidable.not_not, Int.ofNat_eq_natCast] at h1
            omega
          refine WL.le (t' := [(0, .ptr ⟨false, kp, 0⟩), (1, .str key), (3, .int .u64 ix), (6, .ptr ⟨false, p6, 0⟩), (9, .ptr ⟨false, p9, 0⟩), (10, .bool is), (11, .int .i64 (.ofNat (aks[i].2 le is))), (26, w), (27, .int .i64 (.ofNat aks.length)), (28, .int .i64 (.ofNat (i + 1)))]) (Sub1.cons rfl (Sub1.cons rfl (Sub1.cons rfl (Sub1.cons rfl (Sub1.cons rfl (Sub1.cons rfl (Sub1.cons rfl (Sub1.cons rfl (Sub1.cons rfl (Sub1.cons rfl Sub1.nil)))))))))) (ih _ (by omega) (i + 1) _ h0 ?_ (by omega) rfl)
          intro j hj h
          rcases Nat.lt_or_ge j i with h1 | h1
          · exact hpre j hj h1
          · obtain rfl : j = i := by omega
            exact h0
      · have hge : ¬ i < aks.length := by
          have h0 := ‹false = true ↔ cmpP BinOp.lss (Int.ofNat i) (Int.ofNat aks.length)›
          simp [cmpP] at h0; omega
        obtain rfl : i = aks.length := by omega
        rw [hfb, List.drop_length, hw11]
        exact ⟨rfl, rfl, Sub1.cons rfl (Sub1.cons rfl (Sub1.cons rfl (Sub1.cons rfl (Sub1.cons rfl (Sub1.cons rfl Sub1.nil)))))⟩
    · rintro _ t' _ ⟨rfl, rfl, hsub⟩
      refine WC.le hsub ?_
      have hn2 : s.es.length ≤ 1000 := by omega
      by_cases hz : firstBad (aks.map (·.2)) (lookE s.es key) (isE s.es key) = 0
      · rw [hz]
        cases d with
        | none =>
          have hA : applyS most s key (aks.map (·.2)) none ix = (dropS s key ix, 0) := by
            simp only [applyS, if_pos hk1, if_pos hz]
          rw [hA]
          cases hd
          repeat' (first
            | apply WOps.nil | apply WC.seq | apply WC.reg | apply WC.skip | apply WC.ret | apply WC.exit | (apply WC.condT; rfl) | (apply WC.condF; rfl) | apply WC.block | apply WC.scope | (apply WOps.ldG; rfl; rfl; (first | exact ld0 rfl | exact ld1 rfl | exact ld2 rfl); rfl) | (apply WOps.st; rfl; rfl; (first | exact tk0 | exact tk1 | exact tk2); rfl; (first | rfl | ((repeat' (first | exact ac0 | apply ac1)) <;> (first | rfl | assumption))); rfl) | (apply WOps.alc; rfl; intro _) | (apply WOps.bx; rfl; rfl; (first | rfl | ((repeat' (first | exact ac0 | apply ac1)) <;> (first | rfl | assumption))); intro _) | (apply WOps.ldG; rfl; rfl; exact (t.ld hkA).cons.cons; rfl) | (apply WOps.clA; rfl; rfl; exact drop127_at (key := key) hm hn2 so t.cons.cons; rintro _ H1 (⟨hf, t1⟩ | ⟨⟨x, hf⟩, t1⟩)) | (apply WOps.neqF; rfl; rfl; rfl; decide) | (apply WOps.neqT; rfl; rfl; rfl; decide) | (apply WOps.eqlF; rfl; rfl; rfl; decide) | (apply WOps.eqlT; rfl; rfl; rfl; decide) | (apply WOps.cmp; rfl; rfl; rfl; rfl; intro _ _) | (apply WOps.cmpT; rfl; rfl; rfl; rfl; intro _ _) | (apply WOps.eqB; rfl; rfl; rfl; intro _ _) | (apply WOps.purG; rfl; (intro _; rfl)) | (apply WC.condA; rfl; all_goals (intro hb; try subst hb)))
          · obtain ⟨H3, t3, s3⟩ := t1.less (R1 := (kp, .row [.ptr ⟨false, a, 0⟩]) :: R) (subF (by intro f; simp only [AV.cells, List.append_eq, List.map_cons, List.map_nil, List.sum_nil, List.map_append, List.sum_cons, List.sum_append, List.cons_append, List.nil_append, List.append_assoc, List.append_nil]; omega))
            refine ⟨trivial, [_], ⟨_, [], rfl, rfl, rfl⟩, H3, ⟨rfl, ?_⟩, s3⟩
            simp only [dropS, hf]; exact t3
          · obtain ⟨H3, t3, s3⟩ := t1.less (R1 := (kp, .row [.ptr ⟨false, a, 0⟩]) :: R) (subF (by intro f; simp only [AV.cells, List.append_eq, List.map_cons, List.map_nil, List.sum_nil, List.map_append, List.sum_cons, List.sum_append, List.cons_append, List.nil_append, List.append_assoc, List.append_nil]; omega))
            refine ⟨trivial, [_], ⟨_, [], rfl, rfl, rfl⟩, H3, ⟨rfl, ?_⟩, s3⟩
            simp only [dropS, hf]; exact t3
        | some f =>
          have hA : applyS most s key (aks.map (·.2)) (some f) ix = putS most s (f { lookE s.es key with key := key }) ix := by
            simp only [applyS, if_pos hk1, if_pos hz]
          rw [hA]
          obtain ⟨g, cap, rfl, hsp⟩ := hd
          have hfk := hdk f rfl
          repeat' (first
            | apply WOps.nil | apply WC.seq | apply WC.reg | apply WC.skip | apply WC.ret | apply WC.exit | (apply WC.condT; rfl) | (apply WC.condF; rfl) | apply WC.block | apply WC.scope | (apply WOps.ldG; rfl; rfl; (first | exact ld0 rfl | exact ld1 rfl | exact ld2 rfl); rfl) | (apply WOps.st; rfl; rfl; (first | exact tk0 | exact tk1 | exact tk2); rfl; (first | rfl | ((repeat' (first | exact ac0 | apply ac1)) <;> (first | rfl | assumption))); rfl) | (apply WOps.alc; rfl; intro _) | (apply WOps.bx; rfl; rfl; (first | rfl | ((repeat' (first | exact ac0 | apply ac1)) <;> (first | rfl | assumption))); intro _) | (apply WOps.cvA; rfl; rfl; rfl; exact hsp { lookE s.es key with key := key } p9 [_]; rintro _ _ rfl) | (apply WOps.clA; rfl; rfl; exact put62_at (e := f { lookE s.es key with key := key }) hm hn2 so hkA.cons.cons t.cons.cons; rintro _ H1 (⟨hf, rfl, t1⟩ | ⟨hf, rfl, t1⟩)) | (apply WOps.neqF; rfl; rfl; rfl; decide) | (apply WOps.neqT; rfl; rfl; rfl; decide) | (apply WOps.eqlF; rfl; rfl; rfl; decide) | (apply WOps.eqlT; rfl; rfl; rfl; decide) | (apply WOps.cmp; rfl; rfl; rfl; rfl; intro _ _) | (apply WOps.cmpT; rfl; rfl; rfl; rfl; intro _ _) | (apply WOps.eqB; rfl; rfl; rfl; intro _ _) | (apply WOps.purG; rfl; (intro _; rfl)) | (apply WC.condA; rfl; all_goals (intro hb; try subst hb)))
          · obtain ⟨H3, t3, s3⟩ := t1.less (R1 := (kp, .row [.ptr ⟨false, a, 0⟩]) :: R) (subF (by intro f; simp only [AV.cells, List.append_eq, List.map_cons, List.map_nil, List.sum_nil, List.map_append, List.sum_cons, List.sum_append, List.cons_append, List.nil_append, List.append_assoc, List.append_nil]; omega))
            have hA2 : putS most s (f { lookE s.es key with key := key }) ix = (s, 5) := by simp only [putS, if_pos (fullB_iff.2 hf)]
            rw [hA2]
            exact ⟨trivial, [_], ⟨_, [], rfl, rfl, rfl⟩, H3, ⟨rfl, t3⟩, s3⟩
          · obtain ⟨H3, t3, s3⟩ := t1.less (R1 := (kp, .row [.ptr ⟨false, a, 0⟩]) :: R) (subF (by intro f; simp only [AV.cells, List.append_eq, List.map_cons, List.map_nil, List.sum_nil, List.map_append, List.sum_cons, List.sum_append, List.cons_append, List.nil_append, List.append_assoc, List.append_nil]; omega))
            have hA2 : putS most s (f { lookE s.es key with key := key }) ix = (⟨putE s.es (atIx (f { lookE s.es key with key := key }) ix), maxI s.last ix⟩, 0) := by simp only [putS, if_neg (fun h => hf (fullB_iff.1 h))]
            rw [hA2]
            exact ⟨trivial, [_], ⟨_, [], rfl, rfl, rfl⟩, H3, ⟨rfl, t3⟩, s3⟩
      · have hA : applyS most s key (aks.map (·.2)) d ix = (s, firstBad (aks.map (·.2)) (lookE s.es key) (isE s.es key)) := by
          simp only [applyS, if_pos hk1, if_neg hz]
        rw [hA]
        generalize firstBad (aks.map (·.2)) (lookE s.es key) (isE s.es key) = fb at *
        repeat' (first
          | apply WOps.nil | apply WC.seq | apply WC.reg | apply WC.skip | apply WC.ret | apply WC.exit | (apply WC.condT; rfl) | (apply WC.condF; rfl) | apply WC.block | apply WC.scope | (apply WOps.ldG; rfl; rfl; (first | exact ld0 rfl | exact ld1 rfl | exact ld2 rfl); rfl) | (apply WOps.st; rfl; rfl; (first | exact tk0 | exact tk1 | exact tk2); rfl; (first | rfl | ((repeat' (first | exact ac0 | apply ac1)) <;> (first | rfl | assumption))); rfl) | (apply WOps.alc; rfl; intro _) | (apply WOps.bx; rfl; rfl; (first | rfl | ((repeat' (first | exact ac0 | apply ac1)) <;> (first | rfl | assumption))); intro _) | (apply WOps.cmp; rfl; rfl; rfl; rfl; intro _ _) | (apply WOps.cmpT; rfl; rfl; rfl; rfl; intro _ _) | (apply WOps.eqB; rfl; rfl; rfl; intro _ _) | (apply WOps.purG; rfl; (intro _; rfl)) | (apply WC.condA; rfl; all_goals (intro hb; try subst hb)))
        · obtain ⟨H3, t3, s3⟩ := t.cons.cons.less (R1 := (kp, .row [.ptr ⟨false, a, 0⟩]) :: R) (subF (by intro f; simp only [AV.cells, List.append_eq, List.map_cons, List.map_nil, List.sum_nil, List.map_append, List.sum_cons, List.sum_append, List.cons_append, List.nil_append, List.append_assoc, List.append_nil]; omega))
          exact ⟨trivial, [_], ⟨_, [], rfl, rfl, rfl⟩, H3, ⟨rfl, t3⟩, s3⟩
        · have hne := ‹false = true ↔ cmpP BinOp.neq (Int.ofNat fb) (Int.ofNat 0)›
          have h1 : ¬ cmpP BinOp.neq (Int.ofNat fb) (Int.ofNat 0) := fun h => by have := hne.2 h; cases this
          simp only [cmpP, Decidable.not_not, Int.ofNat_eq_natCast] at h1
          omega
def shortF (v : List Nat) : E → Bool → Nat := fun _ _ => if v.length ≤ 64 then 0 else 3
def thereF : E → Bool → Nat := fun _ is => if is = true then 0 else 4
def turnF (old : Int) : E → Bool → Nat := fun e is => if (is = true ↔ ¬ old = 0) ∧ e.ix = old then 0 else 21
def sameF (old : Int) : E → Bool → Nat := fun e _ => if e.ix = old then 0 else 21
def lockF (ses : Int) : E → Bool → Nat := fun e _ => if ses = 0 then 2 else if ¬ e.ses = 0 ∧ ¬ e.ses = ses then 22 else 0
def holdF (ses : Int) : E → Bool → Nat := fun e _ => if ses = 0 ∨ ¬ e.ses = ses then 22 else 0
def valD (v : List Nat) (e : E) : E := { e with val := v }
def lockD (ses : Int) (v : List Nat) (e : E) : E := { e with locks := if e.ses = ses then e.locks else IntKind.u64.wrap (e.locks + Int.ofNat 1), ses := ses, val := v }
def freeD (v : List Nat) (e : E) : E := { e with ses := Int.ofNat 0, val := v }
theorem short_ok {H : HL} {c : Nat} {v : List Nat} (h : Ld B H ⟨false, c, 0⟩ 1 [.str v]) : AskOk B H (.fn (.func 128) [] [.ptr ⟨false, c, 0⟩], shortF v) := by
  refine ⟨128, [_], rfl, fun e is G => ?_⟩
  refine WF.fnR g128 rfl ?_
  repeat' (first
    | apply WOps.nil | apply WC.seq | apply WC.reg | apply WC.skip | apply WC.ret | (apply WC.condT; rfl) | (apply WC.condF; rfl) | (apply WOps.ldG; rfl; rfl; (first | exact ld0 rfl | exact ld1 rfl | exact ld2 rfl); rfl) | (apply WOps.bx; rfl; rfl; (first | rfl | ((repeat' (first | exact ac0 | apply ac1)) <;> (first | rfl | assumption))); intro _) | (apply WOps.ldG; rfl; rfl; exact (Ld.right h).cons; rfl) | (apply WOps.lenT; rfl; rfl) | (apply WOps.cmp; rfl; rfl; rfl; rfl; intro _ _) | (apply WOps.cmpT; rfl; rfl; rfl; rfl; intro _ _) | (apply WOps.purG; rfl; (intro _; rfl)) | (apply WC.condA; rfl; all_goals (intro hb; try subst hb)))
  all_goals refine ⟨trivial, List.sublist_cons_self _ _, [_], ⟨_, [], rfl, rfl, rfl⟩, ?_⟩
  · have h1 := ‹true = true ↔ cmpP BinOp.gtr (Int.ofNat v.length) (Int.ofNat 64)›
    simp only [cmpP, true_iff, Int.ofNat_eq_natCast] at h1
    simp only [shortF, if_neg (show ¬ v.length ≤ 64 by omega)]; rfl
  · have h1 := ‹false = true ↔ cmpP BinOp.gtr (Int.ofNat v.length) (Int.ofNat 64)›
    simp only [cmpP, Bool.false_eq_true, false_iff, Int.ofNat_eq_natCast] at h1
    simp only [shortF, if_pos (show v.length ≤ 64 by omega)]; rfl
theorem there_ok {H : HL} : AskOk B H (.fn (.func 119) [] [], thereF) := by
  refine ⟨119, [], rfl, fun e is G => ?_⟩
  refine WF.fnR g119 rfl ?_
  cases is
  · repeat' (first
      | apply WOps.nil | apply WC.seq | apply WC.reg | apply WC.skip | apply WC.ret | (apply WC.condT; rfl) | (apply WC.condF; rfl) | (apply WOps.bx; rfl; rfl; (first | rfl | ((repeat' (first | exact ac0 | apply ac1)) <;> (first | rfl | assumption))); intro _) | (apply WOps.purG; rfl; (intro _; rfl)) | (apply WC.condA; rfl; all_goals (intro hb; try subst hb)))
    exact ⟨trivial, List.sublist_cons_self _ _, [_], ⟨_, [], rfl, rfl, rfl⟩, rfl⟩
  · repeat' (first
      | apply WOps.nil | apply WC.seq | apply WC.reg | apply WC.skip | apply WC.ret | (apply WC.condT; rfl) | (apply WC.condF; rfl) | (apply WOps.bx; rfl; rfl; (first | rfl | ((repeat' (first | exact ac0 | apply ac1)) <;> (first | rfl | assumption))); intro _) | (apply WOps.purG; rfl; (intro _; rfl)) | (apply WC.condA; rfl; all_goals (intro hb; try subst hb)))
    exact ⟨trivial, List.sublist_cons_self _ _, [_], ⟨_, [], rfl, rfl, rfl⟩, rfl⟩
theorem same_ok {H : HL} {c : Nat} {v : Int} (h : Ld B H ⟨false, c, 0⟩ 1 [.int .u64 v]) : AskOk B H (.fn (.func 121) [] [.ptr ⟨false, c, 0⟩], sameF v) := by
  refine ⟨121, [_], rfl, fun e is G => ?_⟩
  refine WF.fnR g121 rfl ?_
  repeat' (first
    | apply WOps.nil | apply WC.seq | apply WC.reg | apply WC.skip | apply WC.ret | (apply WC.condT; rfl) | (apply WC.condF; rfl) | (apply WOps.ldG; rfl; rfl; (first | exact ld0 rfl | exact ld1 rfl | exact ld2 rfl); rfl) | (apply WOps.bx; rfl; rfl; (first | rfl | ((repeat' (first | exact ac0 | apply ac1)) <;> (first | rfl | assumption))); intro _) | (apply WOps.ldG; rfl; rfl; exact (Ld.right h).cons; rfl) | (apply WOps.cmp; rfl; rfl; rfl; rfl; intro _ _) | (apply WOps.cmpT; rfl; rfl; rfl; rfl; intro _ _) | (apply WOps.purG; rfl; (intro _; rfl)) | (apply WC.condA; rfl; all_goals (intro hb; try subst hb)))
  all_goals refine ⟨trivial, List.sublist_cons_self _ _, [_], ⟨_, [], rfl, rfl, rfl⟩, ?_⟩
  · have h1 := ‹true = true ↔ cmpP BinOp.neq e.ix v›
    simp only [cmpP, true_iff] at h1
    simp only [sameF, if_neg h1]; rfl
  · have h1 := ‹false = true ↔ cmpP BinOp.neq e.ix v›
    simp only [cmpP, Bool.false_eq_true, false_iff, Decidable.not_not] at h1
    simp only [sameF, if_pos h1]; rfl
theorem turn_ok {H : HL} {c : Nat} {v : Int} (h : Ld B H ⟨false, c, 0⟩ 1 [.int .u64 v]) : AskOk B H (.fn (.func 129) [] [.ptr ⟨false, c, 0⟩], turnF v) := by
  refine ⟨129, [_], rfl, fun e is G => ?_⟩
  refine WF.fnR g129 rfl ?_
  repeat' (first
    | apply WOps.nil | apply WC.seq | apply WC.reg | apply WC.skip | apply WC.ret | (apply WC.condT; rfl) | (apply WC.condF; rfl) | (apply WOps.ldG; rfl; rfl; (first | exact ld0 rfl | exact ld1 rfl | exact ld2 rfl); rfl) | (apply WOps.bx; rfl; rfl; (first | rfl | ((repeat' (first | exact ac0 | apply ac1)) <;> (first | rfl | assumption))); intro _) | (apply WOps.ldG; rfl; rfl; exact (Ld.right h).cons; rfl) | (apply WOps.cmp; rfl; rfl; rfl; rfl; intro _ _) | (apply WOps.cmpT; rfl; rfl; rfl; rfl; intro _ _) | (apply WOps.eqB; rfl; rfl; rfl; intro _ _) | (apply WOps.purG; rfl; (intro _; rfl)) | (apply WOps.skp; rfl) | (apply WOps.ask; rfl; all_goals (intro hb; first | subst hb | fail_if_success (cases hb))) | (apply WC.condA; rfl; all_goals (intro hb; try subst hb)))
  all_goals refine ⟨trivial, List.sublist_cons_self _ _, [_], ⟨_, [], rfl, rfl, rfl⟩, ?_⟩
  all_goals rename_i v1 hv1 _
  all_goals (simp only [turnF]; cases is <;> cases v1 <;> simp_all [cmpP, tupOf])
theorem lockA_ok {H : HL} {c : Nat} {v : Int} (h : Ld B H ⟨false, c, 0⟩ 1 [.int .u64 v]) : AskOk B H (.fn (.func 87) [] [.ptr ⟨false, c, 0⟩], lockF v) := by
  refine ⟨87, [_], rfl, fun e is G => ?_⟩
  refine WF.fnR g87 rfl ?_
  repeat' (first
    | apply WOps.nil | apply WC.seq | apply WC.reg | apply WC.skip | apply WC.ret | (apply WC.condT; rfl) | (apply WC.condF; rfl) | apply WC.block | (apply WOps.ldG; rfl; rfl; (first | exact ld0 rfl | exact ld1 rfl | exact ld2 rfl); rfl) | (apply WOps.bx; rfl; rfl; (first | rfl | ((repeat' (first | exact ac0 | apply ac1)) <;> (first | rfl | assumption))); intro _) | (apply WOps.ldG; rfl; rfl; exact (Ld.right h).cons; rfl) | (apply WOps.cmp; rfl; rfl; rfl; rfl; intro _ _) | (apply WOps.cmpT; rfl; rfl; rfl; rfl; intro _ _) | (apply WOps.purG; rfl; (intro _; rfl)) | (apply WOps.skp; rfl) | (apply WOps.ask; rfl; all_goals (intro hb; first | subst hb | fail_if_success (cases hb))) | (apply WC.condA; rfl; all_goals (intro hb; try subst hb)))
  all_goals refine ⟨trivial, List.sublist_cons_self _ _, [_], ⟨_, [], rfl, rfl, rfl⟩, ?_⟩
  all_goals simp only [cmpP, Bool.false_eq_true, false_iff, true_iff, Decidable.not_not] at *
  all_goals (simp only [lockF]; simp_all [tupOf])
theorem hold_ok {H : HL} {c : Nat} {v : Int} (h : Ld B H ⟨false, c, 0⟩ 1 [.int .u64 v]) : AskOk B H (.fn (.func 122) [] [.ptr ⟨false, c, 0⟩], holdF v) := by
  refine ⟨122, [_], rfl, fun e is G => ?_⟩
  refine WF.fnR g122 rfl ?_
  repeat' (first
    | apply WOps.nil | apply WC.seq | apply WC.reg | apply WC.skip | apply WC.ret | (apply WC.condT; rfl) | (apply WC.condF; rfl) | (apply WOps.ldG; rfl; rfl; (first | exact ld0 rfl | exact ld1 rfl | exact ld2 rfl); rfl) | (apply WOps.bx; rfl; rfl; (first | rfl | ((repeat' (first | exact ac0 | apply ac1)) <;> (first | rfl | assumption))); intro _) | (apply WOps.ldG; rfl; rfl; exact (Ld.right h).cons; rfl) | (apply WOps.cmp; rfl; rfl; rfl; rfl; intro _ _) | (apply WOps.cmpT; rfl; rfl; rfl; rfl; intro _ _) | (apply WOps.purG; rfl; (intro _; rfl)) | (apply WOps.skp; rfl) | (apply WOps.ask; rfl; all_goals (intro hb; first | subst hb | fail_if_success (cases hb))) | (apply WC.condA; rfl; all_goals (intro hb; try subst hb)))
  all_goals refine ⟨trivial, List.sublist_cons_self _ _, [_], ⟨_, [], rfl, rfl, rfl⟩, ?_⟩
  all_goals simp only [cmpP, Bool.false_eq_true, false_iff, true_iff, Decidable.not_not] at *
  all_goals (simp only [holdF]; simp_all [tupOf])
theorem valD_ok {H : HL} {c : Nat} {v : List Nat} (h : Ld B H ⟨false, c, 0⟩ 1 [.str v]) : DoOk B H (.fn (.func 130) [] [.ptr ⟨false, c, 0⟩]) (some (valD v)) := by
  refine ⟨130, [_], rfl, fun e p G => ?_⟩
  refine WF.fn g130 rfl ?_
  repeat' (first
    | apply WOps.nil | apply WC.seq | apply WC.reg | apply WC.skip | apply WC.ret | (apply WOps.ldG; rfl; rfl; (first | exact ld0 rfl | exact ld1 rfl | exact ld2 rfl); rfl) | (apply WOps.st; rfl; rfl; (first | exact tk0 | exact tk1 | exact tk2); rfl; (first | rfl | ((repeat' (first | exact ac0 | apply ac1)) <;> (first | rfl | assumption))); rfl) | (apply WOps.ldG; rfl; rfl; exact (Ld.right h).cons; rfl) | (apply WOps.purG; rfl; (intro _; rfl)))
  exact ⟨trivial, [], rfl, rfl⟩
theorem lockD_ok {H : HL} {c c2 : Nat} {ses : Int} {v : List Nat} (h : Ld B H ⟨false, c, 0⟩ 1 [.int .u64 ses]) (h2 : Ld B H ⟨false, c2, 0⟩ 1 [.str v]) : DoOk B H (.fn (.func 88) [] [.ptr ⟨false, c, 0⟩, .ptr ⟨false, c2, 0⟩]) (some (lockD ses v)) := by
  refine ⟨88, [_, _], rfl, fun e p G => ?_⟩
  refine WF.fn g88 rfl ?_
  repeat' (first
    | apply WOps.nil | apply WC.seq | apply WC.reg | apply WC.skip | apply WC.ret | (apply WC.condT; rfl) | (apply WC.condF; rfl) | apply WC.dreg | apply WD.nil | (apply WOps.ldG; rfl; rfl; (first | exact ld0 rfl | exact ld1 rfl | exact ld2 rfl); rfl) | (apply WOps.st; rfl; rfl; (first | exact tk0 | exact tk1 | exact tk2); rfl; (first | rfl | ((repeat' (first | exact ac0 | apply ac1)) <;> (first | rfl | assumption))); rfl) | (apply WD.st; rfl; rfl; rfl; (first | exact tk0 | exact tk1 | exact tk2); rfl; (first | rfl | ((repeat' (first | exact ac0 | apply ac1)) <;> (first | rfl | assumption))); rfl) | (apply WD.load; rfl; (apply at2; exact rd_ld0 rfl (Ld.right h).cons; exact same0)) | (apply WD.load; rfl; (apply at2; exact rd_ld0 rfl (Ld.right h2).cons; (apply same2; exact rd_ld0 rfl (Ld.right h2).cons; exact same0))) | (apply WOps.cmp; rfl; rfl; rfl; rfl; intro _ _) | (apply WOps.cmpT; rfl; rfl; rfl; rfl; intro _ _) | (apply WOps.purG; rfl; (intro _; rfl)) | (apply WD.load; rfl; (first | (apply at1; (first | exact rd0 rfl rfl rfl | exact rd1 rfl rfl rfl | exact rd2 rfl rfl rfl); rfl) | (apply at2; (first | exact rd0 rfl rfl rfl | exact rd1 rfl rfl rfl | exact rd2 rfl rfl rfl); repeat' (first | exact same0 | (apply same1; (first | exact rd0 rfl rfl rfl | exact rd1 rfl rfl rfl | exact rd2 rfl rfl rfl); rfl) | (apply same2; (first | exact rd0 rfl rfl rfl | exact rd1 rfl rfl rfl | exact rd2 rfl rfl rfl)))))) | (apply WD.cmp; rfl; rfl; rfl; rfl; intro _ _) | (apply WD.cmpT; rfl; rfl; rfl; rfl; intro _ _) | (apply WD.pur; rfl; (intro _; rfl)) | (apply WC.condA; rfl; all_goals (intro hb; try subst hb)))
  · have h1 := ‹true = true ↔ cmpP BinOp.neq e.ses ses›
    simp only [cmpP, true_iff] at h1
    refine ⟨trivial, [], rfl, ?_⟩
    simp only [lockD, if_neg h1]; rfl
  · have h1 := ‹false = true ↔ cmpP BinOp.neq e.ses ses›
    simp only [cmpP, Bool.false_eq_true, false_iff, Decidable.not_not] at h1
    refine ⟨trivial, [], rfl, ?_⟩
    simp only [lockD, if_pos h1]; rfl
theorem freeD_ok {H : HL} {c : Nat} {v : List Nat} (h : Ld B H ⟨false, c, 0⟩ 1 [.str v]) : DoOk B H (.fn (.func 123) [] [.ptr ⟨false, c, 0⟩]) (some (freeD v)) := by
  refine ⟨123, [_], rfl, fun e p G => ?_⟩
  refine WF.fn g123 rfl ?_
  repeat' (first
    | apply WC.seq | apply WC.reg | apply WC.skip | apply WC.ret | apply WC.dreg | apply WD.nil | (apply WD.st; rfl; rfl; rfl; (first | exact tk0 | exact tk1 | exact tk2); rfl; (first | rfl | ((repeat' (first | exact ac0 | apply ac1)) <;> (first | rfl | assumption))); rfl) | (apply WD.load; rfl; (apply at2; exact rd_ld0 rfl (Ld.right h).cons; (apply same2; exact rd_ld0 rfl (Ld.right h).cons; exact same0))) | (apply WD.load; rfl; (first | (apply at1; (first | exact rd0 rfl rfl rfl | exact rd1 rfl rfl rfl | exact rd2 rfl rfl rfl); rfl) | (apply at2; (first | exact rd0 rfl rfl rfl | exact rd1 rfl rfl rfl | exact rd2 rfl rfl rfl); repeat' (first | exact same0 | (apply same1; (first | exact rd0 rfl rfl rfl | exact rd1 rfl rfl rfl | exact rd2 rfl rfl rfl); rfl) | (apply same2; (first | exact rd0 rfl rfl rfl | exact rd1 rfl rfl rfl | exact rd2 rfl rfl rfl)))))) | (apply WD.pur; rfl; (intro _; rfl)))
  exact ⟨trivial, [], rfl, rfl⟩

theorem sl1_one {H : HL} {id : Nat} {f : AV} (tk : Ld B H ⟨false, id, 0⟩ 1 [f]) : SlIs B H (.sl ⟨false, id, 0⟩ 1 1) 1 [[f]] := by
  refine .inr ⟨_, rfl, fun i c h => ?_⟩
  cases i with
  | zero => cases h; exact tk
  | succ i => simp at h
theorem sl_row {H R : HL} {id : Nat} {l : List AV} (tk : Tk H id (.row l) R) : SlIs B H (.sl ⟨false, id, 0⟩ l.length 1) 1 (l.map fun v => [v]) := by
  refine .inr ⟨_, by rw [List.length_map], fun i c h => ?_⟩
  rw [List.getElem?_map] at h
  cases hx : l[i]? with
  | none => rw [hx] at h; cases h
  | some v =>
    rw [hx] at h
    cases h
    refine Ld.own tk ?_
    obtain ⟨hi, rfl⟩ := List.getElem?_eq_some_iff.1 hx
    show takeN (List.drop (0 + i * 1) l) 1 = _
    rw [Nat.zero_add, Nat.mul_one, List.drop_eq_getElem_cons hi, takeN_of (by simp; omega)]
    rfl
theorem ask_more {H : HL} {p : AV × (E → Bool → Nat)} {x : Nat × AObj} (h : AskOk B H p) : AskOk B (x :: H) p := by
  obtain ⟨g, cap, e, h⟩ := h
  refine ⟨g, cap, e, fun e is G => ?_⟩
  have := h e is (G ++ [x])
  simpa using this
theorem do_more {H : HL} {v : AV} {d : Option (E → E)} {x : Nat × AObj} (h : DoOk B H v d) : DoOk B (x :: H) v d := by
  cases d with
  | none => exact h
  | some f =>
    obtain ⟨g, cap, e, h⟩ := h
    refine ⟨g, cap, e, fun e p G => ?_⟩
    have := h e p (G ++ [x])
    simpa using this
theorem KvAt.cons {H R : HL} {kp a most : Nat} {s : S} {x : Nat × AObj} (t : KvAt H kp a most s R) : KvAt (x :: H) kp a most s (x :: R) := (TbAt.cons t).permR (List.Perm.swap _ _ _)
theorem KvAt.less {H R R1 : HL} {kp a most : Nat} {s : S} (t : KvAt H kp a most s R) (p : SubP R1 R) : ∃ H3, KvAt H3 kp a most s R1 ∧ SubP H3 H := TbAt.less t p.cons
theorem call84 {H : HL} (v : List Nat) : WF B tab (.func 84) [.str v] H fun r H' => ∃ c, r = .fn (.func 128) [] [.ptr ⟨false, c, 0⟩] ∧ H' = (c, .row [.str v]) :: H := by
  refine WF.fn g84 rfl ?_
  repeat' (first
    | apply WOps.nil | apply WC.seq | apply WC.reg | apply WC.skip | apply WC.ret | (apply WOps.bx; rfl; rfl; (first | rfl | ((repeat' (first | exact ac0 | apply ac1)) <;> (first | rfl | assumption))); intro _) | (apply WOps.purG; rfl; (intro _; rfl)))
  exact ⟨trivial, [_], ⟨_, [], rfl, rfl, rfl⟩, _, rfl, rfl⟩
theorem call85 {H : HL} (v : Int) : WF B tab (.func 85) [.int .u64 v] H fun r H' => ∃ c, r = .fn (.func 129) [] [.ptr ⟨false, c, 0⟩] ∧ H' = (c, .row [.int .u64 v]) :: H := by
  refine WF.fn g85 rfl ?_
  repeat' (first
    | apply WOps.nil | apply WC.seq | apply WC.reg | apply WC.skip | apply WC.ret | (apply WOps.bx; rfl; rfl; (first | rfl | ((repeat' (first | exact ac0 | apply ac1)) <;> (first | rfl | assumption))); intro _) | (apply WOps.purG; rfl; (intro _; rfl)))
  exact ⟨trivial, [_], ⟨_, [], rfl, rfl, rfl⟩, _, rfl, rfl⟩
theorem call86 {H : HL} (v : List Nat) : WF B tab (.func 86) [.str v] H fun r H' => ∃ c, r = .fn (.func 130) [] [.ptr ⟨false, c, 0⟩] ∧ H' = (c, .row [.str v]) :: H := by
  refine WF.fn g86 rfl ?_
  repeat' (first
    | apply WOps.nil | apply WC.seq | apply WC.reg | apply WC.skip | apply WC.ret | (apply WOps.bx; rfl; rfl; (first | rfl | ((repeat' (first | exact ac0 | apply ac1)) <;> (first | rfl | assumption))); intro _) | (apply WOps.purG; rfl; (intro _; rfl)))
  exact ⟨trivial, [_], ⟨_, [], rfl, rfl, rfl⟩, _, rfl, rfl⟩
theorem hf1 {α : Type} {P : α → Prop} {a : α} (h : P a) : ∀ p, p ∈ [a] → P p := by
  intro p hp
  simp only [List.mem_singleton] at hp
  subst hp; exact h
theorem hf2 {α : Type} {P : α → Prop} {a b : α} (h : P a) (k : P b) : ∀ p, p ∈ [a, b] → P p := by
  intro p hp
  simp only [List.mem_cons, List.not_mem_nil, or_false] at hp
  rcases hp with rfl | rfl
  · exact h
  · exact k
theorem hf3 {α : Type} {P : α → Prop} {a b c : α} (h : P a) (k : P b) (j : P c) : ∀ p, p ∈ [a, b, c] → P p := by
  intro p hp
  simp only [List.mem_cons, List.not_mem_nil, or_false] at hp
  rcases hp with rfl | rfl | rfl
  · exact h
  · exact k
  · exact j
noncomputable def setS (most : Nat) (s : S) (key v : List Nat) (ix : Int) : S × Nat := applyS most s key [shortF v] (some (valD v)) ix
noncomputable def casS (most : Nat) (s : S) (key v : List Nat) (old ix : Int) : S × Nat := applyS most s key [shortF v, turnF old] (some (valD v)) ix
noncomputable def delS (most : Nat) (s : S) (key : List Nat) (ix : Int) : S × Nat := applyS most s key [thereF] none ix
noncomputable def delCasS (most : Nat) (s : S) (key : List Nat) (old ix : Int) : S × Nat := applyS most s key [thereF, sameF old] none ix
noncomputable def lockS (most : Nat) (s : S) (key v : List Nat) (ses ix : Int) : S × Nat := applyS most s key [shortF v, lockF ses] (some (lockD ses v)) ix
noncomputable def unlockS (most : Nat) (s : S) (key v : List Nat) (ses ix : Int) : S × Nat := applyS most s key [shortF v, thereF, holdF ses] (some (freeD v)) ix
section ops
variable {H R : HL} {kp a most : Nat} {s : S} {key v : List Nat} {ix : Int}
theorem set65_ok (hm : 1 ≤ most) (hn : s.es.length ≤ 999) (so : Rise s.es) (t : KvAt H kp a most s R) :
    WF B tab (.func 65) [.ptr ⟨false, kp, 0⟩, .str key, .str v, .int .u64 ix] H fun r H' => r = .int .i64 (.ofNat (setS most s key v ix).2) ∧ KvAt H' kp a most (setS most s key v ix).1 R := by
  refine WF.lessP ?_
  refine WF.fn g65 rfl ?_
  repeat' (first
    | apply WOps.nil | apply WC.seq | apply WC.reg | apply WC.skip | apply WC.ret | (apply WOps.bsl; rfl; (first | rfl | ((repeat' (first | exact ac0 | apply ac1)) <;> (first | rfl | assumption))); intro _) | (apply WOps.clA; rfl; rfl; exact call84 _; rintro _ _ ⟨c1, rfl, rfl⟩) | (apply WOps.clA; rfl; rfl; exact call86 _; rintro _ _ ⟨c2, rfl, rfl⟩) | (apply WOps.purG; rfl; (intro _; rfl)))
  apply WOps.clA
  · rfl
  · rfl
  · exact apply83_ok (aks := [(_, shortF v)]) (d := some (valD v)) hm hn so t.cons.cons.cons (sl_row (l := [_]) (Tk.tail Tk.head)) (by simp) (hf1 (short_ok (Ld.own (Tk.tail (Tk.tail Tk.head)) rfl))) (valD_ok (Ld.own Tk.head rfl)) (by rintro f ⟨⟩ e; rfl)
  rintro _ H1 ⟨rfl, t1⟩
  repeat' (first
    | apply WOps.nil | apply WC.seq | apply WC.reg | apply WC.skip | apply WC.ret | (apply WOps.bsl; rfl; (first | rfl | ((repeat' (first | exact ac0 | apply ac1)) <;> (first | rfl | assumption))); intro _) | (apply WOps.purG; rfl; (intro _; rfl)))
  obtain ⟨H3, t3, s3⟩ := t1.less (R1 := R) (subF (by intro f; simp only [AV.cells, List.append_eq, List.map_cons, List.map_nil, List.sum_nil, List.map_append, List.sum_cons, List.sum_append, List.cons_append, List.nil_append, List.append_assoc, List.append_nil]; omega))
  exact ⟨trivial, [_], ⟨_, [], rfl, rfl, rfl⟩, H3, ⟨rfl, t3⟩, s3⟩
theorem cas30_ok {old : Int} (hm : 1 ≤ most) (hn : s.es.length ≤ 999) (so : Rise s.es) (t : KvAt H kp a most s R) :
    WF B tab (.func 30) [.ptr ⟨false, kp, 0⟩, .str key, .str v, .int .u64 old, .int .u64 ix] H fun r H' => r = .int .i64 (.ofNat (casS most s key v old ix).2) ∧ KvAt H' kp a most (casS most s key v old ix).1 R := by
  refine WF.lessP ?_
  refine WF.fn g30 rfl ?_
  repeat' (first
    | apply WOps.nil | apply WC.seq | apply WC.reg | apply WC.skip | apply WC.ret | (apply WOps.bsl; rfl; (first | rfl | ((repeat' (first | exact ac0 | apply ac1)) <;> (first | rfl | assumption))); intro _) | (apply WOps.clA; rfl; rfl; exact call84 _; rintro _ _ ⟨c1, rfl, rfl⟩) | (apply WOps.clA; rfl; rfl; exact call85 _; rintro _ _ ⟨c3, rfl, rfl⟩) | (apply WOps.clA; rfl; rfl; exact call86 _; rintro _ _ ⟨c2, rfl, rfl⟩) | (apply WOps.purG; rfl; (intro _; rfl)))
  apply WOps.clA
  · rfl
  · rfl
  · exact apply83_ok (aks := [(_, shortF v), (_, turnF old)]) (d := some (valD v)) hm hn so t.cons.cons.cons.cons (sl_row (l := [_, _]) (Tk.tail Tk.head)) (by simp) (hf2 (short_ok (Ld.own (Tk.tail (Tk.tail (Tk.tail Tk.head))) rfl)) (turn_ok (Ld.own (Tk.tail (Tk.tail Tk.head)) rfl))) (valD_ok (Ld.own Tk.head rfl)) (by rintro f ⟨⟩ e; rfl)
  rintro _ H1 ⟨rfl, t1⟩
  repeat' (first
    | apply WOps.nil | apply WC.seq | apply WC.reg | apply WC.skip | apply WC.ret | (apply WOps.bsl; rfl; (first | rfl | ((repeat' (first | exact ac0 | apply ac1)) <;> (first | rfl | assumption))); intro _) | (apply WOps.purG; rfl; (intro _; rfl)))
  obtain ⟨H3, t3, s3⟩ := t1.less (R1 := R) (subF (by intro f; simp only [AV.cells, List.append_eq, List.map_cons, List.map_nil, List.sum_nil, List.map_append, List.sum_cons, List.sum_append, List.cons_append, List.nil_append, List.append_assoc, List.append_nil]; omega))
  exact ⟨trivial, [_], ⟨_, [], rfl, rfl, rfl⟩, H3, ⟨rfl, t3⟩, s3⟩
theorem del73_ok (hm : 1 ≤ most) (hn : s.es.length ≤ 999) (so : Rise s.es) (t : KvAt H kp a most s R) :
    WF B tab (.func 73) [.ptr ⟨false, kp, 0⟩, .str key, .int .u64 ix] H fun r H' => r = .int .i64 (.ofNat (delS most s key ix).2) ∧ KvAt H' kp a most (delS most s key ix).1 R := by
  refine WF.lessP ?_
  refine WF.fn g73 rfl ?_
  repeat' (first
    | apply WOps.nil | apply WC.seq | apply WC.reg | apply WC.skip | apply WC.ret | (apply WOps.bsl; rfl; (first | rfl | ((repeat' (first | exact ac0 | apply ac1)) <;> (first | rfl | assumption))); intro _) | (apply WOps.purG; rfl; (intro _; rfl)))
  apply WOps.clA
  · rfl
  · rfl
  · exact apply83_ok (aks := [(_, thereF)]) (d := none) hm hn so t.cons (sl_row (l := [_]) Tk.head) (by simp) (hf1 there_ok) rfl (by rintro f ⟨⟩)
  rintro _ H1 ⟨rfl, t1⟩
  repeat' (first
    | apply WOps.nil | apply WC.seq | apply WC.reg | apply WC.skip | apply WC.ret | (apply WOps.bsl; rfl; (first | rfl | ((repeat' (first | exact ac0 | apply ac1)) <;> (first | rfl | assumption))); intro _) | (apply WOps.purG; rfl; (intro _; rfl)))
  obtain ⟨H3, t3, s3⟩ := t1.less (R1 := R) (subF (by intro f; simp only [AV.cells, List.append_eq, List.map_cons, List.map_nil, List.sum_nil, List.map_append, List.sum_cons, List.sum_append, List.cons_append, List.nil_append, List.append_assoc, List.append_nil]; omega))
  exact ⟨trivial, [_], ⟨_, [], rfl, rfl, rfl⟩, H3, ⟨rfl, t3⟩, s3⟩
theorem delcas75_ok {old : Int} (hm : 1 ≤ most) (hn : s.es.length ≤ 999) (so : Rise s.es) (t : KvAt H kp a most s R) :
    WF B tab (.func 75) [.ptr ⟨false, kp, 0⟩, .str key, .int .u64 old, .int .u64 ix] H fun r H' => r = .int .i64 (.ofNat (delCasS most s key old ix).2) ∧ KvAt H' kp a most (delCasS most s key old ix).1 R := by
  refine WF.lessP ?_
  refine WF.fn g75 rfl ?_
  repeat' (first
    | apply WOps.nil | apply WC.seq | apply WC.reg | apply WC.skip | apply WC.ret | (apply WOps.bx; rfl; rfl; (first | rfl | ((repeat' (first | exact ac0 | apply ac1)) <;> (first | rfl | assumption))); intro _) | (apply WOps.bsl; rfl; (first | rfl | ((repeat' (first | exact ac0 | apply ac1)) <;> (first | rfl | assumption))); intro _) | (apply WOps.purG; rfl; (intro _; rfl)))
  apply WOps.clA
  · rfl
  · rfl
  · exact apply83_ok (aks := [(_, thereF), (_, sameF old)]) (d := none) hm hn so t.cons.cons (sl_row (l := [_, _]) Tk.head) (by simp) (hf2 there_ok (same_ok (Ld.own (Tk.tail Tk.head) rfl))) rfl (by rintro f ⟨⟩)
  rintro _ H1 ⟨rfl, t1⟩
  repeat' (first
    | apply WOps.nil | apply WC.seq | apply WC.reg | apply WC.skip | apply WC.ret | (apply WOps.bx; rfl; rfl; (first | rfl | ((repeat' (first | exact ac0 | apply ac1)) <;> (first | rfl | assumption))); intro _) | (apply WOps.bsl; rfl; (first | rfl | ((repeat' (first | exact ac0 | apply ac1)) <;> (first | rfl | assumption))); intro _) | (apply WOps.purG; rfl; (intro _; rfl)))
  obtain ⟨H3, t3, s3⟩ := t1.less (R1 := R) (subF (by intro f; simp only [AV.cells, List.append_eq, List.map_cons, List.map_nil, List.sum_nil, List.map_append, List.sum_cons, List.sum_append, List.cons_append, List.nil_append, List.append_assoc, List.append_nil]; omega))
  exact ⟨trivial, [_], ⟨_, [], rfl, rfl, rfl⟩, H3, ⟨rfl, t3⟩, s3⟩
theorem lock31_ok {ses : Int} (hm : 1 ≤ most) (hn : s.es.length ≤ 999) (so : Rise s.es) (t : KvAt H kp a most s R) :
    WF B tab (.func 31) [.ptr ⟨false, kp, 0⟩, .str key, .str v, .int .u64 ses, .int .u64 ix] H fun r H' => r = .int .i64 (.ofNat (lockS most s key v ses ix).2) ∧ KvAt H' kp a most (lockS most s key v ses ix).1 R := by
  refine WF.lessP ?_
  refine WF.fn g31 rfl ?_
  repeat' (first
    | apply WOps.nil | apply WC.seq | apply WC.reg | apply WC.skip | apply WC.ret | (apply WOps.ldG; rfl; rfl; (first | exact ld0 rfl | exact ld1 rfl | exact ld2 rfl); rfl) | (apply WOps.bx; rfl; rfl; (first | rfl | ((repeat' (first | exact ac0 | apply ac1)) <;> (first | rfl | assumption))); intro _) | (apply WOps.bsl; rfl; (first | rfl | ((repeat' (first | exact ac0 | apply ac1)) <;> (first | rfl | assumption))); intro _) | (apply WOps.clA; rfl; rfl; exact call84 _; rintro _ _ ⟨c1, rfl, rfl⟩) | (apply WOps.purG; rfl; (intro _; rfl)))
  apply WOps.clA
  · rfl
  · rfl
  · exact apply83_ok (aks := [(_, shortF v), (_, lockF ses)]) (d := some (lockD ses v)) hm hn so t.cons.cons.cons.cons (sl_row (l := [_, _]) Tk.head) (by simp) (hf2 (short_ok (Ld.own (Tk.tail Tk.head) rfl)) (lockA_ok (Ld.own (Tk.tail (Tk.tail Tk.head)) rfl))) (lockD_ok (Ld.own (Tk.tail (Tk.tail Tk.head)) rfl) (Ld.own (Tk.tail (Tk.tail (Tk.tail Tk.head))) rfl)) (by rintro f ⟨⟩ e; rfl)
  rintro _ H1 ⟨rfl, t1⟩
  repeat' (first
    | apply WOps.nil | apply WC.seq | apply WC.reg | apply WC.skip | apply WC.ret | (apply WOps.ldG; rfl; rfl; (first | exact ld0 rfl | exact ld1 rfl | exact ld2 rfl); rfl) | (apply WOps.bx; rfl; rfl; (first | rfl | ((repeat' (first | exact ac0 | apply ac1)) <;> (first | rfl | assumption))); intro _) | (apply WOps.bsl; rfl; (first | rfl | ((repeat' (first | exact ac0 | apply ac1)) <;> (first | rfl | assumption))); intro _) | (apply WOps.purG; rfl; (intro _; rfl)))
  obtain ⟨H3, t3, s3⟩ := t1.less (R1 := R) (subF (by intro f; simp only [AV.cells, List.append_eq, List.map_cons, List.map_nil, List.sum_nil, List.map_append, List.sum_cons, List.sum_append, List.cons_append, List.nil_append, List.append_assoc, List.append_nil]; omega))
  exact ⟨trivial, [_], ⟨_, [], rfl, rfl, rfl⟩, H3, ⟨rfl, t3⟩, s3⟩
theorem unlock76_ok {ses : Int} (hm : 1 ≤ most) (hn : s.es.length ≤ 999) (so : Rise s.es) (t : KvAt H kp a most s R) :
    WF B tab (.func 76) [.ptr ⟨false, kp, 0⟩, .str key, .str v, .int .u64 ses, .int .u64 ix] H fun r H' => r = .int .i64 (.ofNat (unlockS most s key v ses ix).2) ∧ KvAt H' kp a most (unlockS most s key v ses ix).1 R := by
  refine WF.lessP ?_
  refine WF.fn g76 rfl ?_
  repeat' (first
    | apply WOps.nil | apply WC.seq | apply WC.reg | apply WC.skip | apply WC.ret | (apply WOps.ldG; rfl; rfl; (first | exact ld0 rfl | exact ld1 rfl | exact ld2 rfl); rfl) | (apply WOps.bx; rfl; rfl; (first | rfl | ((repeat' (first | exact ac0 | apply ac1)) <;> (first | rfl | assumption))); intro _) | (apply WOps.bsl; rfl; (first | rfl | ((repeat' (first | exact ac0 | apply ac1)) <;> (first | rfl | assumption))); intro _) | (apply WOps.clA; rfl; rfl; exact call84 _; rintro _ _ ⟨c1, rfl, rfl⟩) | (apply WOps.purG; rfl; (intro _; rfl)))
  apply WOps.clA
  · rfl
  · rfl
  · exact apply83_ok (aks := [(_, shortF v), (_, thereF), (_, holdF ses)]) (d := some (freeD v)) hm hn so t.cons.cons.cons.cons (sl_row (l := [_, _, _]) Tk.head) (by simp) (hf3 (short_ok (Ld.own (Tk.tail Tk.head) rfl)) there_ok (hold_ok (Ld.own (Tk.tail (Tk.tail Tk.head)) rfl))) (freeD_ok (Ld.own (Tk.tail (Tk.tail (Tk.tail Tk.head))) rfl)) (by rintro f ⟨⟩ e; rfl)
  rintro _ H1 ⟨rfl, t1⟩
  repeat' (first
    | apply WOps.nil | apply WC.seq | apply WC.reg | apply WC.skip | apply WC.ret | (apply WOps.ldG; rfl; rfl; (first | exact ld0 rfl | exact ld1 rfl | exact ld2 rfl); rfl) | (apply WOps.bx; rfl; rfl; (first | rfl | ((repeat' (first | exact ac0 | apply ac1)) <;> (first | rfl | assumption))); intro _) | (apply WOps.bsl; rfl; (first | rfl | ((repeat' (first | exact ac0 | apply ac1)) <;> (first | rfl | assumption))); intro _) | (apply WOps.purG; rfl; (intro _; rfl)))
  obtain ⟨H3, t3, s3⟩ := t1.less (R1 := R) (subF (by intro f; simp only [AV.cells, List.append_eq, List.map_cons, List.map_nil, List.sum_nil, List.map_append, List.sum_cons, List.sum_append, List.cons_append, List.nil_append, List.append_assoc, List.append_nil]; omega))
  exact ⟨trivial, [_], ⟨_, [], rfl, rfl, rfl⟩, H3, ⟨rfl, t3⟩, s3⟩
end ops
theorem above_congr {a b : List E} {k : List Nat} (h : a.map E.key = b.map E.key) (ha : Above a k) : Above b k := by
  intro y hy
  have : y.key ∈ a.map E.key := by rw [h]; exact List.mem_map_of_mem hy
  obtain ⟨x, hx, e⟩ := List.mem_map.1 this
  rw [← e]; exact ha x hx
theorem rise_congr : ∀ {a b : List E}, a.map E.key = b.map E.key → Rise a → Rise b := by
  intro a
  induction a with
  | nil => intro b h _; cases b with
    | nil => exact .nil
    | cons _ _ => simp at h
  | cons x a ih => intro b h r; cases b with
    | nil => simp at h
    | cons y b =>
      simp only [List.map_cons, List.cons.injEq] at h
      cases r with
      | cons h1 h2 => exact .cons (by rw [← h.1]; exact above_congr h.2 h1) (ih h.2 h2)
def fr (ses ix : Int) (e : E) : E := if e.ses = ses then { e with ses := Int.ofNat 0, ix := ix } else e
theorem fr_key {ses ix : Int} {e : E} : (fr ses ix e).key = e.key := by unfold fr; split <;> rfl
def held (ses : Int) (es : List E) : List E := es.filter fun e => decide (e.ses = ses)
def lastF (ses ix last : Int) (es : List E) : Int := if (held ses es).isEmpty = true then last else maxI last ix
def freeI (ses ix : Int) (s : S) (i : Nat) : S := ⟨(s.es.take i).map (fr ses ix) ++ s.es.drop i, lastF ses ix s.last (s.es.take i)⟩
theorem freeI_keys {ses ix : Int} {s : S} {i : Nat} : (freeI ses ix s i).es.map E.key = s.es.map E.key := by
  have : (fun e => (fr ses ix e).key) = E.key := funext fun e => fr_key
  simp only [freeI, List.map_append, List.map_map, Function.comp_def, this]
  rw [← List.map_append, List.take_append_drop]
theorem freeI_len {ses ix : Int} {s : S} {i : Nat} : (freeI ses ix s i).es.length = s.es.length := by
  have := congrArg List.length (freeI_keys (ses := ses) (ix := ix) (s := s) (i := i))
  simpa using this
theorem freeI_rise {ses ix : Int} {s : S} {i : Nat} (so : Rise s.es) : Rise (freeI ses ix s i).es := rise_congr freeI_keys.symm so
theorem below_take {es : List E} {i : Nat} (so : Rise es) (hi : i < es.length) : AllBelow (es.take i) es[i].key := by
  intro x hx
  obtain ⟨j, hj, rfl⟩ := List.getElem_of_mem hx
  rw [List.length_take] at hj
  rw [List.getElem_take]
  exact sorted_of so j i (by omega) hi (by omega)
theorem below_map {es : List E} {k : List Nat} {f : E → E} (hf : ∀ e, (f e).key = e.key) (h : AllBelow es k) : AllBelow (es.map f) k := by
  intro x hx
  obtain ⟨y, hy, rfl⟩ := List.mem_map.1 hx
  rw [hf]; exact h y hy
theorem max_idem {a b : Int} : maxI (maxI a b) b = maxI a b := by
  unfold maxI
  by_cases h : b > a
  · rw [if_pos h, if_neg (by omega)]
  · rw [if_neg h, if_neg h]
theorem held_take {ses : Int} {es : List E} {i : Nat} (h : i < es.length) : held ses (es.take (i + 1)) = held ses (es.take i) ++ (if es[i].ses = ses then [es[i]] else []) := by
  rw [List.take_succ_eq_append_getElem h]
  unfold held
  rw [List.filter_append]
  congr 1
  by_cases hs : es[i].ses = ses <;> simp [hs]
theorem lastF_hit {ses ix last : Int} {es : List E} {i : Nat} (h : i < es.length) (hs : es[i].ses = ses) : lastF ses ix last (es.take (i + 1)) = maxI (lastF ses ix last (es.take i)) ix := by
  have h1 : lastF ses ix last (es.take (i + 1)) = maxI last ix := by
    unfold lastF
    rw [held_take h, if_pos hs]
    rw [if_neg (by simp)]
  rw [h1]
  unfold lastF
  split
  · rfl
  · rw [max_idem]
theorem freeI_next {ses ix : Int} {s : S} {i : Nat} (so : Rise s.es) (hi : i < s.es.length) :
    (s.es[i].ses = ses → findE (freeI ses ix s i).es s.es[i].key = some s.es[i] ∧ freeI ses ix s (i + 1) = ⟨putE (freeI ses ix s i).es (atIx { s.es[i] with ses := Int.ofNat 0 } ix), maxI (freeI ses ix s i).last ix⟩) ∧
    (¬ s.es[i].ses = ses → freeI ses ix s (i + 1) = freeI ses ix s i) := by
  have hb : AllBelow ((s.es.take i).map (fr ses ix)) s.es[i].key := below_map (fun _ => fr_key) (below_take so hi)
  have htk : s.es.take (i + 1) = s.es.take i ++ [s.es[i]] := List.take_succ_eq_append_getElem hi
  have hdr : s.es.drop i = s.es[i] :: s.es.drop (i + 1) := List.drop_eq_getElem_cons hi
  constructor
  · intro hs
    constructor
    · simp only [freeI]
      rw [find_below hb, hdr, find_hit rfl]
    · have e1 : putE (freeI ses ix s i).es (atIx { s.es[i] with ses := Int.ofNat 0 } ix) = (freeI ses ix s (i + 1)).es := by
        simp only [freeI]
        rw [put_below (e := atIx { s.es[i] with ses := Int.ofNat 0 } ix) hb, hdr, put_hit (x := s.es[i]) (e := atIx { s.es[i] with ses := Int.ofNat 0 } ix) rfl, htk]
        simp only [List.map_append, List.map_cons, List.map_nil, List.append_assoc, List.cons_append, List.nil_append, fr, if_pos hs, atIx]
      rw [e1]
      simp only [freeI, lastF_hit hi hs]
  · intro hs
    simp only [freeI, lastF, held_take hi, if_neg hs, List.append_nil]
    rw [htk, hdr]
    simp only [List.map_append, List.map_cons, List.map_nil, List.append_assoc, List.cons_append, List.nil_append, fr, if_neg hs]
theorem TbAt.part {H R hw X X' : HL} {a most : Nat} {es : List E} {last : Int} (h : TbAt H a most es last R) (p : R.Perm (hw ++ (X' ++ X))) : ∃ Rest, H.Perm (hw ++ Rest) ∧ ∀ hw', TbAt (hw' ++ Rest) a most es last (hw' ++ (X' ++ X)) := by
  obtain ⟨v, hs, o, q⟩ := h
  have q2 := q.trans (List.Perm.cons _ (List.Perm.append_left _ p))
  refine ⟨(a, .row (tblC most v last)) :: (hs ++ (X' ++ X)), q2.trans (permF (by intro f; simp only [AV.cells, List.append_eq, List.map_cons, List.map_nil, List.sum_nil, List.map_append, List.sum_cons, List.sum_append, List.cons_append, List.nil_append, List.append_assoc, List.append_nil]; omega)), fun hw' => ⟨v, hs, o, permF (by intro f; simp only [AV.cells, List.append_eq, List.map_cons, List.map_nil, List.sum_nil, List.map_append, List.sum_cons, List.sum_append, List.cons_append, List.nil_append, List.append_assoc, List.append_nil]; omega)⟩⟩
def strC (k : List Nat) : List AV := [.str k]
theorem strs_len : ∀ (l : List (List Nat)), (l.map strC).flatten.length = l.length * 1 := by
  intro l
  induction l with
  | nil => rfl
  | cons x l ih => rw [List.map_cons, List.flatten_cons, List.length_append, ih]; simp [strC]; omega
theorem strs_cell : ∀ (l : List (List Nat)), allCell (l.map strC).flatten = true := by
  intro l
  rw [allCell_iff]
  intro v hv
  simp only [List.mem_flatten, List.mem_map] at hv
  obtain ⟨_, ⟨e, _, rfl⟩, hv⟩ := hv
  simp only [strC, List.mem_singleton] at hv
  subst hv; rfl
def heldK (ses : Int) (es : List E) : List (List Nat) := (held ses es).map E.key
theorem heldK_len {ses : Int} {es : List E} : (heldK ses es).length ≤ es.length := by
  unfold heldK held; rw [List.length_map]; exact List.length_filter_le _ _
noncomputable def freeS (s : S) (ses ix : Int) : S := if ses = 0 then s else freeI ses ix s s.es.length
noncomputable def freeR (s : S) (ses : Int) : List (List Nat) := if ses = 0 then [] else heldK ses s.es
set_option maxHeartbeats 1000000 in
theorem free78_ok {H R : HL} {kp a most : Nat} {s : S} {ses ix : Int} (hm : 1 ≤ most) (hn : s.es.length ≤ 999) (so : Rise s.es) (t : KvAt H kp a most s R) :
    WF B tab (.func 78) [.ptr ⟨false, kp, 0⟩, .int .u64 ses, .int .u64 ix] H fun r H' => ∃ hw, OwnSl r ((freeR s ses).map strC).flatten (freeR s ses).length 1 hw ∧ KvAt H' kp a most (freeS s ses ix) (hw ++ R) := by
  refine WF.lessP ?_
  refine WF.fn g78 rfl ?_
  unfold KvAt at t
  have hkA : ∀ {X : HL}, Ld B ((kp, .row [.ptr ⟨false, a, 0⟩]) :: X) ⟨false, kp, 0⟩ 1 [.ptr ⟨false, a, 0⟩] := Ld.own Tk.head rfl
  repeat' (first
    | apply WOps.nil | apply WC.seq | apply WC.reg | apply WC.skip | apply WC.ret | apply WC.exit | (apply WC.condT; rfl) | (apply WC.condF; rfl) | apply WC.block | (apply WOps.ldG; rfl; rfl; (first | exact ld0 rfl | exact ld1 rfl | exact ld2 rfl); rfl) | (apply WOps.st; rfl; rfl; (first | exact tk0 | exact tk1 | exact tk2); rfl; (first | rfl | ((repeat' (first | exact ac0 | apply ac1)) <;> (first | rfl | assumption))); rfl) | (apply WOps.alc; rfl; intro _) | (apply WOps.bsl; rfl; (first | rfl | ((repeat' (first | exact ac0 | apply ac1)) <;> (first | rfl | assumption))); intro _) | (apply WOps.clR; rfl; rfl; exact none66_ok (t.ld hkA); rintro _ rfl) | (apply WOps.clA; rfl; rfl; exact listAll_at hm (by omega) hkA t; rintro r _ ⟨h', o', rfl⟩) | (apply WOps.lenO; rfl; rfl; exact o') | (apply WOps.cmp; rfl; rfl; rfl; rfl; intro _ _) | (apply WOps.cmpT; rfl; rfl; rfl; rfl; intro _ _) | (apply WOps.purG; rfl; (intro _; rfl)) | (apply WOps.skp; rfl) | (apply WOps.ask; rfl; all_goals (intro hb; first | subst hb | fail_if_success (cases hb))) | (apply WC.condA; rfl; all_goals (intro hb; try subst hb)))
  · have h0 := ‹true = true ↔ cmpP BinOp.eql ses (Int.ofNat 0)›
    simp only [cmpP, true_iff] at h0
    refine ⟨trivial, [_], ⟨_, [], rfl, rfl, rfl⟩, H, ⟨[], ?_, ?_⟩, SubP.refl⟩
    · simp only [freeR, if_pos (show ses = 0 from h0)]
      exact .inl ⟨rfl, rfl, rfl, rfl⟩
    · simp only [freeS, if_pos (show ses = 0 from h0)]
      exact t
  have hs0 : ¬ ses = 0 := by
    have h0 := ‹false = true ↔ cmpP BinOp.eql ses (Int.ofNat 0)›
    simp only [cmpP, Bool.false_eq_true, false_iff] at h0
    exact h0
  simp only [freeR, freeS, if_neg hs0]
  refine WC.loop ?_
  obtain ⟨i, hi⟩ : ∃ i : Nat, i = 0 := ⟨0, rfl⟩
  obtain ⟨w7, hw7⟩ : ∃ v, v = AV.nilsl := ⟨_, rfl⟩
  obtain ⟨hw, hhw⟩ : ∃ h : HL, h = [] := ⟨_, rfl⟩
  obtain ⟨H1, hH1⟩ : ∃ h : HL, h = h' ++ H := ⟨_, rfl⟩
  refine WL.le (t' := [(0, .ptr ⟨false, kp, 0⟩), (1, .int .u64 ses), (2, .int .u64 ix), (7, w7), (17, r), (18, .int .i64 (.ofNat s.es.length)), (19, .int .i64 (.ofNat i))]) (by subst hi; subst hw7; exact Sub1.cons rfl (Sub1.cons rfl (Sub1.cons rfl (Sub1.cons rfl (Sub1.cons rfl (Sub1.cons rfl (Sub1.cons rfl Sub1.nil))))))) ?_
  refine WL.heq (H' := H1) hH1.symm ?_
  have o7 : OwnSl w7 ((heldK ses (s.es.take i)).map strC).flatten (heldK ses (s.es.take i)).length 1 hw := by subst hi; exact .inl ⟨hw7, rfl, rfl, hhw⟩
  have t1 : TbAt H1 a most (freeI ses ix s i).es (freeI ses ix s i).last ((kp, .row [.ptr ⟨false, a, 0⟩]) :: (hw ++ (h' ++ R))) := by
    subst hi hhw hH1
    exact (t.app h').permR (permF (by intro f; simp only [AV.cells, List.append_eq, List.map_cons, List.map_nil, List.sum_nil, List.map_append, List.sum_cons, List.sum_append, List.cons_append, List.nil_append, List.append_assoc, List.append_nil]; omega))
  have hle : i ≤ s.es.length := by omega
  clear hi hw7 hhw hH1
  induction hk : s.es.length - i using Nat.strongRecOn generalizing i w7 hw H1 with | _ k ih => ?_
  have hsl : SlIs B H1 r 6 (s.es.map entC) := t1.sl (SlIs.cons (SlIs.right (SlIs.left (ents_sl o'))))
  apply WL.step
  repeat' (first
    | apply WOps.nil | apply WC.seq | apply WC.reg | apply WC.skip | apply WC.ret | apply WC.exit | (apply WC.condT; rfl) | (apply WC.condF; rfl) | apply WC.block | (apply WOps.ldG; rfl; rfl; (first | exact ld0 rfl | exact ld1 rfl | exact ld2 rfl); rfl) | (apply WOps.st; rfl; rfl; (first | exact tk0 | exact tk1 | exact tk2); rfl; (first | rfl | ((repeat' (first | exact ac0 | apply ac1)) <;> (first | rfl | assumption))); rfl) | (apply WOps.alc; rfl; intro _) | (apply WOps.bsl; rfl; (first | rfl | ((repeat' (first | exact ac0 | apply ac1)) <;> (first | rfl | assumption))); intro _) | (apply WOps.cmp; rfl; rfl; rfl; rfl; intro _ _) | (apply WOps.cmpT; rfl; rfl; rfl; rfl; intro _ _) | (apply WOps.purG; rfl; (intro _; rfl)) | (apply WOps.skp; rfl) | (apply WOps.ask; rfl; all_goals (intro hb; first | subst hb | fail_if_success (cases hb))) | (apply WC.condA; rfl; all_goals (intro hb; try subst hb)))
  · have hlt : i < s.es.length := by
      have h0 := ‹true = true ↔ cmpP BinOp.lss (Int.ofNat i) (Int.ofNat s.es.length)›
      simp [cmpP] at h0; omega
    have hcm : (s.es.map entC)[i]? = some (entC s.es[i]) := by rw [List.getElem?_map, List.getElem?_eq_getElem hlt]; rfl
    have hnx := freeI_next (ses := ses) (ix := ix) so hlt
    have hh := held_take (ses := ses) hlt
    have hln := freeI_len (ses := ses) (ix := ix) (s := s) (i := i)
    have hk2 : (heldK ses (s.es.take i)).length ≤ 999 := by
      have := heldK_len (ses := ses) (es := s.es.take i)
      rw [List.length_take] at this
      omega
    repeat' (first
      | apply WOps.nil | apply WC.seq | apply WC.reg | apply WC.skip | apply WC.ret | apply WC.exit | (apply WC.condT; rfl) | (apply WC.condF; rfl) | apply WC.block | (apply WOps.ldG; rfl; rfl; (first | exact ld0 rfl | exact ld1 rfl | exact ld2 rfl); rfl) | (apply WOps.st; rfl; rfl; (first | exact tk0 | exact tk1 | exact tk2); rfl; (first | rfl | ((repeat' (first | exact ac0 | apply ac1)) <;> (first | rfl | assumption))); rfl) | (apply WOps.alc; rfl; intro _) | (apply WOps.bsl; rfl; (first | rfl | ((repeat' (first | exact ac0 | apply ac1)) <;> (first | rfl | assumption))); intro _) | (apply WOps.ixSl; rfl; rfl; rfl; exact hsl; exact hcm; intro ax hax) | (apply WOps.ldG; rfl; rfl; exact hax; rfl) | (apply WOps.addN; rfl; rfl; rfl; omega) | (apply WOps.cmp; rfl; rfl; rfl; rfl; intro _ _) | (apply WOps.cmpT; rfl; rfl; rfl; rfl; intro _ _) | (apply WOps.purG; rfl; (intro _; rfl)) | (apply WOps.skp; rfl) | (apply WOps.ask; rfl; all_goals (intro hb; first | subst hb | fail_if_success (cases hb))) | (apply WC.condA; rfl; all_goals (intro hb; try subst hb)))
    · have hs1 := ‹true = true ↔ cmpP BinOp.eql s.es[i].ses ses›
      simp only [cmpP, true_iff] at hs1
      obtain ⟨hf, hfr⟩ := hnx.1 hs1
      rw [if_pos hs1] at hh
      repeat' (first
        | apply WOps.nil | apply WC.seq | apply WC.reg | apply WC.skip | apply WC.ret | apply WC.exit | (apply WC.condT; rfl) | (apply WC.condF; rfl) | apply WC.block | (apply WOps.ldG; rfl; rfl; (first | exact ld0 rfl | exact ld1 rfl | exact ld2 rfl); rfl) | (apply WOps.st; rfl; rfl; (first | exact tk0 | exact tk1 | exact tk2); rfl; (first | rfl | ((repeat' (first | exact ac0 | apply ac1)) <;> (first | rfl | assumption))); rfl) | (apply WOps.alc; rfl; intro _) | (apply WOps.bsl; rfl; (first | rfl | ((repeat' (first | exact ac0 | apply ac1)) <;> (first | rfl | assumption))); intro _) | (apply WOps.clA; rfl; rfl; exact put62_at (e := { s.es[i] with ses := Int.ofNat 0 }) hm (by omega) (freeI_rise so) hkA.cons t1.cons; rintro _ H2 (⟨hfl, rfl, t2⟩ | ⟨hfl, rfl, t2⟩)) | (apply WOps.ldG; rfl; rfl; exact t2.ld (Ld.own Tk.head rfl); rfl) | (apply WOps.neqF; rfl; rfl; rfl; decide) | (apply WOps.neqT; rfl; rfl; rfl; decide) | (apply WOps.eqlF; rfl; rfl; rfl; decide) | (apply WOps.eqlT; rfl; rfl; rfl; decide) | (apply WOps.cmp; rfl; rfl; rfl; rfl; intro _ _) | (apply WOps.cmpT; rfl; rfl; rfl; rfl; intro _ _) | (apply WOps.purG; rfl; (intro _; rfl)) | (apply WOps.skp; rfl) | (apply WOps.ask; rfl; all_goals (intro hb; first | subst hb | fail_if_success (cases hb))) | (apply WC.condA; rfl; all_goals (intro hb; try subst hb)))
      · exact absurd hfl.1 (by rw [show ({ s.es[i] with ses := Int.ofNat 0 } : E).key = s.es[i].key from rfl, hf]; simp)
      · rename_i p9 _ q
        have t2' : TbAt H2 a most _ _ ((p9, .row (entC { s.es[i] with ses := Int.ofNat 0 })) :: (kp, .row [.ptr ⟨false, a, 0⟩]) :: (hw ++ (h' ++ R))) := t2
        have t3 := t2'.cons (x := (q, .row [.str s.es[i].key]))
        obtain ⟨Rest, pr, ht⟩ := t3.part (hw := hw) (X := (kp, .row [.ptr ⟨false, a, 0⟩]) :: (h' ++ R)) (X' := [(q, .row [.str s.es[i].key]), (p9, .row (entC { s.es[i] with ses := Int.ofNat 0 }))]) (permF (by intro f; simp only [AV.cells, List.append_eq, List.map_cons, List.map_nil, List.sum_nil, List.map_append, List.sum_cons, List.sum_append, List.cons_append, List.nil_append, List.append_assoc, List.append_nil]; omega))
        refine WOps.app (n := (heldK ses (s.es.take i)).length) rfl rfl rfl o7 pr (src_one Tk.head rfl) (strs_cell _) rfl rfl (by omega) ?_
        intro v2 h2 o2
        repeat' (first
          | apply WOps.nil | apply WC.seq | apply WC.reg | apply WC.skip | apply WC.ret | apply WC.exit | (apply WC.condT; rfl) | (apply WC.condF; rfl) | apply WC.block | (apply WOps.ldG; rfl; rfl; (first | exact ld0 rfl | exact ld1 rfl | exact ld2 rfl); rfl) | (apply WOps.st; rfl; rfl; (first | exact tk0 | exact tk1 | exact tk2); rfl; (first | rfl | ((repeat' (first | exact ac0 | apply ac1)) <;> (first | rfl | assumption))); rfl) | (apply WOps.alc; rfl; intro _) | (apply WOps.bsl; rfl; (first | rfl | ((repeat' (first | exact ac0 | apply ac1)) <;> (first | rfl | assumption))); intro _) | (apply WOps.addN; rfl; rfl; rfl; omega) | (apply WOps.cmp; rfl; rfl; rfl; rfl; intro _ _) | (apply WOps.cmpT; rfl; rfl; rfl; rfl; intro _ _) | (apply WOps.purG; rfl; (intro _; rfl)) | (apply WOps.skp; rfl) | (apply WOps.ask; rfl; all_goals (intro hb; first | subst hb | fail_if_success (cases hb))) | (apply WC.condA; rfl; all_goals (intro hb; try subst hb)))
        refine WL.le (t' := [(0, .ptr ⟨false, kp, 0⟩), (1, .int .u64 ses), (2, .int .u64 ix), (7, v2), (17, r), (18, .int .i64 (.ofNat s.es.length)), (19, .int .i64 (.ofNat (i + 1)))]) (Sub1.cons rfl (Sub1.cons rfl (Sub1.cons rfl (Sub1.cons rfl (Sub1.cons rfl (Sub1.cons rfl (Sub1.cons rfl Sub1.nil))))))) ?_
        obtain ⟨H3, t4, s4⟩ := (ht h2).less (R1 := (kp, .row [.ptr ⟨false, a, 0⟩]) :: (h2 ++ (h' ++ R))) (subF (by intro f; simp only [AV.cells, List.append_eq, List.map_cons, List.map_nil, List.sum_nil, List.map_append, List.sum_cons, List.sum_append, List.cons_append, List.nil_append, List.append_assoc, List.append_nil]; omega))
        refine WL.lessP s4 ?_
        refine ih _ (by omega) (i + 1) v2 h2 H3 ?_ ?_ (by omega) rfl
        · unfold heldK
          rw [hh, List.map_append, List.map_append, List.flatten_append, List.length_append]
          exact o2
        · rw [hfr]; exact t4
    · have hs1 := ‹false = true ↔ cmpP BinOp.eql s.es[i].ses ses›
      simp only [cmpP, Bool.false_eq_true, false_iff] at hs1
      have hfr := hnx.2 hs1
      rw [if_neg hs1, List.append_nil] at hh
      refine WL.le (t' := [(0, .ptr ⟨false, kp, 0⟩), (1, .int .u64 ses), (2, .int .u64 ix), (7, w7), (17, r), (18, .int .i64 (.ofNat s.es.length)), (19, .int .i64 (.ofNat (i + 1)))]) (Sub1.cons rfl (Sub1.cons rfl (Sub1.cons rfl (Sub1.cons rfl (Sub1.cons rfl (Sub1.cons rfl (Sub1.cons rfl Sub1.nil))))))) ?_
      refine WL.sub (List.sublist_cons_self _ _) ?_
      refine ih _ (by omega) (i + 1) w7 hw H1 ?_ ?_ (by omega) rfl
      · unfold heldK; rw [hh]; exact o7
      · rw [hfr]; exact t1
  · have hge : ¬ i < s.es.length := by
      have h0 := ‹false = true ↔ cmpP BinOp.lss (Int.ofNat i) (Int.ofNat s.es.length)›
      simp [cmpP] at h0; omega
    obtain rfl : i = s.es.length := by omega
    rw [List.take_length] at o7
    obtain ⟨H3, t3, s3⟩ := t1.less (R1 := (kp, .row [.ptr ⟨false, a, 0⟩]) :: (hw ++ R)) (subF (by intro f; simp only [AV.cells, List.append_eq, List.map_cons, List.map_nil, List.sum_nil, List.map_append, List.sum_cons, List.sum_append, List.cons_append, List.nil_append, List.append_assoc, List.append_nil]; omega))
    exact ⟨trivial, [_], ⟨_, [], rfl, rfl, rfl⟩, H3, ⟨hw, o7, t3⟩, s3⟩
end Go.Proofs.Ytlfhlkndccjejaa.KV
