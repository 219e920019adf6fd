/- What the functions do, shown by the logic. -/
import Derived.Test.YtlfhlkndccjejaaKvP1
set_option linter.unusedSimpArgs false
set_option linter.unusedVariables false
set_option maxRecDepth 20000
namespace Go.Proofs.Ytlfhlkndccjejaa.KV
open Go.Proofs.Ytlfhlkndccjejaa.Abs
variable {B : Nat → List AV}
theorem own_src {v : AV} {cells : List AV} {n esz : Nat} {hs R : HL} (o : OwnSl v cells n esz hs) : SrcIs B (hs ++ R) v esz n cells := by
  rcases o with ⟨rfl, rfl, rfl, rfl⟩ | ⟨id, rfl, rfl, hl⟩
  · exact .inl ⟨rfl, rfl, rfl⟩
  · refine .inr ⟨_, rfl, .inr (Ld.own Tk.head ?_)⟩
    rw [List.drop_zero, takeN_of (by omega), List.take_of_length_le (by omega)]
theorem rowC_len {e : E} : (rowC e).length = 9 := rfl
theorem entC_len {e : E} : (entC e).length = 6 := rfl
theorem rows_len : ∀ (es : List E), (es.map rowC).flatten.length = es.length * 9 := by
  intro es
  induction es with
  | nil => rfl
  | cons e es ih => rw [List.map_cons, List.flatten_cons, List.length_append, ih, rowC_len, List.length_cons]; omega
theorem ents_len : ∀ (es : List E), (es.map entC).flatten.length = es.length * 6 := by
  intro es
  induction es with
  | nil => rfl
  | cons e es ih => rw [List.map_cons, List.flatten_cons, List.length_append, ih, entC_len, List.length_cons]; omega
theorem rows_cell : ∀ (es : List E), allCell (es.map rowC).flatten = true := by
  intro es
  rw [allCell_iff]
  intro v hv
  simp only [List.mem_flatten, List.mem_map] at hv
  obtain ⟨_, ⟨e, _, rfl⟩, hv⟩ := hv
  simp only [rowC, List.mem_cons, List.not_mem_nil, or_false] at hv
  rcases hv with rfl | rfl | rfl | rfl | rfl | rfl | rfl | rfl | rfl <;> rfl
theorem ents_cell : ∀ (es : List E), allCell (es.map entC).flatten = true := by
  intro es
  rw [allCell_iff]
  intro v hv
  simp only [List.mem_flatten, List.mem_map] at hv
  obtain ⟨_, ⟨e, _, rfl⟩, hv⟩ := hv
  simp only [entC, List.mem_cons, List.not_mem_nil, or_false] at hv
  rcases hv with rfl | rfl | rfl | rfl | rfl | rfl <;> rfl
theorem src_cons {H : HL} {p : Nat × AObj} {u : AV} {esz m : Nat} {xs : List AV} (h : SrcIs B H u esz m xs) : SrcIs B (p :: H) u esz m xs := by
  rcases h with h | ⟨a, h1, h | h⟩
  · exact .inl h
  · exact .inr ⟨a, h1, .inl h⟩
  · exact .inr ⟨a, h1, .inr h.cons⟩
/-- All rows, told. -/
theorem list146_ok {H : HL} {a most : Nat} {v : AV} {es : List E} (h0 : Ld B H ⟨false, a, 0⟩ 1 [.int .i64 (.ofNat most)]) (hm : 1 ≤ most) (h1 : Ld B H ⟨false, a, 1⟩ 1 [v]) (o : SrcIs B H v 9 es.length (es.map rowC).flatten) (hn : es.length ≤ 1000) :
    WF B tab (.func 146) [.ptr ⟨false, a, 0⟩] H fun r H' => ∃ h', OwnSl r (es.map rowC).flatten es.length 9 h' ∧ H' = h' ++ H := by
  refine WF.fn g146 rfl ?_
  repeat' (first
    | apply WOps.nil | apply WC.seq | apply WC.reg | apply WC.skip | apply WC.ret | (apply WC.condT; rfl) | (apply WC.condF; rfl) | (apply WOps.ldG; rfl; rfl; (first | exact ld0 rfl | exact ld1 rfl | exact ld2 rfl); rfl) | (apply WOps.bsl; rfl; (first | rfl | ((repeat' (first | exact ac0 | apply ac1)) <;> (first | rfl | assumption))); intro _) | (apply WOps.clR; rfl; rfl; exact none115_ok h0 hm; rintro _ rfl) | (apply WOps.ldG; rfl; rfl; exact h0; rfl) | (apply WOps.ldG; rfl; rfl; exact h1; rfl) | (apply WOps.ldG; rfl; rfl; exact h1.cons; rfl) | (apply WOps.purG; rfl; (intro _; rfl)) | (apply WC.condA; rfl; all_goals (intro hb; try subst hb)))
  rename_i id
  refine WOps.app (h := [(id, .row [])]) (cells := []) (n := 0) rfl rfl rfl (.inr ⟨id, rfl, rfl, rfl⟩) (List.Perm.refl _) (src_cons o) rfl (rows_cell es) (rows_len es) (by omega) ?_
  intro v' h' o'
  repeat' (first
    | apply WOps.nil | apply WC.seq | apply WC.reg | apply WC.skip | apply WC.ret | (apply WC.condT; rfl) | (apply WC.condF; rfl) | (apply WOps.ldG; rfl; rfl; (first | exact ld0 rfl | exact ld1 rfl | exact ld2 rfl); rfl) | (apply WOps.bsl; rfl; (first | rfl | ((repeat' (first | exact ac0 | apply ac1)) <;> (first | rfl | assumption))); intro _) | (apply WOps.purG; rfl; (intro _; rfl)) | (apply WC.condA; rfl; all_goals (intro hb; try subst hb)))
  refine ⟨trivial, [_], ⟨_, [], rfl, rfl, rfl⟩, h', ?_, rfl⟩
  have o2 : OwnSl v' (es.map rowC).flatten es.length 9 h' := by simpa using o'
  exact o2
theorem own_cells {v : AV} {cells : List AV} {n esz : Nat} {h : HL} (o : OwnSl v cells n esz h) : v.cells = [v] := by
  rcases o with ⟨rfl, _⟩ | ⟨id, rfl, _⟩ <;> rfl
theorem each117_ok {H : HL} {a most : Nat} {v : AV} {es : List E} (h0 : Ld B H ⟨false, a, 0⟩ 1 [.int .i64 (.ofNat most)]) (hm : 1 ≤ most) (h1 : Ld B H ⟨false, a, 1⟩ 1 [v]) (o : SrcIs B H v 9 es.length (es.map rowC).flatten) (hn : es.length ≤ 1000) :
    WF B tab (.func 117) [.ptr ⟨false, a, 0⟩] H fun r H' => ∃ c v' h', r = .fn (.func 147) [] [.ptr ⟨false, c, 0⟩] ∧ OwnSl v' (es.map rowC).flatten es.length 9 h' ∧ H' = (c, .row [v']) :: (h' ++ H) := by
  refine WF.fn g117 rfl ?_
  repeat' (first
    | apply WOps.nil | apply WC.seq | apply WC.reg | apply WC.skip | apply WC.ret | (apply WOps.st; rfl; rfl; (first | exact tk0 | exact tk1 | exact tk2); rfl; (first | rfl | ((repeat' (first | exact ac0 | apply ac1)) <;> (first | rfl | assumption))); rfl) | (apply WOps.alc; rfl; intro _) | (apply WOps.clA; rfl; rfl; exact list146_ok h0 hm h1 o hn; rintro v' _ ⟨h', o', rfl⟩) | (apply WOps.purG; rfl; (intro _; rfl)))
  refine WOps.st (cs' := [v']) rfl rfl Tk.head (by rw [own_cells o']; rfl) (by rw [own_cells o']; exact allCell_cons o'.cell allCell_nil) (by rw [own_cells o']; rfl) ?_
  repeat' (first
    | apply WOps.nil | apply WC.seq | apply WC.reg | apply WC.skip | apply WC.ret | (apply WOps.st; rfl; rfl; (first | exact tk0 | exact tk1 | exact tk2); rfl; (first | rfl | ((repeat' (first | exact ac0 | apply ac1)) <;> (first | rfl | assumption))); rfl) | (apply WOps.alc; rfl; intro _) | (apply WOps.purG; rfl; (intro _; rfl)))
  exact ⟨trivial, [_], ⟨_, [], rfl, rfl, rfl⟩, _, v', h', rfl, o', rfl⟩
theorem iter147_ok {l c : Nat} {v : AV} {es : List E} {H0 : HL} (hn : es.length ≤ 1000) (I : Nat → HL → Prop) (h0 : I 0 H0)
    (hc : ∀ i H, I i H → Ld B H ⟨false, c, 0⟩ 1 [v] ∧ SlIs B H v 9 (es.map rowC))
    (hy : ∀ i H (h : i < es.length) (H' : HL), I i H → H.Sublist H' → WF B tab (.yield l) [.agg (rowC es[i])] H' fun r H2 => r = .bool true ∧ ∃ H3, I (i + 1) H3 ∧ SubP H3 H2) :
    WF B tab (.func 147) [.fn (.yield l) [] [], .ptr ⟨false, c, 0⟩] H0 fun _ H' => ∃ H3, I es.length H3 ∧ H3.Sublist H' := by
  have hc0 := hc 0 H0 h0
  refine WF.fn g147 rfl ?_
  repeat' (first
    | apply WOps.nil | apply WC.seq | apply WC.reg | apply WC.skip | apply WC.ret | apply WC.exit | (apply WC.condT; rfl) | (apply WC.condF; rfl) | apply WC.block | (apply WOps.ldG; rfl; rfl; (first | exact ld0 rfl | exact ld1 rfl | exact ld2 rfl); rfl) | (apply WOps.st; rfl; rfl; (first | exact tk0 | exact tk1 | exact tk2); rfl; (first | rfl | ((repeat' (first | exact ac0 | apply ac1)) <;> (first | rfl | assumption))); rfl) | (apply WOps.alc; rfl; intro _) | (apply WOps.ldG; rfl; rfl; exact hc0.1; rfl) | (apply WOps.lenS; rfl; rfl; exact hc0.2) | (apply WOps.cmp; rfl; rfl; rfl; rfl; intro _ _) | (apply WOps.cmpT; rfl; rfl; rfl; rfl; intro _ _) | (apply WOps.purG; rfl; (intro _; rfl)) | (apply WC.condA; rfl; all_goals (intro hb; try subst hb)))
  rw [List.length_map]
  refine WC.loop ?_
  obtain ⟨i, hi⟩ : ∃ i : Nat, i = 0 := ⟨0, rfl⟩
  obtain ⟨H, hH⟩ : ∃ H, H = H0 := ⟨H0, rfl⟩
  refine WL.le (t' := [(0, .fn (.yield l) [] []), (5, v), (6, .int .i64 (.ofNat es.length)), (7, .int .i64 (.ofNat i))]) (by subst hi; exact Sub1.cons rfl (Sub1.cons rfl (Sub1.cons rfl (Sub1.cons rfl Sub1.nil)))) ?_
  refine WL.heq (H' := H) hH.symm ?_
  have hle : i ≤ es.length := by omega
  have hI : I i H := by rw [hi, hH]; exact h0
  clear hi hH hc0 h0
  induction hk : es.length - i using Nat.strongRecOn generalizing i H with | _ k ih => ?_
  have hcH := hc i H hI
  apply WL.step
  repeat' (first
    | apply WOps.nil | apply WC.seq | apply WC.reg | apply WC.skip | apply WC.ret | apply WC.exit | (apply WC.condT; rfl) | (apply WC.condF; rfl) | apply WC.block | (apply WOps.ldG; rfl; rfl; (first | exact ld0 rfl | exact ld1 rfl | exact ld2 rfl); rfl) | (apply WOps.st; rfl; rfl; (first | exact tk0 | exact tk1 | exact tk2); rfl; (first | rfl | ((repeat' (first | exact ac0 | apply ac1)) <;> (first | rfl | assumption))); rfl) | (apply WOps.alc; rfl; intro _) | (apply WOps.cmp; rfl; rfl; rfl; rfl; intro _ _) | (apply WOps.cmpT; rfl; rfl; rfl; rfl; intro _ _) | (apply WOps.purG; rfl; (intro _; rfl)) | (apply WC.condA; rfl; all_goals (intro hb; try subst hb)))
  · have hlt : i < es.length := by
      have h0 := ‹true = true ↔ cmpP BinOp.lss (Int.ofNat i) (Int.ofNat es.length)›
      simp [cmpP] at h0; omega
    have hcm : (es.map rowC)[i]? = some (rowC es[i]) := by rw [List.getElem?_map, List.getElem?_eq_getElem hlt]; rfl
    repeat' (first
      | apply WOps.nil | apply WC.seq | apply WC.reg | apply WC.skip | apply WC.ret | apply WC.exit | (apply WC.condT; rfl) | (apply WC.condF; rfl) | apply WC.block | (apply WOps.ldG; rfl; rfl; (first | exact ld0 rfl | exact ld1 rfl | exact ld2 rfl); rfl) | (apply WOps.st; rfl; rfl; (first | exact tk0 | exact tk1 | exact tk2); rfl; (first | rfl | ((repeat' (first | exact ac0 | apply ac1)) <;> (first | rfl | assumption))); rfl) | (apply WOps.alc; rfl; intro _) | (apply WOps.ixSl; rfl; rfl; rfl; exact hcH.2; exact hcm; intro ax hax) | (apply WOps.ldG; rfl; rfl; exact hax; rfl) | (apply WOps.cyA; rfl; rfl; rfl; exact hy i H hlt _ hI (List.sublist_cons_self _ _); rintro _ H2 ⟨rfl, H3, hI3, hs3⟩) | (apply WOps.addN; rfl; rfl; rfl; omega) | (apply WOps.cmp; rfl; rfl; rfl; rfl; intro _ _) | (apply WOps.cmpT; rfl; rfl; rfl; rfl; intro _ _) | (apply WOps.purG; rfl; (intro _; rfl)) | (apply WC.condA; rfl; all_goals (intro hb; try subst hb)))
    refine WL.le (t' := [(0, .fn (.yield l) [] []), (5, v), (6, .int .i64 (.ofNat es.length)), (7, .int .i64 (.ofNat (i + 1)))]) (Sub1.cons rfl (Sub1.cons rfl (Sub1.cons rfl (Sub1.cons rfl Sub1.nil)))) ?_
    exact WL.lessP hs3 (ih _ (by omega) (i + 1) H3 (by omega) hI3 rfl)
  · have hge : ¬ i < es.length := by
      have h0 := ‹false = true ↔ cmpP BinOp.lss (Int.ofNat i) (Int.ofNat es.length)›
      simp [cmpP] at h0; omega
    obtain rfl : i = es.length := by omega
    exact ⟨trivial, [], rfl, H, hI, List.Sublist.refl _⟩
open Classical in
/-- The entries under a prefix. -/
noncomputable def under (pre : List Nat) (es : List E) : List E := es.filter fun e => decide (underP e.key pre)
theorem under_take {pre : List Nat} {es : List E} {i : Nat} (h : i < es.length) : (underP es[i].key pre → under pre (es.take (i + 1)) = under pre (es.take i) ++ [es[i]]) ∧ (¬ underP es[i].key pre → under pre (es.take (i + 1)) = under pre (es.take i)) := by
  have e : es.take (i + 1) = es.take i ++ [es[i]] := by rw [List.take_succ_eq_append_getElem h]
  unfold under
  rw [e, List.filter_append]
  constructor
  · intro hu
    simp [List.filter_cons, hu]
  · intro hu
    simp [List.filter_cons, hu]
theorem under_len {pre : List Nat} {es : List E} : (under pre es).length ≤ es.length := List.length_filter_le _ _
theorem rows_app {us : List E} {e : E} : ((us ++ [e]).map rowC).flatten = (us.map rowC).flatten ++ rowC e := by simp
/-- A range over the rows: S i is what is so of the rest of the heap ahead of round i. -/
theorem range147 {nt : Nat} {f : AO} {ps : List Nat} {asg body : AC} {c : Nat} {v : AV} {es : List E} {t : EL} {H R0 : HL} {Q : AExit → EL → HL → Prop} (hf : gl t f = some (.fn (.func 147) [] [.ptr ⟨false, c, 0⟩])) (hn : es.length ≤ 1000) (S : Nat → HL → Prop) (p0 : H.Perm R0) (h0 : S 0 R0)
    (hc : ∀ i R, S i R → Ld B R ⟨false, c, 0⟩ 1 [v] ∧ SlIs B R v 9 (es.map rowC))
    (hy : ∀ (l i : Nat) (R : HL) (hi : i < es.length), S i R → ∃ t1, setPsL ps [.agg (rowC es[i])] nt t = some t1 ∧ ∀ o, WC B tab nt (some l) asg t1 ((l, o) :: R) fun ex t2 H2 => ex = .normal ∧ ∃ R2, Tk H2 l o R2 ∧
      ∀ o2, WC B tab nt (some l) body t2 ((l, o2) :: R2) fun ex3 t3 H3 => ex3 = .normal ∧ ∃ R3 R4, Tk H3 l o2 R3 ∧ S (i + 1) R4 ∧ SubP R4 R3)
    (he : ∀ R, S es.length R → Q .normal t R) : WC B tab nt none (.rangef f ps asg body) t H Q := by
  refine WC.perm p0 (WC.rangef hf ?_)
  intro l env d le
  refine WF.mono (Q := fun _ H => ∃ R, S es.length R ∧ H = (l, .loop .ready none env nt ps asg body d) :: R) ?_ ?_
  · refine WF.less ?_
    refine WF.mono (iter147_ok (v := v) (es := es) hn (fun i H => ∃ R, S i R ∧ H = (l, .loop .ready none env nt ps asg body d) :: R) ⟨R0, h0, rfl⟩ ?_ ?_) ?_
    · rintro i _ ⟨R, hs, rfl⟩
      obtain ⟨h1, h2⟩ := hc i R hs
      exact ⟨h1.cons, h2.cons⟩
    · rintro i _ hi H' ⟨R, hs, rfl⟩ sb
      obtain ⟨t1, ht1, w⟩ := hy l i R hi hs
      refine WF.ofSub sb (WF.yield le ht1 ((w _).mono ?_))
      rintro ex t2 H2 ⟨rfl, R2, k2, w2⟩
      refine ⟨rfl, R2, k2, (w2 _).mono ?_⟩
      rintro ex3 t3 H3 ⟨rfl, R3, R4, k3, s4, p4⟩
      refine ⟨R3, k3, rfl, ?_⟩
      exact ⟨_, ⟨R4, s4, rfl⟩, p4.cons⟩
    · rintro _ _ ⟨H3, ⟨R, hs, rfl⟩, sb⟩
      exact ⟨_, ⟨R, hs, rfl⟩, sb⟩
  · rintro _ _ ⟨R, hs, rfl⟩
    exact ⟨.ready, none, _, Tk.head, by simp, he R hs⟩
theorem under67_ok {H0 : HL} {a most : Nat} {v : AV} {es : List E} {pre : List Nat} (h0 : Ld B H0 ⟨false, a, 0⟩ 1 [.int .i64 (.ofNat most)]) (hm : 1 ≤ most) (h1 : Ld B H0 ⟨false, a, 1⟩ 1 [v]) (o : SrcIs B H0 v 9 es.length (es.map rowC).flatten) (hn : es.length ≤ 1000) (hp : pre.length ≤ 9223372036854775807) :
    WF B tab (.func 67) [.ptr ⟨false, a, 0⟩, .str pre] H0 fun r H' => ∃ h', OwnSl r ((under pre es).map rowC).flatten (under pre es).length 9 h' ∧ H' = h' ++ H0 := by
  refine WF.lessP ?_
  refine WF.fn g67 rfl ?_
  repeat' (first
    | apply WOps.nil | apply WC.seq | apply WC.reg | apply WC.skip | apply WC.ret | (apply WC.condT; rfl) | (apply WC.condF; rfl) | apply WC.block | (apply WOps.ldG; rfl; rfl; (first | exact ld0 rfl | exact ld1 rfl | exact ld2 rfl); rfl) | (apply WOps.st; rfl; rfl; (first | exact tk0 | exact tk1 | exact tk2); rfl; (first | rfl | ((repeat' (first | exact ac0 | apply ac1)) <;> (first | rfl | assumption))); rfl) | (apply WOps.alc; rfl; intro _) | (apply WOps.bx; rfl; rfl; (first | rfl | ((repeat' (first | exact ac0 | apply ac1)) <;> (first | rfl | assumption))); intro _) | (apply WOps.bsl; rfl; (first | rfl | ((repeat' (first | exact ac0 | apply ac1)) <;> (first | rfl | assumption))); intro _) | (apply WOps.clA; rfl; rfl; exact each117_ok h0.cons.cons hm h1.cons.cons o.cons.cons hn; rintro _ _ ⟨c, v', h', rfl, o', rfl⟩) | (apply WOps.purG; rfl; (intro _; rfl)) | (apply WC.condA; rfl; all_goals (intro hb; try subst hb)))
  rename_i p3 p5
  refine range147 (v := v') (es := es) (R0 := (p5, .row [.nilsl]) :: (p3, .row [.str pre]) :: (c, .row [v']) :: ([] ++ (h' ++ H0))) rfl hn (fun i R => ∃ (w5 : AV) (hw : HL), OwnSl w5 ((under pre (es.take i)).map rowC).flatten (under pre (es.take i)).length 9 hw ∧ R = (p5, .row [w5]) :: (p3, .row [.str pre]) :: (c, .row [v']) :: (hw ++ (h' ++ H0))) ?_ ⟨_, [], .inl ⟨rfl, rfl, rfl, rfl⟩, rfl⟩ ?_ ?_ ?_
  · exact permF (by intro f; simp only [AV.cells, List.append_eq, List.map_cons, List.map_nil, List.sum_nil, List.map_append, List.sum_cons, List.sum_append, List.cons_append, List.nil_append, List.append_assoc, List.append_nil]; omega)
  · rintro i _ ⟨w5, hw, o5, rfl⟩
    refine ⟨Ld.own (Tk.tail (Tk.tail Tk.head)) rfl, ?_⟩
    have o2 : OwnSl v' (es.map rowC).flatten (es.map rowC).length 9 h' := by simpa using o'
    have := (OwnSl.sl (B := B) o2 (by intro c hc; simp only [List.mem_map] at hc; obtain ⟨e, _, rfl⟩ := hc; rfl))
    exact (SlIs.right (SlIs.left this)).cons.cons.cons
  · rintro l i _ hi ⟨w5, hw, o5, rfl⟩
    refine ⟨_, rfl, ?_⟩
    intro o
    repeat' (first
      | apply WOps.nil | apply WC.seq | apply WC.reg | apply WC.skip | apply WC.ret | (apply WC.condT; rfl) | (apply WC.condF; rfl) | apply WC.block | (apply WOps.ldG; rfl; rfl; (first | exact ld0 rfl | exact ld1 rfl | exact ld2 rfl); rfl) | (apply WOps.st; rfl; rfl; (first | exact tk0 | exact tk1 | exact tk2); rfl; (first | rfl | ((repeat' (first | exact ac0 | apply ac1)) <;> (first | rfl | assumption))); rfl) | (apply WOps.alc; rfl; intro _) | (apply WOps.bx; rfl; rfl; (first | rfl | ((repeat' (first | exact ac0 | apply ac1)) <;> (first | rfl | assumption))); intro _) | (apply WOps.bsl; rfl; (first | rfl | ((repeat' (first | exact ac0 | apply ac1)) <;> (first | rfl | assumption))); intro _) | (apply WOps.purG; rfl; (intro _; rfl)) | (apply WC.condA; rfl; all_goals (intro hb; try subst hb)))
    rename_i p6
    refine ⟨rfl, _, Tk.tail Tk.head, ?_⟩
    intro o2
    have hul : (under pre (es.take i)).length ≤ 1000 := by
      have := under_len (pre := pre) (es := es.take i)
      rw [List.length_take] at this
      omega
    repeat' (first
      | apply WOps.nil | apply WC.seq | apply WC.reg | apply WC.skip | apply WC.ret | (apply WC.condT; rfl) | (apply WC.condF; rfl) | apply WC.block | (apply WOps.ldG; rfl; rfl; (first | exact ld0 rfl | exact ld1 rfl | exact ld2 rfl); rfl) | (apply WOps.st; rfl; rfl; (first | exact tk0 | exact tk1 | exact tk2); rfl; (first | rfl | ((repeat' (first | exact ac0 | apply ac1)) <;> (first | rfl | assumption))); rfl) | (apply WOps.alc; rfl; intro _) | (apply WOps.bx; rfl; rfl; (first | rfl | ((repeat' (first | exact ac0 | apply ac1)) <;> (first | rfl | assumption))); intro _) | (apply WOps.bsl; rfl; (first | rfl | ((repeat' (first | exact ac0 | apply ac1)) <;> (first | rfl | assumption))); intro _) | (apply WOps.ldG; rfl; rfl; exact Ld.own (Tk.tail (Tk.tail (Tk.tail Tk.head))) rfl; rfl) | (apply WOps.clR; rfl; rfl; exact under118_ok _ _ hp; rintro _ ⟨b, rfl, hb⟩) | (apply WOps.ldG; rfl; rfl; exact Ld.own (Tk.tail (Tk.tail Tk.head)) rfl; rfl) | (apply WOps.purG; rfl; (intro _; rfl)) | (apply WC.condA; rfl; all_goals (intro hb; try subst hb)))
    · have hu := hb.1 rfl
      rename_i q
      refine WOps.app (n := (under pre (es.take i)).length) rfl rfl rfl o5 (List.perm_append_comm_assoc [_, _, _, _, _, _] hw (h' ++ H0)) (src_one Tk.head rfl) (rows_cell _) rfl rfl (by omega) ?_
      intro v2 h2 o2
      refine WOps.perm (List.perm_append_comm_assoc h2 [_, _, _, _, _, _] (h' ++ H0)) ?_
      simp only [List.cons_append, List.nil_append]
      refine WOps.st (cs' := [v2]) rfl rfl (Tk.tail (Tk.tail (Tk.tail Tk.head))) (by rw [o2.cells]; rfl) (by rw [o2.cells]; exact allCell_cons o2.cell allCell_nil) (by rw [o2.cells]; rfl) ?_
      repeat' (first
        | apply WOps.nil | apply WC.seq | apply WC.reg | apply WC.skip | apply WC.ret | (apply WC.condT; rfl) | (apply WC.condF; rfl) | apply WC.block | (apply WOps.ldG; rfl; rfl; (first | exact ld0 rfl | exact ld1 rfl | exact ld2 rfl); rfl) | (apply WOps.st; rfl; rfl; (first | exact tk0 | exact tk1 | exact tk2); rfl; (first | rfl | ((repeat' (first | exact ac0 | apply ac1)) <;> (first | rfl | assumption))); rfl) | (apply WOps.alc; rfl; intro _) | (apply WOps.bx; rfl; rfl; (first | rfl | ((repeat' (first | exact ac0 | apply ac1)) <;> (first | rfl | assumption))); intro _) | (apply WOps.bsl; rfl; (first | rfl | ((repeat' (first | exact ac0 | apply ac1)) <;> (first | rfl | assumption))); intro _) | (apply WOps.purG; rfl; (intro _; rfl)) | (apply WC.condA; rfl; all_goals (intro hb; try subst hb)))
      refine ⟨trivial, _, _, Tk.tail (Tk.tail Tk.head), ⟨v2, h2, ?_, rfl⟩, subF (by intro f; simp only [AV.cells, List.append_eq, List.map_cons, List.map_nil, List.sum_nil, List.map_append, List.sum_cons, List.sum_append, List.cons_append, List.nil_append, List.append_assoc, List.append_nil]; omega)⟩
      · rw [(under_take hi).1 hu, rows_app, List.length_append]; exact o2
    · have hu : ¬ underP es[i].key pre := fun h => absurd (hb.2 h) (by simp)
      refine ⟨rfl, _, _, Tk.head, ⟨w5, hw, ?_, rfl⟩, subF (by intro f; simp only [AV.cells, List.append_eq, List.map_cons, List.map_nil, List.sum_nil, List.map_append, List.sum_cons, List.sum_append, List.cons_append, List.nil_append, List.append_assoc, List.append_nil]; omega)⟩
      · rw [(under_take hi).2 hu]; exact o5
  · rintro _ ⟨w5, hw, o5, rfl⟩
    rw [List.take_length] at o5
    repeat' (first
      | apply WOps.nil | apply WC.seq | apply WC.reg | apply WC.skip | apply WC.ret | (apply WC.condT; rfl) | (apply WC.condF; rfl) | apply WC.block | (apply WOps.ldG; rfl; rfl; (first | exact ld0 rfl | exact ld1 rfl | exact ld2 rfl); rfl) | (apply WOps.st; rfl; rfl; (first | exact tk0 | exact tk1 | exact tk2); rfl; (first | rfl | ((repeat' (first | exact ac0 | apply ac1)) <;> (first | rfl | assumption))); rfl) | (apply WOps.alc; rfl; intro _) | (apply WOps.bx; rfl; rfl; (first | rfl | ((repeat' (first | exact ac0 | apply ac1)) <;> (first | rfl | assumption))); intro _) | (apply WOps.bsl; rfl; (first | rfl | ((repeat' (first | exact ac0 | apply ac1)) <;> (first | rfl | assumption))); intro _) | (apply WOps.purG; rfl; (intro _; rfl)) | (apply WC.condA; rfl; all_goals (intro hb; try subst hb)))
    exact ⟨trivial, [_], ⟨_, [], rfl, rfl, rfl⟩, _, ⟨hw, o5, rfl⟩, subF (by intro f; simp only [AV.cells, List.append_eq, List.map_cons, List.map_nil, List.sum_nil, List.map_append, List.sum_cons, List.sum_append, List.cons_append, List.nil_append, List.append_assoc, List.append_nil]; omega)⟩
theorem ents_app {us : List E} {e : E} : ((us ++ [e]).map entC).flatten = (us.map entC).flatten ++ entC e := by simp
theorem rows_sl {v : AV} {es : List E} {h : HL} (o : OwnSl v (es.map rowC).flatten es.length 9 h) : SlIs B h v 9 (es.map rowC) := by
  have o2 : OwnSl v (es.map rowC).flatten (es.map rowC).length 9 h := by simpa using o
  exact OwnSl.sl o2 (by intro c hc; simp only [List.mem_map] at hc; obtain ⟨e, _, rfl⟩ := hc; rfl)
theorem ents_sl {v : AV} {es : List E} {h : HL} (o : OwnSl v (es.map entC).flatten es.length 6 h) : SlIs B h v 6 (es.map entC) := by
  have o2 : OwnSl v (es.map entC).flatten (es.map entC).length 6 h := by simpa using o
  exact OwnSl.sl o2 (by intro c hc; simp only [List.mem_map] at hc; obtain ⟨e, _, rfl⟩ := hc; rfl)
theorem list23_ok {H0 : HL} {kp a most : Nat} {v : AV} {es : List E} {pre : List Nat} (hk : Ld B H0 ⟨false, kp, 0⟩ 1 [.ptr ⟨false, a, 0⟩]) (h0 : Ld B H0 ⟨false, a, 0⟩ 1 [.int .i64 (.ofNat most)]) (hm : 1 ≤ most) (h1 : Ld B H0 ⟨false, a, 1⟩ 1 [v]) (o : SrcIs B H0 v 9 es.length (es.map rowC).flatten) (hn : es.length ≤ 1000) (hp : pre.length ≤ 9223372036854775807) :
    WF B tab (.func 23) [.ptr ⟨false, kp, 0⟩, .str pre] H0 fun r H' => ∃ h', OwnSl r ((under pre es).map entC).flatten (under pre es).length 6 h' ∧ H' = h' ++ H0 := by
  refine WF.lessP ?_
  refine WF.fn g23 rfl ?_
  repeat' (first
    | apply WOps.nil | apply WC.seq | apply WC.reg | apply WC.skip | apply WC.ret | apply WC.exit | (apply WC.condT; rfl) | (apply WC.condF; rfl) | apply WC.block | (apply WOps.ldG; rfl; rfl; (first | exact ld0 rfl | exact ld1 rfl | exact ld2 rfl); rfl) | (apply WOps.st; rfl; rfl; (first | exact tk0 | exact tk1 | exact tk2); rfl; (first | rfl | ((repeat' (first | exact ac0 | apply ac1)) <;> (first | rfl | assumption))); rfl) | (apply WOps.alc; rfl; intro _) | (apply WOps.bsl; rfl; (first | rfl | ((repeat' (first | exact ac0 | apply ac1)) <;> (first | rfl | assumption))); intro _) | (apply WOps.clR; rfl; rfl; exact none66_ok hk; rintro _ rfl) | (apply WOps.ldG; rfl; rfl; exact hk; rfl) | (apply WOps.clA; rfl; rfl; exact under67_ok h0 hm h1 o hn hp; rintro r _ ⟨h', o', rfl⟩) | (apply WOps.lenO; rfl; rfl; exact o') | (apply WOps.cmp; rfl; rfl; rfl; rfl; intro _ _) | (apply WOps.cmpT; rfl; rfl; rfl; rfl; intro _ _) | (apply WOps.purG; rfl; (intro _; rfl)) | (apply WC.condA; rfl; all_goals (intro hb; try subst hb)))
  have hul : (under pre es).length ≤ 1000 := by
    have := under_len (pre := pre) (es := es)
    omega
  generalize under pre es = us at *
  refine WC.loop ?_
  obtain ⟨i, hi⟩ : ∃ i : Nat, i = 0 := ⟨0, rfl⟩
  obtain ⟨w5, hw5⟩ : ∃ v, v = AV.nilsl := ⟨_, rfl⟩
  obtain ⟨hw, hhw⟩ : ∃ h : HL, h = [] := ⟨_, rfl⟩
  refine WL.le (t' := [(5, w5), (15, r), (16, .int .i64 (.ofNat us.length)), (17, .int .i64 (.ofNat i))]) (by subst hi; subst hw5; exact Sub1.cons rfl (Sub1.cons rfl (Sub1.cons rfl (Sub1.cons rfl Sub1.nil)))) ?_
  refine WL.heq (H' := hw ++ (h' ++ H0)) (by rw [hhw]; rfl) ?_
  have o5 : OwnSl w5 ((us.take i).map entC).flatten i 6 hw := by subst hi; exact .inl ⟨hw5, rfl, rfl, hhw⟩
  have hle : i ≤ us.length := by omega
  clear hi hw5 hhw
  induction hk : us.length - i using Nat.strongRecOn generalizing i w5 hw with | _ k ih => ?_
  apply WL.step
  repeat' (first
    | apply WOps.nil | apply WC.seq | apply WC.reg | apply WC.skip | apply WC.ret | apply WC.exit | (apply WC.condT; rfl) | (apply WC.condF; rfl) | apply WC.block | (apply WOps.ldG; rfl; rfl; (first | exact ld0 rfl | exact ld1 rfl | exact ld2 rfl); rfl) | (apply WOps.st; rfl; rfl; (first | exact tk0 | exact tk1 | exact tk2); rfl; (first | rfl | ((repeat' (first | exact ac0 | apply ac1)) <;> (first | rfl | assumption))); rfl) | (apply WOps.alc; rfl; intro _) | (apply WOps.bsl; rfl; (first | rfl | ((repeat' (first | exact ac0 | apply ac1)) <;> (first | rfl | assumption))); intro _) | (apply WOps.cmp; rfl; rfl; rfl; rfl; intro _ _) | (apply WOps.cmpT; rfl; rfl; rfl; rfl; intro _ _) | (apply WOps.purG; rfl; (intro _; rfl)) | (apply WC.condA; rfl; all_goals (intro hb; try subst hb)))
  · have hlt : i < us.length := by
      have h0 := ‹true = true ↔ cmpP BinOp.lss (Int.ofNat i) (Int.ofNat us.length)›
      simp [cmpP] at h0; omega
    have hcm : (us.map rowC)[i]? = some (rowC us[i]) := by rw [List.getElem?_map, List.getElem?_eq_getElem hlt]; rfl
    repeat' (first
      | apply WOps.nil | apply WC.seq | apply WC.reg | apply WC.skip | apply WC.ret | apply WC.exit | (apply WC.condT; rfl) | (apply WC.condF; rfl) | apply WC.block | (apply WOps.ldG; rfl; rfl; (first | exact ld0 rfl | exact ld1 rfl | exact ld2 rfl); rfl) | (apply WOps.st; rfl; rfl; (first | exact tk0 | exact tk1 | exact tk2); rfl; (first | rfl | ((repeat' (first | exact ac0 | apply ac1)) <;> (first | rfl | assumption))); rfl) | (apply WOps.alc; rfl; intro _) | (apply WOps.bsl; rfl; (first | rfl | ((repeat' (first | exact ac0 | apply ac1)) <;> (first | rfl | assumption))); intro _) | (apply WOps.ixSl; rfl; rfl; rfl; exact SlIs.right (SlIs.left (rows_sl o')); exact hcm; intro ax hax) | (apply WOps.ldG; rfl; rfl; exact hax; rfl) | (apply WOps.clR; rfl; rfl; exact told68_ok _; rintro _ rfl) | (apply WOps.cmp; rfl; rfl; rfl; rfl; intro _ _) | (apply WOps.cmpT; rfl; rfl; rfl; rfl; intro _ _) | (apply WOps.purG; rfl; (intro _; rfl)) | (apply WC.condA; rfl; all_goals (intro hb; try subst hb)))
    rename_i p7 p24
    refine WOps.app (n := i) rfl rfl rfl o5 (List.perm_append_comm_assoc [_, _] hw (h' ++ H0)) (src_one Tk.head rfl) (ents_cell _) rfl rfl (by omega) ?_
    intro v2 h2 o2
    repeat' (first
      | apply WOps.nil | apply WC.seq | apply WC.reg | apply WC.skip | apply WC.ret | apply WC.exit | (apply WC.condT; rfl) | (apply WC.condF; rfl) | apply WC.block | (apply WOps.ldG; rfl; rfl; (first | exact ld0 rfl | exact ld1 rfl | exact ld2 rfl); rfl) | (apply WOps.st; rfl; rfl; (first | exact tk0 | exact tk1 | exact tk2); rfl; (first | rfl | ((repeat' (first | exact ac0 | apply ac1)) <;> (first | rfl | assumption))); rfl) | (apply WOps.alc; rfl; intro _) | (apply WOps.bsl; rfl; (first | rfl | ((repeat' (first | exact ac0 | apply ac1)) <;> (first | rfl | assumption))); intro _) | (apply WOps.addN; rfl; rfl; rfl; omega) | (apply WOps.cmp; rfl; rfl; rfl; rfl; intro _ _) | (apply WOps.cmpT; rfl; rfl; rfl; rfl; intro _ _) | (apply WOps.purG; rfl; (intro _; rfl)) | (apply WC.condA; rfl; all_goals (intro hb; try subst hb)))
    refine WL.le (t' := [(5, v2), (15, r), (16, .int .i64 (.ofNat us.length)), (17, .int .i64 (.ofNat (i + 1)))]) (Sub1.cons rfl (Sub1.cons rfl (Sub1.cons rfl (Sub1.cons rfl Sub1.nil)))) ?_
    refine WL.lessP (H1 := h2 ++ (h' ++ H0)) (subF (by intro f; simp only [AV.cells, List.append_eq, List.map_cons, List.map_nil, List.sum_nil, List.map_append, List.sum_cons, List.sum_append, List.cons_append, List.nil_append, List.append_assoc, List.append_nil]; omega)) ?_
    refine ih _ (by omega) (i + 1) v2 h2 ?_ (by omega) rfl
    rw [List.take_succ_eq_append_getElem hlt, ents_app]
    exact o2
  · have hge : ¬ i < us.length := by
      have h0 := ‹false = true ↔ cmpP BinOp.lss (Int.ofNat i) (Int.ofNat us.length)›
      simp [cmpP] at h0; omega
    obtain rfl : i = us.length := by omega
    rw [List.take_length] at o5
    exact ⟨trivial, [_], ⟨_, [], rfl, rfl, rfl⟩, _, ⟨hw, o5, rfl⟩, subF (by intro f; simp only [AV.cells, List.append_eq, List.map_cons, List.map_nil, List.sum_nil, List.map_append, List.sum_cons, List.sum_append, List.cons_append, List.nil_append, List.append_assoc, List.append_nil]; omega)⟩
def findE : List E → List Nat → Option E
  | [], _ => none
  | x :: r, key => if x.key = key then some x else findE r key
def putE : List E → E → List E
  | [], e => [e]
  | x :: r, e => if x.key = e.key then { e with mke := x.mke } :: r else if strLess e.key x.key = true then e :: x :: r else x :: putE r e
def dropE : List E → List Nat → List E
  | [], _ => []
  | x :: r, key => if x.key = key then dropE r key else x :: dropE r key
theorem less_asymm {a b : List Nat} (h : strLess a b = true) : ¬ strLess b a = true := fun h2 => by
  have := less_trans h h2
  rw [less_irr] at this; cases this
theorem less_ne {a b : List Nat} (h : strLess a b = true) : a ≠ b := by
  rintro rfl
  rw [less_irr] at h; cases h
def AllBelow (es : List E) (key : List Nat) : Prop := ∀ x, x ∈ es → strLess x.key key = true
def Above (es : List E) (key : List Nat) : Prop := ∀ x, x ∈ es → strLess key x.key = true
inductive Rise : List E → Prop
  | nil : Rise []
  | cons {x : E} {r : List E} (h : Above r x.key) (k : Rise r) : Rise (x :: r)
theorem rise_of : ∀ {es : List E}, Sorted es → Rise es := by
  intro es
  induction es with
  | nil => intro _; exact .nil
  | cons x r ih =>
    intro s
    refine .cons (fun y hy => ?_) (ih fun i j hi hj h => ?_)
    · obtain ⟨j, hj, rfl⟩ := List.getElem_of_mem hy
      exact s 0 (j + 1) (by simp) (by simpa using hj) (by omega)
    · exact s (i + 1) (j + 1) (by simpa using hi) (by simpa using hj) (by omega)
theorem sorted_of : ∀ {es : List E}, Rise es → Sorted es := by
  intro es h
  induction h with
  | nil => intro i j hi; exact absurd hi (by simp)
  | @cons x r h k ih =>
    intro i j hi hj hij
    cases j with
    | zero => omega
    | succ j =>
      cases i with
      | zero => exact h _ (List.getElem_mem _)
      | succ i => exact ih i j (by simpa using hi) (by simpa using hj) (by omega)
theorem find_below {A Bs : List E} {key : List Nat} (h : AllBelow A key) : findE (A ++ Bs) key = findE Bs key := by
  induction A with
  | nil => rfl
  | cons x A ih =>
    have hx := h x (by simp)
    simp only [List.cons_append, findE, if_neg (less_ne hx)]
    exact ih fun y hy => h y (by simp [hy])
theorem put_below {A Bs : List E} {e : E} (h : AllBelow A e.key) : putE (A ++ Bs) e = A ++ putE Bs e := by
  induction A with
  | nil => rfl
  | cons x A ih =>
    have hx := h x (by simp)
    simp only [List.cons_append, putE, if_neg (less_ne hx), if_neg (less_asymm hx)]
    rw [ih fun y hy => h y (by simp [hy])]
theorem drop_below {A Bs : List E} {key : List Nat} (h : AllBelow A key) : dropE (A ++ Bs) key = A ++ dropE Bs key := by
  induction A with
  | nil => rfl
  | cons x A ih =>
    have hx := h x (by simp)
    simp only [List.cons_append, dropE, if_neg (less_ne hx)]
    rw [ih fun y hy => h y (by simp [hy])]
theorem find_above {Bs : List E} {key : List Nat} (h : Above Bs key) : findE Bs key = none := by
  induction Bs with
  | nil => rfl
  | cons x Bs ih =>
    have hx := h x (by simp)
    simp only [findE, if_neg (less_ne hx).symm]
    exact ih fun y hy => h y (by simp [hy])
theorem drop_above {Bs : List E} {key : List Nat} (h : Above Bs key) : dropE Bs key = Bs := by
  induction Bs with
  | nil => rfl
  | cons x Bs ih =>
    have hx := h x (by simp)
    simp only [dropE, if_neg (less_ne hx).symm]
    rw [ih fun y hy => h y (by simp [hy])]
theorem put_above {Bs : List E} {e : E} (h : Above Bs e.key) : putE Bs e = e :: Bs := by
  cases Bs with
  | nil => rfl
  | cons x Bs =>
    have hx := h x (by simp)
    simp only [putE, if_neg (less_ne hx).symm, if_pos hx]
theorem put_hit {Bs : List E} {x e : E} (h : x.key = e.key) : putE (x :: Bs) e = { e with mke := x.mke } :: Bs := by simp only [putE, if_pos h]
theorem find_hit {Bs : List E} {x : E} {key : List Nat} (h : x.key = key) : findE (x :: Bs) key = some x := by simp only [findE, if_pos h]
theorem drop_hit {Bs : List E} {x : E} {key : List Nat} (h : x.key = key) : dropE (x :: Bs) key = dropE Bs key := by simp only [dropE, if_pos h]
/-- Where a key stands, or would. -/
theorem halves_at {es : List E} {key : List Nat} {k : Nat} (so : Sorted es) (hk : isLeast (notBelow es key) es.length k) :
    AllBelow (es.take k) key ∧ ((∃ h : k < es.length, es[k].key = key ∧ Above (es.drop (k + 1)) key ∧ es.drop k = es[k] :: es.drop (k + 1)) ∨ ((¬ ∃ h : k < es.length, es[k].key = key) ∧ Above (es.drop k) key)) := by
  obtain ⟨h0, h1, h2⟩ := hk
  constructor
  · intro x hx
    obtain ⟨j, hj, rfl⟩ := List.getElem_of_mem hx
    rw [List.length_take] at hj
    rw [List.getElem_take]
    have := h1 j (by omega)
    simp only [notBelow, not_exists, Decidable.not_not] at this
    exact this (by omega)
  · by_cases hc : ∃ h : k < es.length, es[k].key = key
    · obtain ⟨hlt, hkey⟩ := hc
      refine .inl ⟨hlt, hkey, ?_, List.drop_eq_getElem_cons hlt⟩
      intro x hx
      obtain ⟨j, hj, rfl⟩ := List.getElem_of_mem hx
      rw [List.length_drop] at hj
      rw [List.getElem_drop]
      have := so k (k + 1 + j) hlt (by omega) (by omega)
      rw [← hkey]; exact this
    · refine .inr ⟨hc, ?_⟩
      have hfst : ∀ (hlt : k < es.length), strLess key es[k].key = true := fun hlt => by
        obtain ⟨_, hn⟩ := h2 k (Nat.le_refl _) hlt
        cases hb : strLess key es[k].key with
        | true => rfl
        | false => exact absurd ⟨hlt, less_total (Bool.eq_false_iff.2 hn) hb⟩ hc
      intro x hx
      obtain ⟨j, hj, rfl⟩ := List.getElem_of_mem hx
      rw [List.length_drop] at hj
      rw [List.getElem_drop]
      have h3 := hfst (by omega)
      cases j with
      | zero => simpa using h3
      | succ j => exact less_trans h3 (so k (k + (j + 1)) (by omega) (by omega) (by omega))
theorem find_at {es : List E} {key : List Nat} {k : Nat} (so : Sorted es) (hk : isLeast (notBelow es key) es.length k) :
    (∃ h : k < es.length, es[k].key = key ∧ findE es key = some es[k]) ∨ ((¬ ∃ h : k < es.length, es[k].key = key) ∧ findE es key = none) := by
  obtain ⟨h1, h2⟩ := halves_at so hk
  have e : findE es key = findE (es.drop k) key := by
    rw [← find_below (Bs := es.drop k) h1, List.take_append_drop]
  rcases h2 with ⟨h, h3, h4, h5⟩ | ⟨h3, h4⟩
  · exact .inl ⟨h, h3, by rw [e, h5, find_hit h3]⟩
  · exact .inr ⟨h3, by rw [e, find_above h4]⟩
theorem put_at {es : List E} {e : E} {k : Nat} (so : Sorted es) (hk : isLeast (notBelow es e.key) es.length k) :
    (∃ h : k < es.length, es[k].key = e.key ∧ putE es e = es.take k ++ { e with mke := es[k].mke } :: es.drop (k + 1)) ∨ ((¬ ∃ h : k < es.length, es[k].key = e.key) ∧ putE es e = es.take k ++ e :: es.drop k) := by
  obtain ⟨h1, h2⟩ := halves_at so hk
  have q : putE es e = es.take k ++ putE (es.drop k) e := by
    rw [← put_below (Bs := es.drop k) h1, List.take_append_drop]
  rcases h2 with ⟨h, h3, h4, h5⟩ | ⟨h3, h4⟩
  · exact .inl ⟨h, h3, by rw [q, h5, put_hit h3]⟩
  · exact .inr ⟨h3, by rw [q, put_above h4]⟩
theorem drop_at {es : List E} {key : List Nat} {k : Nat} (so : Sorted es) (hk : isLeast (notBelow es key) es.length k) :
    (∃ h : k < es.length, es[k].key = key ∧ dropE es key = es.take k ++ es.drop (k + 1)) ∨ ((¬ ∃ h : k < es.length, es[k].key = key) ∧ dropE es key = es) := by
  obtain ⟨h1, h2⟩ := halves_at so hk
  have q : dropE es key = es.take k ++ dropE (es.drop k) key := by
    rw [← drop_below (Bs := es.drop k) h1, List.take_append_drop]
  rcases h2 with ⟨h, h3, h4, h5⟩ | ⟨h3, h4⟩
  · exact .inl ⟨h, h3, by rw [q, h5, drop_hit h3, drop_above h4]⟩
  · exact .inr ⟨h3, by rw [q, drop_above h4, List.take_append_drop]⟩
theorem mem_put {es : List E} {e x : E} (h : x ∈ putE es e) : x ∈ es ∨ x.key = e.key ∧ x.val = e.val := by
  induction es with
  | nil => simp only [putE, List.mem_singleton] at h; subst h; exact .inr ⟨rfl, rfl⟩
  | cons y r ih =>
    simp only [putE] at h
    split at h
    · rcases List.mem_cons.1 h with rfl | h
      · exact .inr ⟨rfl, rfl⟩
      · exact .inl (by simp [h])
    · split at h
      · rcases List.mem_cons.1 h with rfl | h
        · exact .inr ⟨rfl, rfl⟩
        · exact .inl h
      · rcases List.mem_cons.1 h with rfl | h
        · exact .inl (by simp)
        · rcases ih h with h | h
          · exact .inl (by simp [h])
          · exact .inr h
theorem rise_put {es : List E} {e : E} (h : Rise es) : Rise (putE es e) := by
  induction h with
  | nil => exact .cons (fun _ h => by simp at h) .nil
  | @cons y r h k ih =>
    simp only [putE]
    split
    · rename_i hk
      exact .cons (fun z hz => by show strLess e.key z.key = true; rw [← hk]; exact h z hz) k
    · rename_i hk
      split
      · rename_i hl
        refine .cons (fun z hz => ?_) (.cons h k)
        rcases List.mem_cons.1 hz with rfl | hz
        · exact hl
        · exact less_trans hl (h z hz)
      · rename_i hl
        refine .cons (fun z hz => ?_) ih
        rcases mem_put hz with hz | ⟨hz, _⟩
        · exact h z hz
        · rw [hz]
          cases hb : strLess y.key e.key with
          | true => rfl
          | false => exact absurd (less_total hb (Bool.eq_false_iff.2 hl)) hk
theorem mem_drop {es : List E} {key : List Nat} {x : E} (h : x ∈ dropE es key) : x ∈ es := by
  induction es with
  | nil => simp [dropE] at h
  | cons y r ih =>
    simp only [dropE] at h
    split at h
    · exact List.mem_cons_of_mem _ (ih h)
    · rcases List.mem_cons.1 h with rfl | h
      · simp
      · exact List.mem_cons_of_mem _ (ih h)
theorem rise_drop {es : List E} {key : List Nat} (h : Rise es) : Rise (dropE es key) := by
  induction h with
  | nil => exact .nil
  | @cons y r h k ih =>
    simp only [dropE]
    split
    · exact ih
    · exact .cons (fun z hz => h z (mem_drop hz)) ih
theorem drop_len {es : List E} {key : List Nat} : (dropE es key).length ≤ es.length := by
  induction es with
  | nil => exact Nat.le_refl _
  | cons y r ih => simp only [dropE]; split <;> simp only [List.length_cons] <;> omega
theorem put_len {es : List E} {e : E} : (putE es e).length = es.length + (match findE es e.key with | some _ => 0 | none => 1) ∨ ¬ Rise es := by
  induction es with
  | nil => exact .inl rfl
  | cons y r ih =>
    simp only [putE, findE]
    split
    · exact .inl (by simp)
    · split
      · rename_i h1 h2
        by_cases hr : Rise (y :: r)
        · cases hr with
          | cons h k => exact .inl (by rw [find_above (fun z hz => less_trans h2 (h z hz))]; simp)
        · exact .inr hr
      · rcases ih with ih | ih
        · exact .inl (by simp only [List.length_cons, ih]; omega)
        · exact .inr fun hr => by cases hr with | cons h k => exact ih k
/-- What is found behind a change. -/
theorem find_put {es : List E} {e : E} (h : Rise es) : findE (putE es e) e.key = some (match findE es e.key with | some x => { e with mke := x.mke } | none => e) := by
  induction h with
  | nil => simp [putE, findE]
  | @cons y r h k ih =>
    simp only [putE, findE]
    split
    · simp [findE]
    · rename_i h1
      split
      · rename_i h2
        rw [find_above (fun z hz => less_trans h2 (h z hz))]
        simp [findE]
      · simp only [findE, if_neg h1, ih]
theorem find_put_ne {es : List E} {e : E} {key : List Nat} (hne : e.key ≠ key) : findE (putE es e) key = findE es key := by
  induction es with
  | nil => simp [putE, findE, hne]
  | cons y r ih =>
    simp only [putE, findE]
    split
    · rename_i h1
      simp only [findE, if_neg hne, if_neg (fun h => hne (h1.symm.trans h))]
    · split
      · simp only [findE, if_neg hne]
      · simp only [findE, ih]
theorem find_drop_ne {es : List E} {k key : List Nat} (hne : k ≠ key) : findE (dropE es k) key = findE es key := by
  induction es with
  | nil => rfl
  | cons y r ih =>
    simp only [dropE, findE]
    split
    · rename_i h1
      simp only [if_neg (fun h => hne (h1.symm.trans h)), ih]
    · simp only [findE, ih]
theorem find_key {es : List E} {key : List Nat} {x : E} (h : findE es key = some x) : x ∈ es ∧ x.key = key := by
  induction es with
  | nil => cases h
  | cons y r ih =>
    simp only [findE] at h
    split at h
    · cases h; rename_i h1; exact ⟨by simp, h1⟩
    · obtain ⟨a, b⟩ := ih h; exact ⟨by simp [a], b⟩
theorem rows_take : ∀ {es : List E} {k : Nat}, (es.map rowC).flatten.take (k * 9) = ((es.take k).map rowC).flatten := by
  intro es
  induction es with
  | nil => intro k; simp
  | cons x es ih =>
    intro k
    cases k with
    | zero => simp
    | succ k =>
      simp only [List.map_cons, List.flatten_cons, List.take_succ_cons]
      rw [List.take_append, rowC_len, List.take_of_length_le (by rw [rowC_len]; omega), show (k + 1) * 9 - 9 = k * 9 by omega, ih]
theorem rows_drop : ∀ {es : List E} {k : Nat}, (es.map rowC).flatten.drop (k * 9) = ((es.drop k).map rowC).flatten := by
  intro es
  induction es with
  | nil => intro k; simp
  | cons x es ih =>
    intro k
    cases k with
    | zero => simp
    | succ k =>
      simp only [List.map_cons, List.flatten_cons, List.drop_succ_cons]
      rw [List.drop_append, rowC_len, List.drop_eq_nil_of_le (by rw [rowC_len]; omega), show (k + 1) * 9 - 9 = k * 9 by omega, ih, List.nil_append]
theorem putN_of {cs vs : List AV} {off : Nat} (h : off + vs.length ≤ cs.length) : putN cs off vs = some (cs.take off ++ (vs ++ cs.drop (off + vs.length))) := by
  unfold putN
  rw [putAt_of h]
  simp only [forceL_eq]
/-- What is laid into the table. -/
def valC (e : E) : List AV := [.str [], .str e.val, .int .u64 e.ses, .int .u64 e.locks, .int .u64 (.ofNat 0), .int .u64 (.ofNat 0)]
def tblC (most : Nat) (v : AV) (last : Int) : List AV := [.int .i64 (.ofNat most), v, .int .u64 last]
theorem raise63_tk {H R : HL} {a most : Nat} {v : AV} {last ix : Int} (hm : 1 ≤ most) (tk : Tk H a (.row (tblC most v last)) R) : WF B tab (.func 63) [.ptr ⟨false, a, 0⟩, .int .u64 ix] H fun r H' => H' = (a, .row (tblC most v (maxI last ix))) :: R :=
  WF.perm tk (raise63_ok hm)
theorem flat_put {A Cs : List E} {z : List AV} {e : E} (hz : z.length = 9) :
    let ds := (A.map rowC).flatten ++ (z ++ (Cs.map rowC).flatten)
    ds.take (A.length * 9) ++ (rowC e ++ ds.drop (A.length * 9 + 9)) = ((A ++ e :: Cs).map rowC).flatten := by
  have hl := rows_len A
  simp only
  rw [← hl, List.take_left, List.drop_append, List.drop_eq_nil_of_le (by omega), List.nil_append, Nat.add_sub_cancel_left, ← hz, List.drop_left]
  simp
theorem copy_rows {es : List E} {k : Nat} {zz : List AV} (hk : k ≤ es.length) (hz : zz.length = 9) :
    ∃ z : List AV, z.length = 9 ∧ 
    ((es.map rowC).flatten ++ zz).take (0 + (k + 1) * 9) ++ ((((es.map rowC).flatten ++ zz).drop (k * 9)).take (min (es.length + 1 - k) (es.length + 1 - (k + 1)) * 9) ++ ((es.map rowC).flatten ++ zz).drop (0 + (k + 1) * 9 + min (es.length + 1 - k) (es.length + 1 - (k + 1)) * 9)) =
      ((es.take k).map rowC).flatten ++ (z ++ ((es.drop k).map rowC).flatten) := by
  have hA : ((es.take k).map rowC).flatten.length = k * 9 := by rw [rows_len, List.length_take]; omega
  have hC : ((es.drop k).map rowC).flatten.length = (es.length - k) * 9 := by rw [rows_len, List.length_drop]
  have he : (es.map rowC).flatten = ((es.take k).map rowC).flatten ++ ((es.drop k).map rowC).flatten := by
    rw [← List.flatten_append, ← List.map_append, List.take_append_drop]
  have hmin : min (es.length + 1 - k) (es.length + 1 - (k + 1)) = es.length - k := by omega
  rw [he, hmin]
  generalize ((es.take k).map rowC).flatten = Ar at *
  generalize ((es.drop k).map rowC).flatten = Cr at *
  refine ⟨(Cr ++ zz).take 9, by rw [List.length_take, List.length_append]; omega, ?_⟩
  have e1 : List.take (0 + (k + 1) * 9) (Ar ++ Cr ++ zz) = Ar ++ (Cr ++ zz).take 9 := by
    rw [List.append_assoc, List.take_append, List.take_of_length_le (by omega), hA]
    congr 2; omega
  have e2 : List.take ((es.length - k) * 9) (List.drop (k * 9) (Ar ++ Cr ++ zz)) = Cr := by
    rw [List.append_assoc, ← hA, List.drop_left, ← hC, List.take_left]
  have e3 : List.drop (0 + (k + 1) * 9 + (es.length - k) * 9) (Ar ++ Cr ++ zz) = [] := by
    rw [List.drop_eq_nil_iff, List.length_append, List.length_append]; omega
  rw [e1, e2, e3, List.append_nil, List.append_assoc]
theorem put_row {es : List E} {k : Nat} {z vs : List AV} {e : E} {A Cs : List E} (hA : A.length = k) (hz : z.length = 9) (hv : vs = rowC e) :
    putN ((A.map rowC).flatten ++ (z ++ (Cs.map rowC).flatten)) (0 + k * 9) vs = some ((A ++ e :: Cs).map rowC).flatten := by
  subst hv hA
  have hl := rows_len A
  rw [putN_of (by rw [List.length_append, List.length_append, rowC_len, hz]; omega), Nat.zero_add, rowC_len]
  exact congrArg some (flat_put hz)
theorem put114_ok {hs R : HL} {a most : Nat} {v : AV} {last : Int} {es : List E} {e : E} (hm : 1 ≤ most) (o : OwnSl v (es.map rowC).flatten es.length 9 hs) (hn : es.length ≤ 1000) (so : Rise es) (hmk : e.mke = e.ix) :
    WF B tab (.func 114) [.ptr ⟨false, a, 0⟩, .str e.key, .agg (valC e), .int .u64 e.ix] ((a, .row (tblC most v last)) :: (hs ++ R)) fun r H' =>
      ((findE es e.key = none ∧ most ≤ es.length) ∧ r = .tup [.agg (rowC e0), .int .i64 (.ofNat 5)] ∧ H' = (a, .row (tblC most v last)) :: (hs ++ R)) ∨
      (¬ (findE es e.key = none ∧ most ≤ es.length) ∧ ∃ e' v' hs', r = .tup [.agg (rowC e'), .int .i64 (.ofNat 0)] ∧ OwnSl v' ((putE es e).map rowC).flatten (putE es e).length 9 hs' ∧ H' = (a, .row (tblC most v' (maxI last e.ix))) :: (hs' ++ R)) := by
  refine WF.lessP ?_
  refine WF.fn g114 rfl ?_
  have hsl : ∀ {H : HL}, SlIs B (H ++ (hs ++ R)) v 9 (es.map rowC) := SlIs.right (SlIs.left (rows_sl o))
  repeat' (first
    | apply WOps.nil | apply WC.seq | apply WC.reg | apply WC.skip | apply WC.ret | (apply WC.condT; rfl) | (apply WC.condF; rfl) | apply WC.dreg | apply WD.nil | (apply WOps.ldG; rfl; rfl; (first | exact ld0 rfl | exact ld1 rfl | exact ld2 rfl); rfl) | (apply WOps.st; rfl; rfl; (first | exact tk0 | exact tk1 | exact tk2); rfl; (first | rfl | ((repeat' (first | exact ac0 | apply ac1)) <;> (first | rfl | assumption))); rfl) | (apply WOps.alc; rfl; intro _) | (apply WOps.bx; rfl; rfl; (first | rfl | ((repeat' (first | exact ac0 | apply ac1)) <;> (first | rfl | assumption))); intro _) | (apply WOps.bsl; rfl; (first | rfl | ((repeat' (first | exact ac0 | apply ac1)) <;> (first | rfl | assumption))); intro _) | (apply WD.st; rfl; rfl; rfl; (first | exact tk0 | exact tk1 | exact tk2); rfl; (first | rfl | ((repeat' (first | exact ac0 | apply ac1)) <;> (first | rfl | assumption))); rfl) | (apply WD.alc; rfl; rfl; intro _) | (apply WD.bsl; rfl; rfl; (first | rfl | ((repeat' (first | exact ac0 | apply ac1)) <;> (first | rfl | assumption))); intro _) | (apply WOps.clR; rfl; rfl; exact none115_ok (most := most) (Ld.own (Tk.tail (Tk.tail Tk.head)) rfl) hm; rintro _ rfl) | (apply WOps.clR; rfl; rfl; exact at126_ok (v := v) (Ld.own (Tk.tail (Tk.tail Tk.head)) rfl) (hsl (H := [_, _, _])) (by omega) (sorted_of so); rintro _ ⟨k, b, rfl, hk, hkb⟩; cases b) | (apply WD.lenO; rfl; rfl; exact o) | (apply WOps.ldG; rfl; rfl; exact Ld.own (Tk.tail (Tk.tail (Tk.tail Tk.head))) rfl; rfl) | (apply WOps.cmp; rfl; rfl; rfl; rfl; intro _ _) | (apply WOps.cmpT; rfl; rfl; rfl; rfl; intro _ _) | (apply WOps.purG; rfl; (intro _; rfl)) | (apply WOps.skp; rfl) | (apply WD.load; rfl; (first | (apply at1; (first | exact rd0 rfl rfl rfl | exact rd1 rfl rfl rfl | exact rd2 rfl rfl rfl); rfl) | (apply at2; (first | exact rd0 rfl rfl rfl | exact rd1 rfl rfl rfl | exact rd2 rfl rfl rfl); repeat' (first | exact same0 | (apply same1; (first | exact rd0 rfl rfl rfl | exact rd1 rfl rfl rfl | exact rd2 rfl rfl rfl); rfl) | (apply same2; (first | exact rd0 rfl rfl rfl | exact rd1 rfl rfl rfl | exact rd2 rfl rfl rfl)))))) | (apply WD.cmp; rfl; rfl; rfl; rfl; intro _ _) | (apply WD.cmpT; rfl; rfl; rfl; rfl; intro _ _) | (apply WD.pur; rfl; (intro _; rfl)) | (apply WD.skp; rfl) | (apply WD.skpL; rfl) | (apply WD.skpX; rfl) | (apply WOps.ask; rfl; all_goals (intro hb; first | subst hb | fail_if_success (cases hb))) | (apply WC.condA; rfl; all_goals (intro hb; try subst hb)) | (apply WD.ask; rfl; all_goals (intro hb; first | subst hb | fail_if_success (cases hb))))
  · have hge := ‹true = true ↔ cmpP BinOp.geq (Int.ofNat es.length) (Int.ofNat most)›
    simp only [cmpP, true_iff, Int.ofNat_eq_natCast] at hge
    rcases find_at (sorted_of so) hk with ⟨h1, h2, h3⟩ | ⟨h1, h2⟩
    · exact absurd (hkb.2 ⟨h1, h2⟩) (by simp)
    · exact ⟨trivial, [_, _], ⟨_, _, rfl, ⟨_, _, rfl, Ld.own Tk.head rfl, rfl⟩, _, _, rfl, rfl, rfl⟩, _, .inl ⟨⟨h2, by omega⟩, rfl, rfl⟩, subF (by intro f; simp only [AV.cells, List.append_eq, List.map_cons, List.map_nil, List.sum_nil, List.map_append, List.sum_cons, List.sum_append, List.cons_append, List.nil_append, List.append_assoc, List.append_nil]; omega)⟩
  · have hge := ‹false = true ↔ cmpP BinOp.geq (Int.ofNat es.length) (Int.ofNat most)›
    simp only [cmpP, Bool.false_eq_true, false_iff, Int.ofNat_eq_natCast] at hge
    rename_i p6 p8 _ p12 q
    have hno : ¬ ∃ h : k < es.length, es[k].key = e.key := fun h => absurd (hkb.2 h) (by simp)
    have hk1 := hk.1
    refine WOps.app (n := es.length) rfl rfl rfl o (List.perm_append_comm_assoc [_, _, _, _, _] hs R) (src_one Tk.head rfl) (rows_cell _) rfl rfl (by omega) ?_
    intro v2 h2 o2
    rcases o2 with ⟨_, hz, _⟩ | ⟨id2, rfl, rfl, hl2⟩
    · omega
    simp only [List.cons_append, List.nil_append]
    repeat' (first
      | apply WOps.nil | apply WC.seq | apply WC.reg | apply WC.skip | apply WC.ret | (apply WC.condT; rfl) | (apply WC.condF; rfl) | apply WC.dreg | apply WD.nil | (apply WOps.ldG; rfl; rfl; (first | exact ld0 rfl | exact ld1 rfl | exact ld2 rfl); rfl) | (apply WOps.st; rfl; rfl; (first | exact tk0 | exact tk1 | exact tk2); rfl; (first | rfl | ((repeat' (first | exact ac0 | apply ac1)) <;> (first | rfl | assumption))); rfl) | (apply WOps.alc; rfl; intro _) | (apply WOps.bx; rfl; rfl; (first | rfl | ((repeat' (first | exact ac0 | apply ac1)) <;> (first | rfl | assumption))); intro _) | (apply WOps.bsl; rfl; (first | rfl | ((repeat' (first | exact ac0 | apply ac1)) <;> (first | rfl | assumption))); intro _) | (apply WD.st; rfl; rfl; rfl; (first | exact tk0 | exact tk1 | exact tk2); rfl; (first | rfl | ((repeat' (first | exact ac0 | apply ac1)) <;> (first | rfl | assumption))); rfl) | (apply WD.alc; rfl; rfl; intro _) | (apply WD.bsl; rfl; rfl; (first | rfl | ((repeat' (first | exact ac0 | apply ac1)) <;> (first | rfl | assumption))); intro _) | (apply WOps.st; rfl; rfl; exact Tk.tail (Tk.tail (Tk.tail (Tk.tail (Tk.tail Tk.head)))); rfl; rfl; rfl) | (apply WD.addN; rfl; rfl; rfl; omega) | (apply WD.slLo; rfl; rfl; rfl; omega) | (apply WOps.cmp; rfl; rfl; rfl; rfl; intro _ _) | (apply WOps.cmpT; rfl; rfl; rfl; rfl; intro _ _) | (apply WOps.purG; rfl; (intro _; rfl)) | (apply WOps.skp; rfl) | (apply WD.load; rfl; (first | (apply at1; (first | exact rd0 rfl rfl rfl | exact rd1 rfl rfl rfl | exact rd2 rfl rfl rfl); rfl) | (apply at2; (first | exact rd0 rfl rfl rfl | exact rd1 rfl rfl rfl | exact rd2 rfl rfl rfl); repeat' (first | exact same0 | (apply same1; (first | exact rd0 rfl rfl rfl | exact rd1 rfl rfl rfl | exact rd2 rfl rfl rfl); rfl) | (apply same2; (first | exact rd0 rfl rfl rfl | exact rd1 rfl rfl rfl | exact rd2 rfl rfl rfl)))))) | (apply WD.cmp; rfl; rfl; rfl; rfl; intro _ _) | (apply WD.cmpT; rfl; rfl; rfl; rfl; intro _ _) | (apply WD.pur; rfl; (intro _; rfl)) | (apply WD.skp; rfl) | (apply WD.skpL; rfl) | (apply WD.skpX; rfl) | (apply WOps.ask; rfl; all_goals (intro hb; first | subst hb | fail_if_success (cases hb))) | (apply WC.condA; rfl; all_goals (intro hb; try subst hb)) | (apply WD.ask; rfl; all_goals (intro hb; first | subst hb | fail_if_success (cases hb))))
    have hlen : ((es.map rowC).flatten ++ rowC e0).length = (es.length + 1) * 9 := hl2
    refine WD.cpy (sn := es.length + 1 - k) (off := 0 + (k + 1) * 9) (cs := ((es.map rowC).flatten ++ rowC e0).drop (k * 9)) rfl rfl rfl (Tk.tail Tk.head) (.inr ⟨_, rfl, .inr (Ld.own (Tk.tail Tk.head) ?_)⟩) ?_ ?_ ?_
    · show takeN (List.drop (0 + k * 9) ((es.map rowC).flatten ++ rowC e0)) _ = _
      rw [Nat.zero_add, takeN_of (by rw [List.length_drop, hlen]; omega), List.take_of_length_le (by rw [List.length_drop, hlen]; omega)]
    · rw [List.length_drop, hlen]; omega
    · rw [hl2]; omega
    obtain ⟨z, hz, hX⟩ := copy_rows (es := es) (k := k) (zz := rowC e0) hk1 rfl
    refine WD.heq (H' := (id2, .row (((es.take k).map rowC).flatten ++ (z ++ ((es.drop k).map rowC).flatten))) :: _) (by rw [← hX]; rfl) ?_
    have hput : putE es e = es.take k ++ e :: es.drop k := by
      rcases put_at (sorted_of so) hk with ⟨h1, h2, h3⟩ | ⟨h1, h2⟩
      · exact absurd ⟨h1, h2⟩ hno
      · exact h2
    have hf : findE es e.key = none := by
      rcases find_at (sorted_of so) hk with ⟨h1, h2, h3⟩ | ⟨h1, h2⟩
      · exact absurd ⟨h1, h2⟩ hno
      · exact h2
    repeat' (first
      | apply WOps.nil | apply WC.seq | apply WC.reg | apply WC.skip | apply WC.ret | (apply WC.condT; rfl) | (apply WC.condF; rfl) | apply WC.dreg | apply WD.nil | (apply WOps.ldG; rfl; rfl; (first | exact ld0 rfl | exact ld1 rfl | exact ld2 rfl); rfl) | (apply WOps.st; rfl; rfl; (first | exact tk0 | exact tk1 | exact tk2); rfl; (first | rfl | ((repeat' (first | exact ac0 | apply ac1)) <;> (first | rfl | assumption))); rfl) | (apply WOps.alc; rfl; intro _) | (apply WOps.bx; rfl; rfl; (first | rfl | ((repeat' (first | exact ac0 | apply ac1)) <;> (first | rfl | assumption))); intro _) | (apply WOps.bsl; rfl; (first | rfl | ((repeat' (first | exact ac0 | apply ac1)) <;> (first | rfl | assumption))); intro _) | (apply WD.st; rfl; rfl; rfl; (first | exact tk0 | exact tk1 | exact tk2); rfl; (first | rfl | ((repeat' (first | exact ac0 | apply ac1)) <;> (first | rfl | assumption))); rfl) | (apply WD.alc; rfl; rfl; intro _) | (apply WD.bsl; rfl; rfl; (first | rfl | ((repeat' (first | exact ac0 | apply ac1)) <;> (first | rfl | assumption))); intro _) | (apply WD.load; rfl; (apply at2; exact rd_ld rfl (Ld.own (Tk.tail (Tk.tail (Tk.tail Tk.head))) rfl) rfl; exact same0)) | (apply WD.ixO; rfl; rfl; rfl; omega) | (apply WOps.cmp; rfl; rfl; rfl; rfl; intro _ _) | (apply WOps.cmpT; rfl; rfl; rfl; rfl; intro _ _) | (apply WOps.purG; rfl; (intro _; rfl)) | (apply WOps.skp; rfl) | (apply WD.load; rfl; (first | (apply at1; (first | exact rd0 rfl rfl rfl | exact rd1 rfl rfl rfl | exact rd2 rfl rfl rfl); rfl) | (apply at2; (first | exact rd0 rfl rfl rfl | exact rd1 rfl rfl rfl | exact rd2 rfl rfl rfl); repeat' (first | exact same0 | (apply same1; (first | exact rd0 rfl rfl rfl | exact rd1 rfl rfl rfl | exact rd2 rfl rfl rfl); rfl) | (apply same2; (first | exact rd0 rfl rfl rfl | exact rd1 rfl rfl rfl | exact rd2 rfl rfl rfl)))))) | (apply WD.cmp; rfl; rfl; rfl; rfl; intro _ _) | (apply WD.cmpT; rfl; rfl; rfl; rfl; intro _ _) | (apply WD.pur; rfl; (intro _; rfl)) | (apply WD.skp; rfl) | (apply WD.skpL; rfl) | (apply WD.skpX; rfl) | (apply WOps.ask; rfl; all_goals (intro hb; first | subst hb | fail_if_success (cases hb))) | (apply WC.condA; rfl; all_goals (intro hb; try subst hb)) | (apply WD.ask; rfl; all_goals (intro hb; first | subst hb | fail_if_success (cases hb))))
    have hrow : rowC e = [.str e.key, .str [], .str e.val, .int .u64 e.ses, .int .u64 e.locks, .int .u64 (.ofNat 0), .int .u64 (.ofNat 0), .int .u64 e.ix, .int .u64 e.ix] := by simp [rowC, hmk]
    refine WD.st rfl rfl rfl Tk.head rfl rfl (put_row (es := es) (e := e) (by rw [List.length_take]; omega) hz hrow.symm) ?_
    repeat' (first
      | apply WOps.nil | apply WC.seq | apply WC.reg | apply WC.skip | apply WC.ret | (apply WC.condT; rfl) | (apply WC.condF; rfl) | apply WC.dreg | apply WD.nil | (apply WOps.ldG; rfl; rfl; (first | exact ld0 rfl | exact ld1 rfl | exact ld2 rfl); rfl) | (apply WOps.st; rfl; rfl; (first | exact tk0 | exact tk1 | exact tk2); rfl; (first | rfl | ((repeat' (first | exact ac0 | apply ac1)) <;> (first | rfl | assumption))); rfl) | (apply WOps.alc; rfl; intro _) | (apply WOps.bx; rfl; rfl; (first | rfl | ((repeat' (first | exact ac0 | apply ac1)) <;> (first | rfl | assumption))); intro _) | (apply WOps.bsl; rfl; (first | rfl | ((repeat' (first | exact ac0 | apply ac1)) <;> (first | rfl | assumption))); intro _) | (apply WD.st; rfl; rfl; rfl; (first | exact tk0 | exact tk1 | exact tk2); rfl; (first | rfl | ((repeat' (first | exact ac0 | apply ac1)) <;> (first | rfl | assumption))); rfl) | (apply WD.alc; rfl; rfl; intro _) | (apply WD.bsl; rfl; rfl; (first | rfl | ((repeat' (first | exact ac0 | apply ac1)) <;> (first | rfl | assumption))); intro _) | (apply WOps.clA; rfl; rfl; exact raise63_tk hm (Tk.tail Tk.head); rintro _ _ rfl) | (apply WOps.ldG; rfl; rfl; exact Ld.own (Tk.tail (Tk.tail (Tk.tail Tk.head))) rfl; rfl) | (apply WOps.st; rfl; rfl; exact (Tk.tail (Tk.tail (Tk.tail (Tk.tail Tk.head)))); rfl; rfl; rfl) | (apply WOps.cmp; rfl; rfl; rfl; rfl; intro _ _) | (apply WOps.cmpT; rfl; rfl; rfl; rfl; intro _ _) | (apply WOps.purG; rfl; (intro _; rfl)) | (apply WOps.skp; rfl) | (apply WD.load; rfl; (first | (apply at1; (first | exact rd0 rfl rfl rfl | exact rd1 rfl rfl rfl | exact rd2 rfl rfl rfl); rfl) | (apply at2; (first | exact rd0 rfl rfl rfl | exact rd1 rfl rfl rfl | exact rd2 rfl rfl rfl); repeat' (first | exact same0 | (apply same1; (first | exact rd0 rfl rfl rfl | exact rd1 rfl rfl rfl | exact rd2 rfl rfl rfl); rfl) | (apply same2; (first | exact rd0 rfl rfl rfl | exact rd1 rfl rfl rfl | exact rd2 rfl rfl rfl)))))) | (apply WD.cmp; rfl; rfl; rfl; rfl; intro _ _) | (apply WD.cmpT; rfl; rfl; rfl; rfl; intro _ _) | (apply WD.pur; rfl; (intro _; rfl)) | (apply WD.skp; rfl) | (apply WD.skpL; rfl) | (apply WD.skpX; rfl) | (apply WOps.ask; rfl; all_goals (intro hb; first | subst hb | fail_if_success (cases hb))) | (apply WC.condA; rfl; all_goals (intro hb; try subst hb)) | (apply WD.ask; rfl; all_goals (intro hb; first | subst hb | fail_if_success (cases hb))))
    refine ⟨trivial, [_, _], ⟨_, _, rfl, ⟨_, _, rfl, Ld.own Tk.head rfl, rfl⟩, _, _, rfl, rfl, rfl⟩, _, .inr ⟨fun h => hge (by omega), e, _, [(id2, _)], ?_, .inr ⟨id2, rfl, rfl, rows_len _⟩, rfl⟩, ?_⟩
    · rw [hrow]; rfl
    · have hln : (putE es e).length = es.length + 1 := by
        rw [hput, List.length_append, List.length_cons, List.length_take, List.length_drop]; omega
      rw [hln, hput]
      exact subF (by intro f; simp only [AV.cells, List.append_eq, List.map_cons, List.map_nil, List.sum_nil, List.map_append, List.sum_cons, List.sum_append, List.cons_append, List.nil_append, List.append_assoc, List.append_nil]; omega)
  · rename_i p6 p8 p12
    obtain ⟨hlt, hkey⟩ := hkb.1 rfl
    rcases o with ⟨_, hz, _⟩ | ⟨id2, rfl, rfl, hl2⟩
    · omega
    have hcm : (es.map rowC)[k]? = some (rowC es[k]) := by rw [List.getElem?_map, List.getElem?_eq_getElem hlt]; rfl
    have hput : putE es e = es.take k ++ { e with mke := es[k].mke } :: es.drop (k + 1) := by
      rcases put_at (sorted_of so) hk with ⟨h1, h2, h3⟩ | ⟨h1, h2⟩
      · exact h3
      · exact absurd ⟨hlt, hkey⟩ h1
    have hf : findE es e.key = some es[k] := by
      rcases find_at (sorted_of so) hk with ⟨h1, h2, h3⟩ | ⟨h1, h2⟩
      · exact h3
      · exact absurd ⟨hlt, hkey⟩ h1
    have hrows : (es.map rowC).flatten = ((es.take k).map rowC).flatten ++ (rowC es[k] ++ ((es.drop (k + 1)).map rowC).flatten) := by
      have h1 : (es.map rowC).flatten = ((es.take k).map rowC).flatten ++ ((es.drop k).map rowC).flatten := by
        rw [← List.flatten_append, ← List.map_append, List.take_append_drop]
      rw [h1, List.drop_eq_getElem_cons hlt, List.map_cons, List.flatten_cons]
    repeat' (first
      | apply WOps.nil | apply WC.seq | apply WC.reg | apply WC.skip | apply WC.ret | (apply WC.condT; rfl) | (apply WC.condF; rfl) | apply WC.dreg | apply WD.nil | (apply WOps.ldG; rfl; rfl; (first | exact ld0 rfl | exact ld1 rfl | exact ld2 rfl); rfl) | (apply WOps.st; rfl; rfl; (first | exact tk0 | exact tk1 | exact tk2); rfl; (first | rfl | ((repeat' (first | exact ac0 | apply ac1)) <;> (first | rfl | assumption))); rfl) | (apply WOps.alc; rfl; intro _) | (apply WOps.bx; rfl; rfl; (first | rfl | ((repeat' (first | exact ac0 | apply ac1)) <;> (first | rfl | assumption))); intro _) | (apply WOps.bsl; rfl; (first | rfl | ((repeat' (first | exact ac0 | apply ac1)) <;> (first | rfl | assumption))); intro _) | (apply WD.st; rfl; rfl; rfl; (first | exact tk0 | exact tk1 | exact tk2); rfl; (first | rfl | ((repeat' (first | exact ac0 | apply ac1)) <;> (first | rfl | assumption))); rfl) | (apply WD.alc; rfl; rfl; intro _) | (apply WD.bsl; rfl; rfl; (first | rfl | ((repeat' (first | exact ac0 | apply ac1)) <;> (first | rfl | assumption))); intro _) | (apply WOps.ixSl; rfl; rfl; rfl; exact hsl (H := [_, _, _, _]); exact hcm; intro ax hax) | (apply WOps.ldG; rfl; rfl; exact Ld.part hax 7 1 (by decide); rfl) | (apply WD.load; rfl; (apply at2; exact rd_ld rfl (Ld.own (Tk.tail (Tk.tail (Tk.tail Tk.head))) rfl) rfl; exact same0)) | (apply WD.ixO; rfl; rfl; rfl; omega) | (apply WOps.cmp; rfl; rfl; rfl; rfl; intro _ _) | (apply WOps.cmpT; rfl; rfl; rfl; rfl; intro _ _) | (apply WOps.purG; rfl; (intro _; rfl)) | (apply WOps.skp; rfl) | (apply WD.load; rfl; (first | (apply at1; (first | exact rd0 rfl rfl rfl | exact rd1 rfl rfl rfl | exact rd2 rfl rfl rfl); rfl) | (apply at2; (first | exact rd0 rfl rfl rfl | exact rd1 rfl rfl rfl | exact rd2 rfl rfl rfl); repeat' (first | exact same0 | (apply same1; (first | exact rd0 rfl rfl rfl | exact rd1 rfl rfl rfl | exact rd2 rfl rfl rfl); rfl) | (apply same2; (first | exact rd0 rfl rfl rfl | exact rd1 rfl rfl rfl | exact rd2 rfl rfl rfl)))))) | (apply WD.cmp; rfl; rfl; rfl; rfl; intro _ _) | (apply WD.cmpT; rfl; rfl; rfl; rfl; intro _ _) | (apply WD.pur; rfl; (intro _; rfl)) | (apply WD.skp; rfl) | (apply WD.skpL; rfl) | (apply WD.skpX; rfl) | (apply WOps.ask; rfl; all_goals (intro hb; first | subst hb | fail_if_success (cases hb))) | (apply WC.condA; rfl; all_goals (intro hb; try subst hb)) | (apply WD.ask; rfl; all_goals (intro hb; first | subst hb | fail_if_success (cases hb))))
    refine WD.st rfl rfl rfl (Tk.tail (Tk.tail (Tk.tail (Tk.tail Tk.head)))) rfl rfl ((congrArg (fun x => putN x _ _) hrows).trans (put_row (es := es) (e := { e with mke := es[k].mke }) (by rw [List.length_take]; omega) rfl rfl)) ?_
    repeat' (first
      | apply WOps.nil | apply WC.seq | apply WC.reg | apply WC.skip | apply WC.ret | (apply WC.condT; rfl) | (apply WC.condF; rfl) | apply WC.dreg | apply WD.nil | (apply WOps.ldG; rfl; rfl; (first | exact ld0 rfl | exact ld1 rfl | exact ld2 rfl); rfl) | (apply WOps.st; rfl; rfl; (first | exact tk0 | exact tk1 | exact tk2); rfl; (first | rfl | ((repeat' (first | exact ac0 | apply ac1)) <;> (first | rfl | assumption))); rfl) | (apply WOps.alc; rfl; intro _) | (apply WOps.bx; rfl; rfl; (first | rfl | ((repeat' (first | exact ac0 | apply ac1)) <;> (first | rfl | assumption))); intro _) | (apply WOps.bsl; rfl; (first | rfl | ((repeat' (first | exact ac0 | apply ac1)) <;> (first | rfl | assumption))); intro _) | (apply WD.st; rfl; rfl; rfl; (first | exact tk0 | exact tk1 | exact tk2); rfl; (first | rfl | ((repeat' (first | exact ac0 | apply ac1)) <;> (first | rfl | assumption))); rfl) | (apply WD.alc; rfl; rfl; intro _) | (apply WD.bsl; rfl; rfl; (first | rfl | ((repeat' (first | exact ac0 | apply ac1)) <;> (first | rfl | assumption))); intro _) | (apply WOps.clA; rfl; rfl; exact raise63_tk hm (Tk.tail (Tk.tail (Tk.tail (Tk.tail Tk.head)))); rintro _ _ rfl) | (apply WOps.st; rfl; rfl; exact (Tk.tail (Tk.tail (Tk.tail Tk.head))); rfl; rfl; rfl) | (apply WOps.cmp; rfl; rfl; rfl; rfl; intro _ _) | (apply WOps.cmpT; rfl; rfl; rfl; rfl; intro _ _) | (apply WOps.purG; rfl; (intro _; rfl)) | (apply WOps.skp; rfl) | (apply WD.load; rfl; (first | (apply at1; (first | exact rd0 rfl rfl rfl | exact rd1 rfl rfl rfl | exact rd2 rfl rfl rfl); rfl) | (apply at2; (first | exact rd0 rfl rfl rfl | exact rd1 rfl rfl rfl | exact rd2 rfl rfl rfl); repeat' (first | exact same0 | (apply same1; (first | exact rd0 rfl rfl rfl | exact rd1 rfl rfl rfl | exact rd2 rfl rfl rfl); rfl) | (apply same2; (first | exact rd0 rfl rfl rfl | exact rd1 rfl rfl rfl | exact rd2 rfl rfl rfl)))))) | (apply WD.cmp; rfl; rfl; rfl; rfl; intro _ _) | (apply WD.cmpT; rfl; rfl; rfl; rfl; intro _ _) | (apply WD.pur; rfl; (intro _; rfl)) | (apply WD.skp; rfl) | (apply WD.skpL; rfl) | (apply WD.skpX; rfl) | (apply WOps.ask; rfl; all_goals (intro hb; first | subst hb | fail_if_success (cases hb))) | (apply WC.condA; rfl; all_goals (intro hb; try subst hb)) | (apply WD.ask; rfl; all_goals (intro hb; first | subst hb | fail_if_success (cases hb))))
    refine ⟨trivial, [_, _], ⟨_, _, rfl, ⟨_, _, rfl, Ld.own Tk.head rfl, rfl⟩, _, _, rfl, rfl, rfl⟩, _, .inr ⟨fun h => (by rw [hf] at h; cases h.1), { e with mke := es[k].mke }, _, [(id2, _)], rfl, .inr ⟨id2, rfl, rfl, rows_len _⟩, rfl⟩, ?_⟩
    have hln : (putE es e).length = es.length := by
      rw [hput, List.length_append, List.length_cons, List.length_take, List.length_drop]; omega
    rw [hln, hput]
    exact subF (by intro f; simp only [AV.cells, List.append_eq, List.map_cons, List.map_nil, List.sum_nil, List.map_append, List.sum_cons, List.sum_append, List.cons_append, List.nil_append, List.append_assoc, List.append_nil]; omega)
/-- A table stands in the heap, beside R. -/
def TbAt (H : HL) (a most : Nat) (es : List E) (last : Int) (R : HL) : Prop := ∃ v hs, OwnSl v (es.map rowC).flatten es.length 9 hs ∧ H.Perm ((a, .row (tblC most v last)) :: (hs ++ R))
theorem TbAt.cons {H R : HL} {a most : Nat} {es : List E} {last : Int} {x : Nat × AObj} (h : TbAt H a most es last R) : TbAt (x :: H) a most es last (x :: R) := by
  obtain ⟨v, hs, o, p⟩ := h
  refine ⟨v, hs, o, ?_⟩
  exact (List.Perm.cons _ p).trans ((List.Perm.swap _ _ _).trans (List.Perm.cons _ List.perm_middle.symm))
theorem TbAt.permR {H R R' : HL} {a most : Nat} {es : List E} {last : Int} (h : TbAt H a most es last R) (p : R.Perm R') : TbAt H a most es last R' := by
  obtain ⟨v, hs, o, q⟩ := h
  exact ⟨v, hs, o, q.trans (List.Perm.cons _ (List.Perm.append_left _ p))⟩
theorem TbAt.perm {H H' R : HL} {a most : Nat} {es : List E} {last : Int} (h : TbAt H a most es last R) (p : H'.Perm H) : TbAt H' a most es last R := by
  obtain ⟨v, hs, o, q⟩ := h
  exact ⟨v, hs, o, p.trans q⟩
theorem TbAt.tk {H R R' : HL} {a most : Nat} {es : List E} {last : Int} {id : Nat} {o : AObj} (h : TbAt H a most es last R) (k : Tk R id o R') : ∃ R2, Tk H id o R2 ∧ ∀ o', TbAt ((id, o') :: R2) a most es last ((id, o') :: R') := by
  obtain ⟨v, hs, ow, q⟩ := h
  refine ⟨(a, .row (tblC most v last)) :: (hs ++ R'), ?_, fun o' => ?_⟩
  · refine q.trans ?_
    refine (List.Perm.cons _ (List.Perm.append_left _ k)).trans ?_
    exact (List.Perm.cons _ List.perm_middle).trans (List.Perm.swap _ _ _)
  · refine ⟨v, hs, ow, ?_⟩
    exact (List.Perm.swap _ _ _).trans (List.Perm.cons _ List.perm_middle.symm)
theorem TbAt.ld {H R : HL} {a most : Nat} {es : List E} {last : Int} {b : AA} {n : Nat} {l : List AV} (h : TbAt H a most es last R) (k : Ld B R b n l) : Ld B H b n l := by
  obtain ⟨v, hs, ow, q⟩ := h
  exact Ld.perm q k.right.cons
theorem TbAt.sl {H R : HL} {a most : Nat} {es : List E} {last : Int} {w : AV} {n : Nat} {xs : List (List AV)} (h : TbAt H a most es last R) (k : SlIs B R w n xs) : SlIs B H w n xs := by
  obtain ⟨v, hs, ow, q⟩ := h
  exact SlIs.perm q k.right.cons
theorem TbAt.rd {H R : HL} {a most : Nat} {es : List E} {last : Int} (h : TbAt H a most es last R) :
    ∃ v, Ld B H ⟨false, a, 0⟩ 1 [.int .i64 (.ofNat most)] ∧ Ld B H ⟨false, a, 1⟩ 1 [v] ∧ Ld B H ⟨false, a, 2⟩ 1 [.int .u64 last] ∧ SrcIs B H v 9 es.length (es.map rowC).flatten ∧ SlIs B H v 9 (es.map rowC) := by
  obtain ⟨v, hs, ow, q⟩ := h
  exact ⟨v, Ld.perm q (Ld.own Tk.head rfl), Ld.perm q (Ld.own Tk.head rfl), Ld.perm q (Ld.own Tk.head rfl), SrcIs.perm q (SrcIs.left ow.src).cons, SlIs.perm q (SlIs.cons (SlIs.left (rows_sl ow)))⟩
/-- What else is there is forgotten. -/
theorem TbAt.less {H R R1 : HL} {a most : Nat} {es : List E} {last : Int} (h : TbAt H a most es last R) (p : SubP R1 R) : ∃ H3, TbAt H3 a most es last R1 ∧ SubP H3 H := by
  obtain ⟨v, hs, ow, q⟩ := h
  obtain ⟨G, pg⟩ := p
  refine ⟨(a, .row (tblC most v last)) :: (hs ++ R1), ⟨v, hs, ow, List.Perm.refl _⟩, G, ?_⟩
  refine q.trans ?_
  simp only [List.cons_append, List.append_assoc]
  exact List.Perm.cons _ (List.Perm.append_left _ pg)
theorem put114_at {H R : HL} {a most : Nat} {last : Int} {es : List E} {e : E} (hm : 1 ≤ most) (hn : es.length ≤ 1000) (so : Rise es) (hmk : e.mke = e.ix) (t : TbAt H a most es last R) :
    WF B tab (.func 114) [.ptr ⟨false, a, 0⟩, .str e.key, .agg (valC e), .int .u64 e.ix] H fun r H' =>
      ((findE es e.key = none ∧ most ≤ es.length) ∧ r = .tup [.agg (rowC e0), .int .i64 (.ofNat 5)] ∧ TbAt H' a most es last R) ∨
      (¬ (findE es e.key = none ∧ most ≤ es.length) ∧ ∃ e', r = .tup [.agg (rowC e'), .int .i64 (.ofNat 0)] ∧ TbAt H' a most (putE es e) (maxI last e.ix) R) := by
  obtain ⟨v, hs, ow, q⟩ := t
  refine WF.perm q (WF.mono (put114_ok hm ow hn so hmk) ?_)
  rintro r H' (⟨h1, h2, rfl⟩ | ⟨h1, e', v', hs', h2, o', rfl⟩)
  · exact .inl ⟨h1, h2, v, hs, ow, List.Perm.refl _⟩
  · exact .inr ⟨h1, e', h2, v', hs', o', List.Perm.refl _⟩
theorem raise63_at {H R : HL} {a most : Nat} {last ix : Int} {es : List E} (hm : 1 ≤ most) (t : TbAt H a most es last R) : WF B tab (.func 63) [.ptr ⟨false, a, 0⟩, .int .u64 ix] H fun r H' => TbAt H' a most es (maxI last ix) R := by
  obtain ⟨v, hs, ow, q⟩ := t
  refine WF.perm q (WF.mono (raise63_ok hm) ?_)
  rintro r _ rfl
  exact ⟨v, hs, ow, List.Perm.refl _⟩
def fullP (most : Nat) (es : List E) (key : List Nat) : Prop := findE es key = none ∧ most ≤ es.length
def atIx (e : E) (ix : Int) : E := { e with mke := ix, ix := ix }
theorem put62_at {H R : HL} {kp a most : Nat} {last ix : Int} {es : List E} {e : E} (hm : 1 ≤ most) (hn : es.length ≤ 1000) (so : Rise es) (hk : Ld B R ⟨false, kp, 0⟩ 1 [.ptr ⟨false, a, 0⟩]) (t : TbAt H a most es last R) :
    WF B tab (.func 62) [.ptr ⟨false, kp, 0⟩, .agg (entC e), .int .u64 ix] H fun r H' =>
      (fullP most es e.key ∧ r = .int .i64 (.ofNat 5) ∧ TbAt H' a most es last R) ∨
      (¬ fullP most es e.key ∧ r = .int .i64 (.ofNat 0) ∧ TbAt H' a most (putE es (atIx e ix)) (maxI last ix) R) := by
  refine WF.lessP ?_
  refine WF.fn g62 rfl ?_
  repeat' (first
    | apply WOps.nil | apply WC.seq | apply WC.reg | apply WC.skip | apply WC.ret | apply WC.dreg | apply WD.nil | (apply WOps.ldG; rfl; rfl; (first | exact ld0 rfl | exact ld1 rfl | exact ld2 rfl); rfl) | (apply WOps.st; rfl; rfl; (first | exact tk0 | exact tk1 | exact tk2); rfl; (first | rfl | ((repeat' (first | exact ac0 | apply ac1)) <;> (first | rfl | assumption))); rfl) | (apply WOps.alc; rfl; intro _) | (apply WOps.bx; rfl; rfl; (first | rfl | ((repeat' (first | exact ac0 | apply ac1)) <;> (first | rfl | assumption))); intro _) | (apply WD.st; rfl; rfl; rfl; (first | exact tk0 | exact tk1 | exact tk2); rfl; (first | rfl | ((repeat' (first | exact ac0 | apply ac1)) <;> (first | rfl | assumption))); rfl) | (apply WD.alc; rfl; rfl; intro _) | (apply WD.load; rfl; (apply at2; exact rd_ld0 rfl (t.ld hk).cons; exact same0)) | (apply WD.clA; rfl; rfl; exact put114_at (e := atIx e ix) hm hn so rfl t.cons; rintro _ H1 (⟨h1, rfl, t1⟩ | ⟨h1, e', rfl, t1⟩)) | (apply WOps.purG; rfl; (intro _; rfl)) | (apply WD.load; rfl; (first | (apply at1; (first | exact rd0 rfl rfl rfl | exact rd1 rfl rfl rfl | exact rd2 rfl rfl rfl); rfl) | (apply at2; (first | exact rd0 rfl rfl rfl | exact rd1 rfl rfl rfl | exact rd2 rfl rfl rfl); repeat' (first | exact same0 | (apply same1; (first | exact rd0 rfl rfl rfl | exact rd1 rfl rfl rfl | exact rd2 rfl rfl rfl); rfl) | (apply same2; (first | exact rd0 rfl rfl rfl | exact rd1 rfl rfl rfl | exact rd2 rfl rfl rfl)))))) | (apply WD.pur; rfl; (intro _; rfl)))
  · obtain ⟨H3, h3, s3⟩ := t1.cons.less (R1 := R) (subF (by intro f; simp only [AV.cells, List.append_eq, List.map_cons, List.map_nil, List.sum_nil, List.map_append, List.sum_cons, List.sum_append, List.cons_append, List.nil_append, List.append_assoc, List.append_nil]; omega))
    exact ⟨trivial, [_], ⟨_, [], rfl, rfl, rfl⟩, H3, .inl ⟨h1, rfl, h3⟩, s3⟩
  · obtain ⟨H3, h3, s3⟩ := t1.cons.less (R1 := R) (subF (by intro f; simp only [AV.cells, List.append_eq, List.map_cons, List.map_nil, List.sum_nil, List.map_append, List.sum_cons, List.sum_append, List.cons_append, List.nil_append, List.append_assoc, List.append_nil]; omega))
    exact ⟨trivial, [_], ⟨_, [], rfl, rfl, rfl⟩, H3, .inr ⟨h1, rfl, h3⟩, s3⟩
theorem find_least {es : List E} {key : List Nat} {k : Nat} {r : AV} (so : Rise es) (hk : isLeast (notBelow es key) es.length k)
    (h : (∃ h : k < es.length, es[k].key = key ∧ r = .tup [.agg (entC es[k]), .bool true]) ∨ ((¬ ∃ h : k < es.length, es[k].key = key) ∧ r = .tup [.agg (entC e0), .bool false])) :
    (∃ x, findE es key = some x ∧ r = .tup [.agg (entC x), .bool true]) ∨ (findE es key = none ∧ r = .tup [.agg (entC e0), .bool false]) := by
  rcases find_at (sorted_of so) hk with ⟨h1, h2, h3⟩ | ⟨h1, h2⟩
  · rcases h with ⟨_, _, h⟩ | ⟨h, _⟩
    · exact .inl ⟨_, h3, h⟩
    · exact absurd ⟨h1, h2⟩ h
  · rcases h with ⟨h3, h4, _⟩ | ⟨_, h⟩
    · exact absurd ⟨h3, h4⟩ h1
    · exact .inr ⟨h2, h⟩
theorem get28_at {H R : HL} {kp a most : Nat} {last : Int} {es : List E} {key : List Nat} (hm : 1 ≤ most) (hn : es.length ≤ 1000) (so : Rise es) (hk : Ld B R ⟨false, kp, 0⟩ 1 [.ptr ⟨false, a, 0⟩]) (t : TbAt H a most es last R) :
    WF B tab (.func 28) [.ptr ⟨false, kp, 0⟩, .str key] H fun r H' => H' = H ∧
      ((∃ x, findE es key = some x ∧ r = .tup [.agg (entC x), .bool true]) ∨ (findE es key = none ∧ r = .tup [.agg (entC e0), .bool false])) := by
  obtain ⟨v, h0, h1, h2, h3, h4⟩ := t.rd (B := B)
  refine WF.mono (get28_ok (t.ld hk) h0 hm h1 h4 (by omega) (sorted_of so)) ?_
  rintro r _ ⟨rfl, k, h5, h6⟩
  exact ⟨rfl, find_least so h5 h6⟩
theorem list23_at {H R : HL} {kp a most : Nat} {last : Int} {es : List E} {pre : List Nat} (hm : 1 ≤ most) (hn : es.length ≤ 1000) (hp : pre.length ≤ 9223372036854775807) (hk : Ld B R ⟨false, kp, 0⟩ 1 [.ptr ⟨false, a, 0⟩]) (t : TbAt H a most es last R) :
    WF B tab (.func 23) [.ptr ⟨false, kp, 0⟩, .str pre] H fun r H' => ∃ h', OwnSl r ((under pre es).map entC).flatten (under pre es).length 6 h' ∧ H' = h' ++ H := by
  obtain ⟨v, h0, h1, h2, h3, h4⟩ := t.rd (B := B)
  exact list23_ok (t.ld hk) h0 hm h1 h3 hn hp
theorem last24_at {H R : HL} {kp a most : Nat} {last : Int} {es : List E} (hm : 1 ≤ most) (hk : Ld B R ⟨false, kp, 0⟩ 1 [.ptr ⟨false, a, 0⟩]) (t : TbAt H a most es last R) :
    WF B tab (.func 24) [.ptr ⟨false, kp, 0⟩] H fun r H' => H' = H ∧ r = .int .u64 last := by
  obtain ⟨v, h0, h1, h2, h3, h4⟩ := t.rd (B := B)
  exact last24_ok (t.ld hk) h0 hm h2

def beh (l : List E) : Nat → List Nat
  | 0 => []
  | j + 1 => match l[j]? with
    | some e => e.key
    | none => []
theorem beh_succ {l : List E} {i : Nat} (h : i < l.length) : beh l (i + 1) = l[i].key := by simp only [beh, List.getElem?_eq_getElem h]
def fitsTo (l : List E) (last : Int) (i : Nat) : Prop := ∀ j (h : j < l.length), j < i → fitsP l[j] (beh l j) last
theorem fits_rise {l : List E} {last : Int} {i : Nat} (h : fitsTo l last i) : Rise (l.take i) := by
  refine rise_of fun a b ha hb hab => ?_
  simp only [List.getElem_take]
  rw [List.length_take] at ha hb
  have key : ∀ (n b : Nat) (hb : b < l.length), b < i → ∀ (ha : a < l.length), b = a + 1 + n → strLess l[a].key l[b].key = true := by
    intro n
    induction n with
    | zero =>
      intro b hb hbi ha e
      have h1 := (h b hb hbi).2.1
      obtain rfl : b = a + 1 := by omega
      rw [beh_succ ha] at h1
      exact h1
    | succ n ih =>
      intro b hb hbi ha e
      have h1 := (h b hb hbi).2.1
      obtain ⟨c, rfl⟩ : ∃ c, b = c + 1 := ⟨b - 1, by omega⟩
      rw [beh_succ (by omega)] at h1
      exact less_trans (ih c (by omega) (by omega) ha (by omega)) h1
  exact key (b - a - 1) b (by omega) (by omega) (by omega) (by omega)
theorem fits_below {l : List E} {last : Int} {i : Nat} (hi : i < l.length) (h : fitsTo l last (i + 1)) : AllBelow (l.take i) l[i].key := by
  have so := sorted_of (fits_rise h)
  intro x hx
  obtain ⟨j, hj, rfl⟩ := List.getElem_of_mem hx
  rw [List.length_take] at hj
  have := so j i (by rw [List.length_take]; omega) (by rw [List.length_take]; omega) (by omega)
  simpa only [List.getElem_take] using this
def mayP (most : Nat) (l : List E) (last : Int) : Prop := l.length ≤ most ∧ fitsTo l last l.length
/-- The two puts of one entry. -/
theorem put_two {A : List E} {e : E} (h : AllBelow A e.key) : putE A (atIx e e.mke) = A ++ [atIx e e.mke] ∧ putE (A ++ [atIx e e.mke]) (atIx e e.ix) = A ++ [e] ∧ findE A e.key = none ∧ findE (A ++ [atIx e e.mke]) e.key = some (atIx e e.mke) ∧ findE (A ++ [e]) e.key = some e := by
  refine ⟨?_, ?_, ?_, ?_, ?_⟩
  · have := put_below (Bs := []) (e := atIx e e.mke) h
    simpa [putE] using this
  · have := put_below (Bs := [atIx e e.mke]) (e := atIx e e.ix) h
    rw [this, put_hit (x := atIx e e.mke) (e := atIx e e.ix) rfl]
    rfl
  · have := find_below (Bs := []) h
    simpa [findE] using this
  · rw [find_below h]; exact find_hit rfl
  · rw [find_below h]; exact find_hit rfl
theorem entC_T (e : E) : AllT [.str, .str, .int .u64, .int .u64, .int .u64, .int .u64] (entC e) :=
  ⟨_, _, rfl, ⟨_, rfl⟩, _, _, rfl, ⟨_, rfl⟩, _, _, rfl, ⟨_, rfl⟩, _, _, rfl, ⟨_, rfl⟩, _, _, rfl, ⟨_, rfl⟩, _, _, rfl, ⟨_, rfl⟩, rfl⟩
theorem load19_ok {H0 : HL} {most last : Int} {w : AV} {l : List E} (hw : SlIs B H0 w 6 (l.map entC)) (hl : 0 ≤ last) (hlen : l.length ≤ 9223372036854775807) :
    WF B tab (.func 19) [.int .i64 most, w, .int .u64 last] H0 fun r H' =>
      (mayP (mostOf most) l last ∧ ∃ kp a, r = .tup [.ptr ⟨false, kp, 0⟩, .int .i64 (.ofNat 0)] ∧ TbAt H' a (mostOf most) l last ((kp, .row [.ptr ⟨false, a, 0⟩]) :: H0)) ∨
      (¬ mayP (mostOf most) l last ∧ r = .tup [.nilp, .int .i64 (.ofNat 2)] ∧ H' = H0) := by
  refine WF.lessP ?_
  refine WF.fn g19 rfl ?_
  have hm := mostOf_ge most
  have hm2 := mostOf_le most
  repeat' (first
    | apply WOps.nil | apply WC.seq | apply WC.reg | apply WC.skip | apply WC.ret | apply WC.exit | (apply WC.condT; rfl) | (apply WC.condF; rfl) | apply WC.block | (apply WOps.ldG; rfl; rfl; (first | exact ld0 rfl | exact ld1 rfl | exact ld2 rfl); rfl) | (apply WOps.st; rfl; rfl; (first | exact tk0 | exact tk1 | exact tk2); rfl; (first | rfl | ((repeat' (first | exact ac0 | apply ac1)) <;> (first | rfl | assumption))); rfl) | (apply WOps.alc; rfl; intro _) | (apply WOps.clA; rfl; rfl; exact new25_ok _; rintro _ _ ⟨kp, a, rfl, rfl⟩) | (apply WOps.lenS; rfl; rfl; exact hw.cons.cons) | (apply WOps.neqF; rfl; rfl; rfl; decide) | (apply WOps.neqT; rfl; rfl; rfl; decide) | (apply WOps.eqlF; rfl; rfl; rfl; decide) | (apply WOps.eqlT; rfl; rfl; rfl; decide) | (apply WOps.cmp; rfl; rfl; rfl; rfl; intro _ _) | (apply WOps.cmpT; rfl; rfl; rfl; rfl; intro _ _) | (apply WOps.eqB; rfl; rfl; rfl; intro _ _) | (apply WOps.purG; rfl; (intro _; rfl)) | (apply WOps.skp; rfl) | (apply WOps.ask; rfl; all_goals (intro hb; first | subst hb | fail_if_success (cases hb))) | (apply WC.condA; rfl; all_goals (intro hb; try subst hb)))
  generalize mostOf most = M at *
  rw [List.length_map]
  refine WC.loop ?_
  obtain ⟨i, hi⟩ : ∃ i : Nat, i = 0 := ⟨0, rfl⟩
  obtain ⟨la, hla⟩ : ∃ i : Int, i = 0 := ⟨0, rfl⟩
  obtain ⟨H, hH⟩ : ∃ h : HL, h = (kp, .row [.ptr ⟨false, a, 0⟩]) :: (a, .row [.int .i64 (.ofNat M), .nilsl, .int .u64 (.ofNat 0)]) :: H0 := ⟨_, rfl⟩
  refine WL.le (t' := [(2, .int .u64 last), (8, .ptr ⟨false, kp, 0⟩), (9, .str (beh l i)), (16, w), (17, .int .i64 (.ofNat l.length)), (18, .int .i64 (.ofNat i))]) (by subst hi; exact Sub1.cons rfl (Sub1.cons rfl (Sub1.cons rfl (Sub1.cons rfl (Sub1.cons rfl (Sub1.cons rfl Sub1.nil)))))) ?_
  refine WL.heq (H' := H) hH.symm ?_
  have t0 : TbAt H a M (l.take i) la ((kp, .row [.ptr ⟨false, a, 0⟩]) :: H0) := by
    subst hi hla hH
    exact ⟨.nilsl, [], .inl ⟨rfl, rfl, rfl, rfl⟩, List.Perm.swap _ _ _⟩
  have hfit : fitsTo l last i := by intro j _ hj; omega
  have hla2 : la ≤ last := by omega
  have hile : i ≤ l.length := by omega
  have hiM : i ≤ M := by omega
  clear hi hla hH
  induction hk : l.length - i using Nat.strongRecOn generalizing i la H with | _ k ih => ?_
  have hkA : Ld B ((kp, .row [.ptr ⟨false, a, 0⟩]) :: H0) ⟨false, kp, 0⟩ 1 [.ptr ⟨false, a, 0⟩] := Ld.own Tk.head rfl
  have hwH : SlIs B H w 6 (l.map entC) := t0.sl hw.cons
  apply WL.step
  repeat' (first
    | apply WOps.nil | apply WC.seq | apply WC.reg | apply WC.skip | apply WC.ret | apply WC.exit | (apply WC.condT; rfl) | (apply WC.condF; rfl) | apply WC.block | (apply WOps.ldG; rfl; rfl; (first | exact ld0 rfl | exact ld1 rfl | exact ld2 rfl); rfl) | (apply WOps.st; rfl; rfl; (first | exact tk0 | exact tk1 | exact tk2); rfl; (first | rfl | ((repeat' (first | exact ac0 | apply ac1)) <;> (first | rfl | assumption))); rfl) | (apply WOps.alc; rfl; intro _) | (apply WOps.cmp; rfl; rfl; rfl; rfl; intro _ _) | (apply WOps.cmpT; rfl; rfl; rfl; rfl; intro _ _) | (apply WOps.eqB; rfl; rfl; rfl; intro _ _) | (apply WOps.purG; rfl; (intro _; rfl)) | (apply WOps.skp; rfl) | (apply WOps.ask; rfl; all_goals (intro hb; first | subst hb | fail_if_success (cases hb))) | (apply WC.condA; rfl; all_goals (intro hb; try subst hb)))
  · have hlt : i < l.length := by
      have h0 := ‹true = true ↔ cmpP BinOp.lss (Int.ofNat i) (Int.ofNat l.length)›
      simp [cmpP] at h0; omega
    have hcm : (l.map entC)[i]? = some (entC l[i]) := by rw [List.getElem?_map, List.getElem?_eq_getElem hlt]; rfl
    have hlen2 : (l.take i).length = i := by rw [List.length_take]; omega
    repeat' (first
      | apply WOps.nil | apply WC.seq | apply WC.reg | apply WC.skip | apply WC.ret | apply WC.exit | (apply WC.condT; rfl) | (apply WC.condF; rfl) | apply WC.block | (apply WOps.ldG; rfl; rfl; (first | exact ld0 rfl | exact ld1 rfl | exact ld2 rfl); rfl) | (apply WOps.st; rfl; rfl; (first | exact tk0 | exact tk1 | exact tk2); rfl; (first | rfl | ((repeat' (first | exact ac0 | apply ac1)) <;> (first | rfl | assumption))); rfl) | (apply WOps.alc; rfl; intro _) | (apply WOps.ixSl; rfl; rfl; rfl; exact hwH; exact hcm; intro ax hax) | (apply WOps.ldG; rfl; rfl; exact hax; rfl) | (apply WOps.clR; rfl; rfl; exact fits61_ok _ _ _; rintro _ ⟨b, rfl, hb⟩; cases b) | (apply WOps.neqF; rfl; rfl; rfl; decide) | (apply WOps.neqT; rfl; rfl; rfl; decide) | (apply WOps.eqlF; rfl; rfl; rfl; decide) | (apply WOps.eqlT; rfl; rfl; rfl; decide) | (apply WOps.cmp; rfl; rfl; rfl; rfl; intro _ _) | (apply WOps.cmpT; rfl; rfl; rfl; rfl; intro _ _) | (apply WOps.eqB; rfl; rfl; rfl; intro _ _) | (apply WOps.purG; rfl; (intro _; rfl)) | (apply WOps.skp; rfl) | (apply WOps.ask; rfl; all_goals (intro hb; first | subst hb | fail_if_success (cases hb))) | (apply WC.condA; rfl; all_goals (intro hb; try subst hb)))
    · obtain ⟨H3, h3, s3⟩ : ∃ H3, H3 = H0 ∧ SubP H3 H := by
        obtain ⟨v, hs, o, p⟩ := t0
        exact ⟨H0, rfl, (a, .row (tblC M v la)) :: (hs ++ [(kp, .row [.ptr ⟨false, a, 0⟩])]), p.trans (permF (by intro f; simp only [AV.cells, List.append_eq, List.map_cons, List.map_nil, List.sum_nil, List.map_append, List.sum_cons, List.sum_append, List.cons_append, List.nil_append, List.append_assoc, List.append_nil]; omega))⟩
      refine ⟨trivial, [_, _], ⟨_, _, rfl, rfl, _, _, rfl, rfl, rfl⟩, H3, .inr ⟨?_, rfl, h3⟩, ?_⟩
      · rintro ⟨_, hf⟩
        exact absurd (hb.2 (hf i hlt hlt)) (by simp)
      · obtain ⟨G, pg⟩ := s3
        exact ⟨_, (List.Perm.cons _ pg).trans List.perm_middle.symm⟩
    · rename_i p11
      have hfi : fitsP l[i] (beh l i) last := hb.1 rfl
      have hfit2 : fitsTo l last (i + 1) := by
        intro j hj hji
        rcases Nat.lt_or_ge j i with h | h
        · exact hfit j hj h
        · obtain rfl : j = i := by omega
          exact hfi
      have hbel := fits_below hlt hfit2
      obtain ⟨e1, e2, e3, e4, e5⟩ := put_two hbel
      have P1 := put62_at (B := B) (e := l[i]) (ix := l[i].mke) hm (by omega) (fits_rise hfit) hkA.cons (t0.cons (x := (p11, .row (entC l[i]))))
      rw [e1] at P1
      repeat' (first
        | apply WOps.nil | apply WC.seq | apply WC.reg | apply WC.skip | apply WC.ret | apply WC.exit | (apply WC.condT; rfl) | (apply WC.condF; rfl) | apply WC.block | (apply WOps.ldG; rfl; rfl; (first | exact ld0 rfl | exact ld1 rfl | exact ld2 rfl); rfl) | (apply WOps.st; rfl; rfl; (first | exact tk0 | exact tk1 | exact tk2); rfl; (first | rfl | ((repeat' (first | exact ac0 | apply ac1)) <;> (first | rfl | assumption))); rfl) | (apply WOps.alc; rfl; intro _) | (apply WOps.clA; rfl; rfl; exact P1; rintro _ H1 (⟨hf1, rfl, t1⟩ | ⟨hf1, rfl, t1⟩)) | (apply WOps.neqF; rfl; rfl; rfl; decide) | (apply WOps.neqT; rfl; rfl; rfl; decide) | (apply WOps.eqlF; rfl; rfl; rfl; decide) | (apply WOps.eqlT; rfl; rfl; rfl; decide) | (apply WOps.cmp; rfl; rfl; rfl; rfl; intro _ _) | (apply WOps.cmpT; rfl; rfl; rfl; rfl; intro _ _) | (apply WOps.eqB; rfl; rfl; rfl; intro _ _) | (apply WOps.purG; rfl; (intro _; rfl)) | (apply WOps.skp; rfl) | (apply WOps.ask; rfl; all_goals (intro hb; first | subst hb | fail_if_success (cases hb))) | (apply WC.condA; rfl; all_goals (intro hb; try subst hb)))
      · obtain ⟨H3, h3, s3⟩ : ∃ H3, H3 = H0 ∧ SubP H3 H1 := by
          obtain ⟨v, hs, o, p⟩ := t1
          exact ⟨H0, rfl, (a, .row (tblC M v la)) :: (hs ++ [(p11, .row (entC l[i])), (kp, .row [.ptr ⟨false, a, 0⟩])]), p.trans (permF (by intro f; simp only [AV.cells, List.append_eq, List.map_cons, List.map_nil, List.sum_nil, List.map_append, List.sum_cons, List.sum_append, List.cons_append, List.nil_append, List.append_assoc, List.append_nil]; omega))⟩
        refine ⟨trivial, [_, _], ⟨_, _, rfl, rfl, _, _, rfl, rfl, rfl⟩, H3, .inr ⟨?_, rfl, h3⟩, s3⟩
        rintro ⟨hlm, hf⟩
        have := hf1.2
        omega
      · have hiM1 : i + 1 ≤ M := by
          rcases Nat.lt_or_ge i M with h | h
          · exact h
          · exact absurd ⟨e3, by omega⟩ hf1
        have hr2 : Rise (l.take i ++ [atIx l[i] l[i].mke]) := by rw [← e1]; exact rise_put (fits_rise hfit)
        have P2 := put62_at (B := B) (e := l[i]) (ix := l[i].ix) hm (by rw [List.length_append, hlen2, List.length_singleton]; omega) hr2 hkA.cons t1
        rw [e2] at P2
        have htk : l.take i ++ [l[i]] = l.take (i + 1) := (List.take_succ_eq_append_getElem hlt).symm
        rw [htk] at P2 e5
        repeat' (first
          | apply WOps.nil | apply WC.seq | apply WC.reg | apply WC.skip | apply WC.ret | apply WC.exit | (apply WC.condT; rfl) | (apply WC.condF; rfl) | apply WC.block | (apply WOps.ldG; rfl; rfl; (first | exact ld0 rfl | exact ld1 rfl | exact ld2 rfl); rfl) | (apply WOps.st; rfl; rfl; (first | exact tk0 | exact tk1 | exact tk2); rfl; (first | rfl | ((repeat' (first | exact ac0 | apply ac1)) <;> (first | rfl | assumption))); rfl) | (apply WOps.alc; rfl; intro _) | (apply WOps.ldG; rfl; rfl; exact t1.ld (Ld.own Tk.head rfl); rfl) | (apply WOps.clA; rfl; rfl; exact P2; rintro _ H2 (⟨hf2, rfl, t2⟩ | ⟨hf2, rfl, t2⟩)) | (apply WOps.ldG; rfl; rfl; exact t2.ld (Ld.own Tk.head rfl); rfl) | (apply WOps.clR; rfl; rfl; exact get28_at hm (by rw [List.length_take]; omega) (fits_rise hfit2) hkA.cons t2; rintro _ (⟨x, hx, rfl⟩ | ⟨hx, rfl⟩)) | (apply WOps.ldG; rfl; rfl; exact (t2.ld (Ld.own Tk.head rfl)).cons; rfl) | (apply WOps.neqF; rfl; rfl; rfl; decide) | (apply WOps.neqT; rfl; rfl; rfl; decide) | (apply WOps.eqlF; rfl; rfl; rfl; decide) | (apply WOps.eqlT; rfl; rfl; rfl; decide) | (apply WOps.cmp; rfl; rfl; rfl; rfl; intro _ _) | (apply WOps.cmpT; rfl; rfl; rfl; rfl; intro _ _) | (apply WOps.eqB; rfl; rfl; rfl; intro _ _) | (apply WOps.purG; rfl; (intro _; rfl)) | (apply WOps.skp; rfl) | (apply WOps.ask; rfl; all_goals (intro hb; first | subst hb | fail_if_success (cases hb))) | (apply WC.condA; rfl; all_goals (intro hb; try subst hb)))
        · exact absurd hf2.1 (by rw [e4]; simp)
        · rw [e5] at hx
          cases hx
          refine WOps.eqF [.str, .str, .int .u64, .int .u64, .int .u64, .int .u64] (c := entC l[i]) (d := entC l[i]) rfl rfl rfl rfl rfl (entC_T _) (entC_T _) ?_
          intro b hb
          have : b = false := by
            rw [Bool.eq_false_iff]
            intro h
            exact hb.1 h rfl
          subst this
          repeat' (first
            | apply WOps.nil | apply WC.seq | apply WC.reg | apply WC.skip | apply WC.ret | apply WC.exit | (apply WC.condT; rfl) | (apply WC.condF; rfl) | apply WC.block | (apply WOps.ldG; rfl; rfl; (first | exact ld0 rfl | exact ld1 rfl | exact ld2 rfl); rfl) | (apply WOps.st; rfl; rfl; (first | exact tk0 | exact tk1 | exact tk2); rfl; (first | rfl | ((repeat' (first | exact ac0 | apply ac1)) <;> (first | rfl | assumption))); rfl) | (apply WOps.alc; rfl; intro _) | (apply WOps.addN; rfl; rfl; rfl; omega) | (apply WOps.neqF; rfl; rfl; rfl; decide) | (apply WOps.neqT; rfl; rfl; rfl; decide) | (apply WOps.eqlF; rfl; rfl; rfl; decide) | (apply WOps.eqlT; rfl; rfl; rfl; decide) | (apply WOps.cmp; rfl; rfl; rfl; rfl; intro _ _) | (apply WOps.cmpT; rfl; rfl; rfl; rfl; intro _ _) | (apply WOps.eqB; rfl; rfl; rfl; intro _ _) | (apply WOps.purG; rfl; (intro _; rfl)) | (apply WOps.skp; rfl) | (apply WOps.ask; rfl; all_goals (intro hb; first | subst hb | fail_if_success (cases hb))) | (apply WC.condA; rfl; all_goals (intro hb; try subst hb)))
          refine WL.le (t' := [(2, .int .u64 last), (8, .ptr ⟨false, kp, 0⟩), (9, .str (beh l (i + 1))), (16, w), (17, .int .i64 (.ofNat l.length)), (18, .int .i64 (.ofNat (i + 1)))]) (by rw [beh_succ hlt]; exact Sub1.cons rfl (Sub1.cons rfl (Sub1.cons rfl (Sub1.cons rfl (Sub1.cons rfl (Sub1.cons rfl Sub1.nil)))))) ?_
          obtain ⟨H3, t3, s3⟩ := t2.less (R1 := (kp, .row [.ptr ⟨false, a, 0⟩]) :: H0) (subF (by intro f; simp only [AV.cells, List.append_eq, List.map_cons, List.map_nil, List.sum_nil, List.map_append, List.sum_cons, List.sum_append, List.cons_append, List.nil_append, List.append_assoc, List.append_nil]; omega))
          refine WL.lessP (H1 := H3) ?_ ?_
          · obtain ⟨G, pg⟩ := s3
            exact ⟨_, (List.Perm.cons _ pg).trans List.perm_middle.symm⟩
          · refine ih _ (by omega) (i + 1) _ H3 t3 hfit2 ?_ (by omega) (by omega) rfl
            have h1 := hfi.2.2.2
            unfold maxI
            split <;> split <;> omega
        · rw [e5] at hx; cases hx
  · have hge : ¬ i < l.length := by
      have h0 := ‹false = true ↔ cmpP BinOp.lss (Int.ofNat i) (Int.ofNat l.length)›
      simp [cmpP] at h0; omega
    obtain rfl : i = l.length := by omega
    rw [List.take_length] at t0
    repeat' (first
      | apply WOps.nil | apply WC.seq | apply WC.reg | apply WC.skip | apply WC.ret | apply WC.exit | (apply WC.condT; rfl) | (apply WC.condF; rfl) | apply WC.block | (apply WOps.ldG; rfl; rfl; (first | exact ld0 rfl | exact ld1 rfl | exact ld2 rfl); rfl) | (apply WOps.st; rfl; rfl; (first | exact tk0 | exact tk1 | exact tk2); rfl; (first | rfl | ((repeat' (first | exact ac0 | apply ac1)) <;> (first | rfl | assumption))); rfl) | (apply WOps.alc; rfl; intro _) | (apply WOps.ldG; rfl; rfl; exact t0.ld hkA; rfl) | (apply WOps.clA; rfl; rfl; exact raise63_at hm t0; intro _ H1 t1) | (apply WOps.neqF; rfl; rfl; rfl; decide) | (apply WOps.neqT; rfl; rfl; rfl; decide) | (apply WOps.eqlF; rfl; rfl; rfl; decide) | (apply WOps.eqlT; rfl; rfl; rfl; decide) | (apply WOps.cmp; rfl; rfl; rfl; rfl; intro _ _) | (apply WOps.cmpT; rfl; rfl; rfl; rfl; intro _ _) | (apply WOps.eqB; rfl; rfl; rfl; intro _ _) | (apply WOps.purG; rfl; (intro _; rfl)) | (apply WOps.skp; rfl) | (apply WOps.ask; rfl; all_goals (intro hb; first | subst hb | fail_if_success (cases hb))) | (apply WC.condA; rfl; all_goals (intro hb; try subst hb)))
    refine ⟨trivial, [_, _], ⟨_, _, rfl, rfl, _, _, rfl, rfl, rfl⟩, _, .inl ⟨⟨hiM, hfit⟩, kp, a, rfl, ?_⟩, SubP.refl⟩
    have : maxI la last = last := by unfold maxI; split <;> omega
    rw [this] at t1
    exact t1
theorem beh_pos {l : List E} {i : Nat} (h : 0 < i ∧ i ≤ l.length) : beh l i = (l[i - 1]'(by omega)).key := by
  obtain ⟨j, rfl⟩ : ∃ j, i = j + 1 := ⟨i - 1, by omega⟩
  rw [beh_succ (by omega)]
  rfl
theorem less_nil {s : List Nat} {l : List E} (h : keyP s) : strLess (beh l 0) s = true := by
  have := h.1
  cases s with
  | nil => simp at this
  | cons x s => rfl
set_option maxHeartbeats 2000000 in
theorem may20_ok {H0 : HL} {most last : Int} {w : AV} {l : List E} (hw : SlIs B H0 w 6 (l.map entC)) (hlen : l.length ≤ 9223372036854775807) :
    WF B tab (.func 20) [.int .i64 most, w, .int .u64 last] H0 fun r H' => H' = H0 ∧ ∃ b : Bool, r = .bool b ∧ (b = true ↔ mayP (mostOf most) l last) := by
  refine WF.fnR g20 rfl ?_
  have hm := mostOf_ge most
  have hm2 := mostOf_le most
  repeat' (first
    | apply WOps.nil | apply WC.seq | apply WC.reg | apply WC.skip | apply WC.ret | apply WC.exit | (apply WC.condT; rfl) | (apply WC.condF; rfl) | apply WC.block | apply WC.dreg | apply WD.nil | (apply WOps.ldG; rfl; rfl; (first | exact ld0 rfl | exact ld1 rfl | exact ld2 rfl); rfl) | (apply WOps.st; rfl; rfl; (first | exact tk0 | exact tk1 | exact tk2); rfl; (first | rfl | ((repeat' (first | exact ac0 | apply ac1)) <;> (first | rfl | assumption))); rfl) | (apply WOps.alc; rfl; intro _) | (apply WD.st; rfl; rfl; rfl; (first | exact tk0 | exact tk1 | exact tk2); rfl; (first | rfl | ((repeat' (first | exact ac0 | apply ac1)) <;> (first | rfl | assumption))); rfl) | (apply WD.alc; rfl; rfl; intro _) | (apply WOps.clA; rfl; rfl; exact new26_ok _; rintro _ _ ⟨a, rfl, rfl⟩) | (apply WOps.lenS; rfl; rfl; exact hw) | (apply WOps.neqF; rfl; rfl; rfl; decide) | (apply WOps.neqT; rfl; rfl; rfl; decide) | (apply WOps.eqlF; rfl; rfl; rfl; decide) | (apply WOps.eqlT; rfl; rfl; rfl; decide) | (apply WD.neqF; rfl; rfl; rfl; decide) | (apply WD.neqT; rfl; rfl; rfl; decide) | (apply WD.eqlF; rfl; rfl; rfl; decide) | (apply WD.eqlT; rfl; rfl; rfl; decide) | (apply WOps.cmp; rfl; rfl; rfl; rfl; intro _ _) | (apply WOps.cmpT; rfl; rfl; rfl; rfl; intro _ _) | (apply WOps.purG; rfl; (intro _; rfl)) | (apply WOps.skp; rfl) | (apply WD.load; rfl; (first | (apply at1; (first | exact rd0 rfl rfl rfl | exact rd1 rfl rfl rfl | exact rd2 rfl rfl rfl); rfl) | (apply at2; (first | exact rd0 rfl rfl rfl | exact rd1 rfl rfl rfl | exact rd2 rfl rfl rfl); repeat' (first | exact same0 | (apply same1; (first | exact rd0 rfl rfl rfl | exact rd1 rfl rfl rfl | exact rd2 rfl rfl rfl); rfl) | (apply same2; (first | exact rd0 rfl rfl rfl | exact rd1 rfl rfl rfl | exact rd2 rfl rfl rfl)))))) | (apply WD.cmp; rfl; rfl; rfl; rfl; intro _ _) | (apply WD.cmpT; rfl; rfl; rfl; rfl; intro _ _) | (apply WD.pur; rfl; (intro _; rfl)) | (apply WD.skp; rfl) | (apply WD.skpL; rfl) | (apply WD.skpX; rfl) | (apply WOps.ask; rfl; all_goals (intro hb; first | subst hb | fail_if_success (cases hb))) | (apply WC.condA; rfl; all_goals (intro hb; try subst hb)) | (apply WD.ask; rfl; all_goals (intro hb; first | subst hb | fail_if_success (cases hb))))
  · refine ⟨trivial, List.sublist_cons_self _ _, [_], ⟨_, [], rfl, rfl, rfl⟩, _, rfl, ?_⟩
    have h0 := ‹true = true ↔ cmpP BinOp.gtr (Int.ofNat (List.map entC l).length) (Int.ofNat (mostOf most))›
    rw [List.length_map] at h0
    simp only [cmpP, true_iff, Int.ofNat_eq_natCast] at h0
    simp only [Bool.false_eq_true, false_iff]
    rintro ⟨h1, _⟩
    omega
  rename_i hle
  rw [List.length_map] at hle
  simp only [cmpP, Bool.false_eq_true, false_iff, Int.ofNat_eq_natCast] at hle
  refine WC.loop ?_
  obtain ⟨i, hi⟩ : ∃ i : Nat, i = 0 := ⟨0, rfl⟩
  refine WL.le (t' := [(1, w), (2, .int .u64 last), (7, .int .i64 (.ofNat i))]) (by subst hi; exact Sub1.cons rfl (Sub1.cons rfl (Sub1.cons rfl Sub1.nil))) ?_
  refine WL.sub (List.sublist_cons_self _ _) ?_
  have hfit : fitsTo l last i := by intro j _ hj; omega
  have hile : i ≤ l.length := by omega
  clear hi
  induction hk : l.length - i using Nat.strongRecOn generalizing i with | _ k ih => ?_
  apply WL.step
  repeat' (first
    | apply WOps.nil | apply WC.seq | apply WC.reg | apply WC.skip | apply WC.ret | apply WC.exit | (apply WC.condT; rfl) | (apply WC.condF; rfl) | apply WC.block | apply WC.dreg | apply WD.nil | (apply WOps.ldG; rfl; rfl; (first | exact ld0 rfl | exact ld1 rfl | exact ld2 rfl); rfl) | (apply WOps.st; rfl; rfl; (first | exact tk0 | exact tk1 | exact tk2); rfl; (first | rfl | ((repeat' (first | exact ac0 | apply ac1)) <;> (first | rfl | assumption))); rfl) | (apply WOps.alc; rfl; intro _) | (apply WD.st; rfl; rfl; rfl; (first | exact tk0 | exact tk1 | exact tk2); rfl; (first | rfl | ((repeat' (first | exact ac0 | apply ac1)) <;> (first | rfl | assumption))); rfl) | (apply WD.alc; rfl; rfl; intro _) | (apply WOps.lenS; rfl; rfl; exact hw) | (apply WOps.neqF; rfl; rfl; rfl; decide) | (apply WOps.neqT; rfl; rfl; rfl; decide) | (apply WOps.eqlF; rfl; rfl; rfl; decide) | (apply WOps.eqlT; rfl; rfl; rfl; decide) | (apply WD.neqF; rfl; rfl; rfl; decide) | (apply WD.neqT; rfl; rfl; rfl; decide) | (apply WD.eqlF; rfl; rfl; rfl; decide) | (apply WD.eqlT; rfl; rfl; rfl; decide) | (apply WOps.cmp; rfl; rfl; rfl; rfl; intro _ _) | (apply WOps.cmpT; rfl; rfl; rfl; rfl; intro _ _) | (apply WOps.purG; rfl; (intro _; rfl)) | (apply WOps.skp; rfl) | (apply WD.load; rfl; (first | (apply at1; (first | exact rd0 rfl rfl rfl | exact rd1 rfl rfl rfl | exact rd2 rfl rfl rfl); rfl) | (apply at2; (first | exact rd0 rfl rfl rfl | exact rd1 rfl rfl rfl | exact rd2 rfl rfl rfl); repeat' (first | exact same0 | (apply same1; (first | exact rd0 rfl rfl rfl | exact rd1 rfl rfl rfl | exact rd2 rfl rfl rfl); rfl) | (apply same2; (first | exact rd0 rfl rfl rfl | exact rd1 rfl rfl rfl | exact rd2 rfl rfl rfl)))))) | (apply WD.cmp; rfl; rfl; rfl; rfl; intro _ _) | (apply WD.cmpT; rfl; rfl; rfl; rfl; intro _ _) | (apply WD.pur; rfl; (intro _; rfl)) | (apply WD.skp; rfl) | (apply WD.skpL; rfl) | (apply WD.skpX; rfl) | (apply WOps.ask; rfl; all_goals (intro hb; first | subst hb | fail_if_success (cases hb))) | (apply WC.condA; rfl; all_goals (intro hb; try subst hb)) | (apply WD.ask; rfl; all_goals (intro hb; first | subst hb | fail_if_success (cases hb))))
  · have hlt : i < l.length := by
      have h0 := ‹true = true ↔ cmpP BinOp.lss (Int.ofNat i) (Int.ofNat (List.map entC l).length)›
      rw [List.length_map] at h0
      simp [cmpP] at h0; omega
    have hcm : (l.map entC)[i]? = some (entC l[i]) := by rw [List.getElem?_map, List.getElem?_eq_getElem hlt]; rfl
    have hcm2 : (l.map entC)[i - 1]? = some (entC l[i - 1]) := by rw [List.getElem?_map, List.getElem?_eq_getElem (by omega)]; rfl
    repeat' (first
      | apply WOps.nil | apply WC.seq | apply WC.reg | apply WC.skip | apply WC.ret | apply WC.exit | (apply WC.condT; rfl) | (apply WC.condF; rfl) | apply WC.block | apply WC.dreg | apply WD.nil | (apply WOps.ldG; rfl; rfl; (first | exact ld0 rfl | exact ld1 rfl | exact ld2 rfl); rfl) | (apply WOps.st; rfl; rfl; (first | exact tk0 | exact tk1 | exact tk2); rfl; (first | rfl | ((repeat' (first | exact ac0 | apply ac1)) <;> (first | rfl | assumption))); rfl) | (apply WOps.alc; rfl; intro _) | (apply WD.st; rfl; rfl; rfl; (first | exact tk0 | exact tk1 | exact tk2); rfl; (first | rfl | ((repeat' (first | exact ac0 | apply ac1)) <;> (first | rfl | assumption))); rfl) | (apply WD.alc; rfl; rfl; intro _) | (apply WOps.ixSl; rfl; rfl; rfl; exact hw; exact hcm; intro ax hax) | (apply WOps.ldG; rfl; rfl; exact hax; rfl) | (apply WD.clR; rfl; rfl; exact wrong64_ok _ _; rintro _ (⟨hw1, rfl⟩ | ⟨hw1, hw2, rfl⟩ | ⟨hw1, hw2, rfl⟩)) | (apply WD.subN; rfl; rfl; rfl; (have h0 := ‹true = true ↔ cmpP BinOp.gtr (Int.ofNat i) (Int.ofNat 0)›; simp only [cmpP, true_iff, Int.ofNat_eq_natCast] at h0; omega); omega) | (apply WD.ixSl; rfl; rfl; rfl; exact hw.cons; exact hcm2; intro ay hay) | (apply WD.load; rfl; (apply at1; exact rd_ld0 rfl (Ld.part (hay _ hw.cons) 0 1 (by decide)); rfl)) | (apply WOps.addN; rfl; rfl; rfl; omega) | (apply WOps.neqF; rfl; rfl; rfl; decide) | (apply WOps.neqT; rfl; rfl; rfl; decide) | (apply WOps.eqlF; rfl; rfl; rfl; decide) | (apply WOps.eqlT; rfl; rfl; rfl; decide) | (apply WD.neqF; rfl; rfl; rfl; decide) | (apply WD.neqT; rfl; rfl; rfl; decide) | (apply WD.eqlF; rfl; rfl; rfl; decide) | (apply WD.eqlT; rfl; rfl; rfl; decide) | (apply WOps.cmp; rfl; rfl; rfl; rfl; intro _ _) | (apply WOps.cmpT; rfl; rfl; rfl; rfl; intro _ _) | (apply WOps.purG; rfl; (intro _; rfl)) | (apply WOps.skp; rfl) | (apply WD.load; rfl; (first | (apply at1; (first | exact rd0 rfl rfl rfl | exact rd1 rfl rfl rfl | exact rd2 rfl rfl rfl); rfl) | (apply at2; (first | exact rd0 rfl rfl rfl | exact rd1 rfl rfl rfl | exact rd2 rfl rfl rfl); repeat' (first | exact same0 | (apply same1; (first | exact rd0 rfl rfl rfl | exact rd1 rfl rfl rfl | exact rd2 rfl rfl rfl); rfl) | (apply same2; (first | exact rd0 rfl rfl rfl | exact rd1 rfl rfl rfl | exact rd2 rfl rfl rfl)))))) | (apply WD.cmp; rfl; rfl; rfl; rfl; intro _ _) | (apply WD.cmpT; rfl; rfl; rfl; rfl; intro _ _) | (apply WD.pur; rfl; (intro _; rfl)) | (apply WD.skp; rfl) | (apply WD.skpL; rfl) | (apply WD.skpX; rfl) | (apply WOps.ask; rfl; all_goals (intro hb; first | subst hb | fail_if_success (cases hb))) | (apply WC.condA; rfl; all_goals (intro hb; try subst hb)) | (apply WD.ask; rfl; all_goals (intro hb; first | subst hb | fail_if_success (cases hb))))
    all_goals simp only [cmpP, cmpS, Bool.false_eq_true, false_iff, true_iff, Int.ofNat_eq_natCast, Decidable.not_not] at *
    all_goals first
      | (refine ⟨trivial, List.sublist_cons_self _ _, [_], ⟨_, [], rfl, rfl, rfl⟩, _, rfl, ?_⟩
         simp only [Bool.false_eq_true, false_iff]
         rintro ⟨_, hf⟩
         have hfi := hf i hlt hlt
         have hb1 := hfi.1
         have hb2 := hfi.2.1
         have hb3 := hfi.2.2.1
         have hb4 := hfi.2.2.2.1
         have hb5 := hfi.2.2.2.2
         first
           | exact hw1 hb1
           | exact hw2 hb3
           | omega
           | (rw [beh_pos (by omega)] at hb2; exact absurd hb2 (by assumption)))
      | (refine WL.le (t' := [(1, w), (2, .int .u64 last), (7, .int .i64 (.ofNat (i + 1)))]) (Sub1.cons rfl (Sub1.cons rfl (Sub1.cons rfl Sub1.nil))) (WL.sub (List.sublist_cons_self _ _) (ih _ (by omega) (i + 1) ?_ (by omega) rfl))
         intro j hj hji
         rcases Nat.lt_or_ge j i with h | h
         · exact hfit j hj h
         · obtain rfl : j = i := by omega
           refine ⟨hw1, ?_, hw2, by omega, by omega⟩
           first
             | (rw [beh_pos (by omega)]; assumption)
             | (obtain rfl : j = 0 := by omega
                exact less_nil hw1))
  · have hge : ¬ i < l.length := by
      have h0 := ‹false = true ↔ cmpP BinOp.lss (Int.ofNat i) (Int.ofNat (List.map entC l).length)›
      rw [List.length_map] at h0
      simp [cmpP] at h0; omega
    obtain rfl : i = l.length := by omega
    refine ⟨trivial, List.Sublist.refl _, [_], ⟨_, [], rfl, rfl, rfl⟩, _, rfl, ?_⟩
    simp only [true_iff]
    exact ⟨by omega, hfit⟩
theorem TbAt.app {H R : HL} {a most : Nat} {es : List E} {last : Int} (h : TbAt H a most es last R) : ∀ (h' : HL), TbAt (h' ++ H) a most es last (h' ++ R) := by
  intro h'
  induction h' with
  | nil => exact h
  | cons x h' ih => exact ih.cons
theorem under_nil {es : List E} : under [] es = es := by
  unfold under
  rw [List.filter_eq_self]
  intro e _
  simp [underP, preP]
theorem ents_T {l : List E} : ∀ (i : Nat) c, (l.map entC)[i]? = some c → AllT [.str, .str, .int .u64, .int .u64, .int .u64, .int .u64] c := by
  intro i c h
  rw [List.getElem?_map] at h
  cases hx : l[i]? with
  | none => rw [hx] at h; cases h
  | some e => rw [hx] at h; cases h; exact entC_T e
theorem listAll_at {H R : HL} {kp a most : Nat} {last : Int} {es : List E} (hm : 1 ≤ most) (hn : es.length ≤ 1000) (hk : Ld B R ⟨false, kp, 0⟩ 1 [.ptr ⟨false, a, 0⟩]) (t : TbAt H a most es last R) :
    WF B tab (.func 23) [.ptr ⟨false, kp, 0⟩, .str []] H fun r H' => ∃ h', OwnSl r (es.map entC).flatten es.length 6 h' ∧ H' = h' ++ H := by
  have := list23_at (B := B) (pre := []) hm hn (by simp) hk t
  rw [under_nil] at this
  exact this
theorem loads_ok {most last : Int} {w : AV} {l : List E} (hw : SlIs B [] w 6 (l.map entC)) (hl : 0 ≤ last) (hlen : l.length ≤ 9223372036854775807) :
    WF B tab (.func 4) [.int .i64 most, w, .int .u64 last] [] fun r _ => r = .bool true := by
  refine WF.fn g4 rfl ?_
  have hm := mostOf_ge most
  have hm2 := mostOf_le most
  repeat' (first
    | apply WOps.nil | apply WC.seq | apply WC.reg | apply WC.skip | apply WC.ret | (apply WC.condT; rfl) | (apply WC.condF; rfl) | (apply WOps.clA; rfl; rfl; exact load19_ok hw hl hlen; rintro _ H1 (⟨hmay, kp, a, rfl, t⟩ | ⟨hmay, rfl, rfl⟩)) | (apply WOps.clR; rfl; rfl; exact may20_ok hw.any hlen; rintro _ ⟨b, rfl, hb⟩; cases b) | (apply WOps.clG1; rfl; rfl; exact WF.const g21) | (apply WOps.clA; rfl; rfl; exact listAll_at hm (by have := hmay.1; omega) (Ld.own Tk.head rfl) t; rintro r _ ⟨h', o, rfl⟩) | (apply WOps.clR; rfl; rfl; exact same22_ok (SlIs.left (ents_sl o)) hw.any ents_T ents_T (by rw [List.length_map]; omega); rintro _ ⟨b, rfl, hb2⟩) | (apply WOps.clR; rfl; rfl; exact last24_at hm (Ld.right (Ld.own Tk.head rfl)) (t.app h'); rintro _ rfl) | (apply WOps.neqF; rfl; rfl; rfl; decide) | (apply WOps.neqT; rfl; rfl; rfl; decide) | (apply WOps.eqlF; rfl; rfl; rfl; decide) | (apply WOps.eqlT; rfl; rfl; rfl; decide) | (apply WOps.cmp; rfl; rfl; rfl; rfl; intro _ _) | (apply WOps.cmpT; rfl; rfl; rfl; rfl; intro _ _) | (apply WOps.eqB; rfl; rfl; rfl; intro _ _) | (apply WOps.purG; rfl; (intro _; rfl)) | (apply WOps.skp; rfl) | (apply WOps.ask; rfl; all_goals (intro hb; first | subst hb | fail_if_success (cases hb))) | (apply WC.condA; rfl; all_goals (intro hb; try subst hb)))
  all_goals first
    | (have h := hb.2 hmay; cases h; done)
    | exact absurd (hb.1 rfl) hmay
    | (have h := hb2.2 rfl; cases h; done)
    | exact ⟨trivial, [_], ⟨_, [], rfl, rfl, rfl⟩, rfl⟩
    | (have h0 := ‹false = true ↔ cmpP BinOp.eql last last›; simp [cmpP] at h0)
end Go.Proofs.Ytlfhlkndccjejaa.KV
