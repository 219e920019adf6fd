/- What the functions do, shown by the logic. -/
import Derived.Test.YtgpnpcahcegadaaRoC
set_option linter.unusedSimpArgs false
set_option linter.unusedVariables false
set_option maxRecDepth 20000
namespace Go.Proofs.Ytgpnpcahcegadaa.RO
open Go.Proofs.Ytgpnpcahcegadaa.Abs
variable {B : Nat → List AV}
/-- The document's roster stands in the heap, beside R. -/
def refC (M : Nat) (v1 v2 v3 : AV) (s : RS) : List AV := [.int .i64 (.ofNat M), v1, v2, v3, .int .u64 s.l1, .int .u64 s.l2, .int .u64 s.l3]
def RefAt (B : Nat → List AV) (H : HL) (wp M : Nat) (s : RS) (R : HL) : Prop :=
  ∃ (ps : List (TE KS × AV)) (v1 v2 v3 : AV) (h1 h2 h3 : HL), ps.map (·.1) = s.ss ∧ PsIn B [] ps ∧ OwnSl v1 (s.ns.map entN).flatten s.ns.length 4 h1 ∧ OwnSl v2 (entP ps) ps.length 7 h2 ∧ OwnSl v3 (s.cs.map entC).flatten s.cs.length 7 h3 ∧
    H.Perm ((wp, .row (refC M v1 v2 v3 s)) :: (h1 ++ (h2 ++ (h3 ++ R))))
/-- Keys are made of what they name. -/
structure KsOk (s : RS) : Prop where
  kn : ∀ e, e ∈ s.ns → ∃ n : Nat, n < 8 ∧ e.v.node = .ofNat n ∧ e.key = keyN n
  ks : ∀ e, e ∈ s.ss → ∃ n : Nat, n < 8 ∧ e.v.node = .ofNat n ∧ e.key = keyS n e.v.id
  kc : ∀ e, e ∈ s.cs → ∃ n : Nat, n < 8 ∧ e.v.node = .ofNat n ∧ e.key = keyS n e.v.id
theorem find_none {V : Type} {es : List (TE V)} {key : List Nat} : findE es key = none ↔ ∀ e, e ∈ es → e.key ≠ key := by
  induction es with
  | nil => simp [findE]
  | cons x r ih =>
    simp only [findE]
    split
    · rename_i h
      simp only [reduceCtorEq, List.mem_cons, false_iff]
      exact fun q => q x (.inl rfl) h
    · rename_i h
      rw [ih]
      simp only [List.mem_cons, forall_eq_or_imp]
      exact ⟨fun q => ⟨h, q⟩, fun q => q.2⟩
theorem keyN_inj {a b : Nat} (h : keyN a = keyN b) : a = b := by simp [keyN] at h; exact h
theorem keyS_inj {a b : Nat} {x y : List Nat} (h : keyS a x = keyS b y) : a = b ∧ x = y := by simp [keyS] at h; exact h
theorem there_iff {s : RS} {m : Int} (ks : KsOk s) : thereK s.ns m ↔ ∃ e, e ∈ s.ns ∧ e.v.node = m := by
  constructor
  · rintro ⟨n, hn, rfl, h⟩
    cases hf : findE s.ns (keyN n) with
    | none => exact absurd hf h
    | some x =>
      obtain ⟨hx, hk⟩ := find_key hf
      obtain ⟨n2, _, h2, h3⟩ := ks.kn x hx
      refine ⟨x, hx, ?_⟩
      rw [h2, keyN_inj (h3.symm.trans hk)]
  · rintro ⟨e, he, rfl⟩
    obtain ⟨n, hn, h2, h3⟩ := ks.kn e he
    exact ⟨n, hn, h2, fun q => find_none.1 q e he h3⟩
theorem has_iff {s : RS} {n : Nat} {id : List Nat} (ks : KsOk s) : findE s.ss (keyS n id) ≠ none ↔ ∃ e, e ∈ s.ss ∧ e.v.node = .ofNat n ∧ e.v.id = id := by
  rw [ne_eq, find_none]
  constructor
  · intro h
    simp only [Classical.not_forall, Classical.not_not] at h
    obtain ⟨e, he, hk⟩ := h
    obtain ⟨n2, _, h2, h3⟩ := ks.ks e he
    obtain ⟨rfl, h5⟩ := keyS_inj (h3.symm.trans hk)
    exact ⟨e, he, h2, h5⟩
  · rintro ⟨e, he, h2, rfl⟩ h
    obtain ⟨n2, _, h4, h3⟩ := ks.ks e he
    rw [h4] at h2
    have : n2 = n := by simp only [Int.ofNat_eq_natCast] at h2; omega
    subst this
    exact h e he h3
theorem new28_ok {H : HL} (m : Int) : WF B tab (.func 28) [.int .i64 m] H fun r H' => ∃ wp, r = .ptr ⟨false, wp, 0⟩ ∧ RefAt B H' wp (mostOf m) rs0 H := by
  refine WF.fn g28 rfl ?_
  have fin : ∀ wp, RefAt B ((wp, .row (refC (mostOf m) .nilsl .nilsl .nilsl rs0)) :: H) wp (mostOf m) rs0 H := fun wp => ⟨[], .nilsl, .nilsl, .nilsl, [], [], [], rfl, (by intro p hp; cases hp), .inl ⟨rfl, rfl, rfl, rfl⟩, .inl ⟨rfl, rfl, rfl, rfl⟩, .inl ⟨rfl, rfl, rfl, rfl⟩, List.Perm.refl _⟩
  repeat' (first
    | apply WOps.nil | apply WC.seq | apply WC.reg | apply WC.skip | apply WC.ret | (apply WOps.bx; rfl; rfl; (first | rfl | ((repeat' (first | exact ac0 | apply ac1)) <;> (first | rfl | assumption))); intro _) | (apply WOps.cmp; rfl; rfl; rfl; rfl; intro _ _) | (apply WOps.purG; rfl; (intro _; rfl)) | (apply WC.condA; rfl; all_goals (intro hb; try subst hb)))
  all_goals rename_i wp
  all_goals refine ⟨trivial, [_], ⟨_, [], rfl, rfl, rfl⟩, _, rfl, ?_⟩
  all_goals simp only [cmpP, true_iff, Bool.false_eq_true, false_iff, Int.ofNat_eq_natCast] at *
  · omega
  · have : mostOf m = 1 := by unfold mostOf; split <;> (try split) <;> omega
    have q := fin wp
    rw [this] at q ⊢; exact q
  · have : mostOf m = 64 := by unfold mostOf; split <;> (try split) <;> omega
    have q := fin wp
    rw [this] at q ⊢; exact q
  · have : (Int.ofNat (mostOf m)) = m := by simp only [Int.ofNat_eq_natCast]; unfold mostOf; split <;> (try split) <;> omega
    have q := fin wp
    unfold refC at q
    rw [this] at q; exact q
theorem there53_ok {H : HL} {wp : Nat} {v : AV} {es : List (TE KN)} {m : Int} (h1 : Ld B H ⟨false, wp, 1⟩ 1 [v]) (hs : SlIs B H v 4 (es.map entN)) (hl : es.length ≤ 1000) :
    WF B tab (.func 53) [.ptr ⟨false, wp, 0⟩, .int .i64 m] H fun r H' => H' = H ∧ ∃ b : Bool, r = .bool b ∧ (b = true ↔ ∃ e, e ∈ es ∧ e.v.node = m) := by
  refine WF.fnR g53 rfl ?_
  repeat' (first
    | apply WOps.nil | apply WC.seq | apply WC.reg | apply WC.block | (apply WOps.purG; rfl; (intro _; rfl)))
  refine WC.loop ?_
  obtain ⟨i, hi⟩ : ∃ i : Nat, i = 0 := ⟨0, rfl⟩
  refine WL.le (t' := [(0, .ptr ⟨false, wp, 0⟩), (1, .int .i64 m), (5, .int .i64 (.ofNat i))]) (by subst hi; exact Sub1.cons rfl (Sub1.cons rfl (Sub1.cons rfl Sub1.nil))) ?_
  have hle : i ≤ es.length := by omega
  have hpre : ∀ (j : Nat) (h : j < es.length), j < i → es[j].v.node ≠ m := by intro j _ hj; omega
  clear hi
  induction hk : es.length - i using Nat.strongRecOn generalizing i with | _ k ih => ?_
  apply WL.step
  repeat' (first
    | apply WOps.nil | apply WC.seq | apply WC.reg | apply WC.skip | apply WC.ret | apply WC.exit | apply WC.block | (apply WOps.ldG; rfl; rfl; exact h1; rfl) | (apply WOps.lenS; rfl; rfl; exact hs) | (apply WOps.cmp; rfl; rfl; rfl; rfl; intro _ _) | (apply WOps.purG; rfl; (intro _; rfl)) | (apply WC.condA; rfl; all_goals (intro hb; try subst hb)))
  all_goals rw [List.length_map] at *
  · have hlt : i < es.length := by
      have h0 := ‹true = true ↔ cmpP BinOp.lss (Int.ofNat i) (Int.ofNat es.length)›.1 rfl
      simp [cmpP] at h0; omega
    have hcm : (es.map entN)[i]? = some (entN es[i]) := by rw [List.getElem?_map, List.getElem?_eq_getElem hlt]; rfl
    repeat' (first
      | apply WOps.nil | apply WC.seq | apply WC.reg | apply WC.skip | apply WC.ret | (apply WOps.ixSl; rfl; rfl; rfl; exact hs; exact hcm; intro ax hax) | (apply WOps.ldG; rfl; rfl; exact Ld.part hax 0 1 (by omega); rfl) | (apply WOps.addN; rfl; rfl; rfl; omega) | (apply WOps.cmp; rfl; rfl; rfl; rfl; intro _ _) | (apply WOps.purG; rfl; (intro _; rfl)) | (apply WC.condA; rfl; all_goals (intro hb; try subst hb)))
    · have he := ‹true = true ↔ cmpP BinOp.eql es[i].v.node m›.1 rfl
      exact ⟨trivial, List.Sublist.refl _, [_], ⟨_, [], rfl, rfl, rfl⟩, _, rfl, fun _ => ⟨es[i], List.getElem_mem hlt, he⟩, fun _ => rfl⟩
    · have he := eq_of_ff ‹false = true ↔ cmpP BinOp.eql es[i].v.node m›
      refine WL.le (t' := [(0, .ptr ⟨false, wp, 0⟩), (1, .int .i64 m), (5, .int .i64 (.ofNat (i + 1)))]) (Sub1.cons rfl (Sub1.cons rfl (Sub1.cons rfl Sub1.nil))) (ih _ (by omega) (i + 1) (by omega) ?_ rfl)
      intro j h hj
      rcases Nat.lt_or_ge j i with h1 | h1
      · exact hpre j h h1
      · obtain rfl : j = i := by omega
        exact he
  · have hge : es.length ≤ i := by
      have h0 := eq_of_ff ‹false = true ↔ cmpP BinOp.lss (Int.ofNat i) (Int.ofNat es.length)›
      simp [cmpP] at h0; omega
    refine ⟨trivial, List.Sublist.refl _, [_], ⟨_, [], rfl, rfl, rfl⟩, _, rfl, (fun h => by cases h), ?_⟩
    rintro ⟨e, he, hn⟩
    obtain ⟨j, hj, rfl⟩ := List.getElem_of_mem he
    exact absurd hn (hpre j hj (by omega))
theorem has56_ok {H : HL} {wp : Nat} {v : AV} {ps : List (TE KS × AV)} {m : Int} {id : List Nat} (h1 : Ld B H ⟨false, wp, 2⟩ 1 [v]) (hs : SlIs B H v 7 (ps.map fun p => entS p.1 p.2)) (hl : ps.length ≤ 1000) :
    WF B tab (.func 56) [.ptr ⟨false, wp, 0⟩, .int .i64 m, .str id] H fun r H' => H' = H ∧ ∃ b : Bool, r = .bool b ∧ (b = true ↔ ∃ p, p ∈ ps ∧ p.1.v.node = m ∧ p.1.v.id = id) := by
  refine WF.fnR g56 rfl ?_
  repeat' (first
    | apply WOps.nil | apply WC.seq | apply WC.reg | apply WC.block | (apply WOps.purG; rfl; (intro _; rfl)))
  refine WC.loop ?_
  obtain ⟨i, hi⟩ : ∃ i : Nat, i = 0 := ⟨0, rfl⟩
  refine WL.le (t' := [(0, .ptr ⟨false, wp, 0⟩), (1, .int .i64 m), (2, .str id), (7, .int .i64 (.ofNat i))]) (by subst hi; exact Sub1.cons rfl (Sub1.cons rfl (Sub1.cons rfl (Sub1.cons rfl Sub1.nil)))) ?_
  have hle : i ≤ ps.length := by omega
  have hpre : ∀ (j : Nat) (h : j < ps.length), j < i → ¬ (ps[j].1.v.node = m ∧ ps[j].1.v.id = id) := by intro j _ hj; omega
  clear hi
  induction hk : ps.length - i using Nat.strongRecOn generalizing i with | _ k ih => ?_
  apply WL.step
  repeat' (first
    | apply WOps.nil | apply WC.seq | apply WC.reg | apply WC.skip | apply WC.ret | apply WC.exit | apply WC.block | (apply WOps.ldG; rfl; rfl; exact h1; rfl) | (apply WOps.lenS; rfl; rfl; exact hs) | (apply WOps.cmp; rfl; rfl; rfl; rfl; intro _ _) | (apply WOps.purG; rfl; (intro _; rfl)) | (apply WC.condA; rfl; all_goals (intro hb; try subst hb)))
  all_goals rw [List.length_map] at *
  · have hlt : i < ps.length := by
      have h0 := ‹true = true ↔ cmpP BinOp.lss (Int.ofNat i) (Int.ofNat ps.length)›.1 rfl
      simp [cmpP] at h0; omega
    have hcm : (ps.map fun p => entS p.1 p.2)[i]? = some (entS ps[i].1 ps[i].2) := by rw [List.getElem?_map, List.getElem?_eq_getElem hlt]; rfl
    have nx : ¬ (ps[i].1.v.node = m ∧ ps[i].1.v.id = id) → WL B tab c56.nt none _ [(0, .ptr ⟨false, wp, 0⟩), (1, .int .i64 m), (2, .str id), (7, .int .i64 (.ofNat (i + 1)))] H _ := fun hno => ih _ (by omega) (i + 1) (by omega) (fun j h hj => by
      rcases Nat.lt_or_ge j i with h1 | h1
      · exact hpre j h h1
      · obtain rfl : j = i := by omega
        exact hno) rfl
    repeat' (first
      | apply WOps.nil | apply WC.seq | apply WC.reg | apply WC.skip | apply WC.ret | (apply WC.condF; rfl) | (apply WOps.ldG; rfl; rfl; exact h1; rfl) | (apply WOps.ixSl; rfl; rfl; rfl; exact hs; exact hcm; intro ax hax) | (apply WOps.ldG; rfl; rfl; exact Ld.part hax 0 1 (by omega); rfl) | (apply WOps.ldG; rfl; rfl; exact Ld.part hax 1 1 (by omega); rfl) | (apply WOps.addN; rfl; rfl; rfl; omega) | (apply WOps.cmp; rfl; rfl; rfl; rfl; intro _ _) | (apply WOps.cmpT; rfl; rfl; rfl; rfl; intro _ _) | (apply WOps.purG; rfl; (intro _; rfl)) | (apply WOps.skp; rfl) | (apply WOps.ask; rfl; all_goals (intro hb; first | subst hb | fail_if_success (cases hb))) | (apply WC.condA; rfl; all_goals (intro hb; try subst hb)))
    · have he := ‹true = true ↔ cmpP BinOp.eql ps[i].1.v.node m›.1 rfl
      have hi := ‹true = true ↔ cmpS BinOp.eql ps[i].1.v.id id›.1 rfl
      exact ⟨trivial, List.Sublist.refl _, [_], ⟨_, [], rfl, rfl, rfl⟩, _, rfl, fun _ => ⟨ps[i], List.getElem_mem hlt, he, hi⟩, fun _ => rfl⟩
    · have hi := eq_of_ff ‹false = true ↔ cmpS BinOp.eql ps[i].1.v.id id›
      exact WL.le (Sub1.cons rfl (Sub1.cons rfl (Sub1.cons rfl (Sub1.cons rfl Sub1.nil)))) (nx fun q => hi q.2)
    · have he := eq_of_ff ‹false = true ↔ cmpP BinOp.eql ps[i].1.v.node m›
      exact WL.le (Sub1.cons rfl (Sub1.cons rfl (Sub1.cons rfl (Sub1.cons rfl Sub1.nil)))) (nx fun q => he q.1)
  · have hge : ps.length ≤ i := by
      have h0 := eq_of_ff ‹false = true ↔ cmpP BinOp.lss (Int.ofNat i) (Int.ofNat ps.length)›
      simp [cmpP] at h0; omega
    refine ⟨trivial, List.Sublist.refl _, [_], ⟨_, [], rfl, rfl, rfl⟩, _, rfl, (fun h => by cases h), ?_⟩
    rintro ⟨e, he, hn⟩
    obtain ⟨j, hj, rfl⟩ := List.getElem_of_mem he
    exact absurd hn (hpre j hj (by omega))
theorem raise54_ok {H : HL} {wp M i : Nat} {v1 v2 v3 : AV} {s : RS} {ix : Int} (hi : i < 3) (c1 : v1.isCell = true) (c2 : v2.isCell = true) (c3 : v3.isCell = true) :
    WF B tab (.func 54) [.ptr ⟨false, wp, 0⟩, .int .i64 (.ofNat i), .int .u64 ix] ((wp, .row (refC M v1 v2 v3 s)) :: H) fun r H' =>
      H' = (wp, .row (refC M v1 v2 v3 (if i = 0 then { s with l1 := maxI s.l1 ix } else if i = 1 then { s with l2 := maxI s.l2 ix } else { s with l3 := maxI s.l3 ix }))) :: H := by
  refine WF.fn g54 rfl ?_
  rcases (by omega : i = 0 ∨ i = 1 ∨ i = 2) with rfl | rfl | rfl
  all_goals repeat' (first
              | apply WOps.nil | apply WC.seq | apply WC.reg | apply WC.skip | (apply WOps.ldG; rfl; rfl; (first | exact ld0 rfl | exact ld1 rfl | exact ld2 rfl); rfl) | (apply WOps.st; rfl; rfl; (first | exact tk0 | exact tk1 | exact tk2); rfl; (first | rfl | ((repeat' (first | exact ac0 | apply ac1)) <;> (first | rfl | assumption))); rfl) | (apply WOps.cmp; rfl; rfl; rfl; rfl; intro _ _) | (apply WOps.purG; rfl; (intro _; rfl)) | (apply WC.condA; rfl; all_goals (intro hb; try subst hb)))
  all_goals refine ⟨trivial, [], rfl, ?_⟩
  · have h := ‹true = true ↔ cmpP BinOp.gtr ix _›.1 rfl
    have e : maxI s.l1 ix = ix := if_pos h
    simp only [refC, e]; rfl
  · have h := eq_of_ff ‹false = true ↔ cmpP BinOp.gtr ix _›
    have e : maxI s.l1 ix = s.l1 := if_neg h
    simp only [refC, e]; rfl
  · have h := ‹true = true ↔ cmpP BinOp.gtr ix _›.1 rfl
    have e : maxI s.l2 ix = ix := if_pos h
    simp only [refC, e]; rfl
  · have h := eq_of_ff ‹false = true ↔ cmpP BinOp.gtr ix _›
    have e : maxI s.l2 ix = s.l2 := if_neg h
    simp only [refC, e]; rfl
  · have h := ‹true = true ↔ cmpP BinOp.gtr ix _›.1 rfl
    have e : maxI s.l3 ix = ix := if_pos h
    simp only [refC, e]; rfl
  · have h := eq_of_ff ‹false = true ↔ cmpP BinOp.gtr ix _›
    have e : maxI s.l3 ix = s.l3 := if_neg h
    simp only [refC, e]; rfl
theorem RefAt.rd {H R : HL} {wp M : Nat} {s : RS} (h : RefAt B H wp M s R) : ∃ (ps : List (TE KS × AV)) (v1 v2 v3 : AV), ps.map (·.1) = s.ss ∧ PsIn B [] ps ∧ Ld B H ⟨false, wp, 0⟩ 7 (refC M v1 v2 v3 s) ∧
    SlIs B H v1 4 (s.ns.map entN) ∧ SlIs B H v2 7 (ps.map fun p => entS p.1 p.2) ∧ SlIs B H v3 7 (s.cs.map entC) := by
  obtain ⟨ps, v1, v2, v3, h1, h2, h3, e1, hp, o1, o2, o3, q⟩ := h
  exact ⟨ps, v1, v2, v3, e1, hp, Ld.perm q (Ld.own Tk.head rfl), SlIs.perm q (SlIs.cons (SlIs.left (entsN_sl o1))), SlIs.perm q (SlIs.cons (SlIs.right (SlIs.left (entP_sl o2)))), SlIs.perm q (SlIs.cons (SlIs.right (SlIs.right (SlIs.left (entsC_sl o3)))))⟩
theorem RefAt.there {H R : HL} {wp M : Nat} {s : RS} {m : Int} (ok : RsOk M s) (ks : KsOk s) (h : RefAt B H wp M s R) : WF B tab (.func 53) [.ptr ⟨false, wp, 0⟩, .int .i64 m] H fun r H' => H' = H ∧ ∃ b : Bool, r = .bool b ∧ (b = true ↔ thereK s.ns m) := by
  obtain ⟨ps, v1, v2, v3, e1, hp, l, q1, q2, q3⟩ := h.rd
  have hl : s.ns.length ≤ 1000 := by have := ok.n1; have := ok.m2; omega
  refine WF.mono (there53_ok (l.part 1 1 (by omega)) q1 hl) ?_
  rintro r _ ⟨rfl, b, rfl, hb⟩
  exact ⟨rfl, b, rfl, hb.trans (there_iff ks).symm⟩
theorem RefAt.has {H R : HL} {wp M n : Nat} {s : RS} {id : List Nat} (ok : RsOk M s) (ks : KsOk s) (h : RefAt B H wp M s R) : WF B tab (.func 56) [.ptr ⟨false, wp, 0⟩, .int .i64 (.ofNat n), .str id] H fun r H' => H' = H ∧ ∃ b : Bool, r = .bool b ∧ (b = true ↔ findE s.ss (keyS n id) ≠ none) := by
  obtain ⟨ps, v1, v2, v3, e1, hp, l, q1, q2, q3⟩ := h.rd
  have hl : ps.length ≤ 1000 := by have h1 := ok.n2; have := ok.m2; rw [← e1, List.length_map] at h1; omega
  refine WF.mono (has56_ok (l.part 2 1 (by omega)) q2 hl) ?_
  rintro r _ ⟨rfl, b, rfl, hb⟩
  refine ⟨rfl, b, rfl, hb.trans ?_⟩
  rw [has_iff ks, ← e1]
  constructor
  · rintro ⟨p, hp, h1, h2⟩
    exact ⟨p.1, List.mem_map_of_mem hp, h1, h2⟩
  · rintro ⟨e, he, h1, h2⟩
    obtain ⟨p, hp, rfl⟩ := List.mem_map.1 he
    exact ⟨p, hp, h1, h2⟩
theorem RefAt.cons {H R : HL} {wp M : Nat} {s : RS} {x : Nat × AObj} (h : RefAt B H wp M s R) : RefAt B (x :: H) wp M s (x :: R) := by
  obtain ⟨ps, v1, v2, v3, h1, h2, h3, e1, hp, o1, o2, o3, q⟩ := h
  refine ⟨ps, v1, v2, v3, h1, h2, h3, e1, hp, o1, o2, o3, (q.cons x).trans ?_⟩
  exact permF (by intro f; simp only [List.map_cons, List.map_append, List.sum_cons, List.sum_append]; omega)
set_option maxHeartbeats 2000000 in
theorem wrong55_ok {H R : HL} {wp M : Nat} {s : RS} {x : KS} {tv : AV} {jm ji : Int} (ok : RsOk M s) (ks : KsOk s) (h : RefAt B H wp M s R) (hx : SvIs B H x tv) :
    WF B tab (.func 55) [.ptr ⟨false, wp, 0⟩, .agg (svC x tv jm ji)] H fun r H' => H' = H ∧ r = .int .i64 (.ofNat (wrongS s x)) := by
  refine WF.fnR g55 rfl ?_
  have ct := hx.t.cell
  have hi := hx.i
  have hn := hx.n
  have ht := hx.l
  repeat' (first
    | apply WOps.nil | apply WC.seq | apply WC.reg | apply WC.skip | apply WC.ret | (apply WC.condT; rfl) | (apply WC.condF; rfl) | (apply WOps.ldG; rfl; rfl; (first | exact ld0 rfl | exact ld1 rfl | exact ld2 rfl); rfl) | (apply WOps.bx; rfl; rfl; (first | rfl | ((repeat' (first | exact ac0 | apply ac1)) <;> (first | rfl | assumption))); intro _) | (apply WOps.clR; rfl; rfl; exact right72_ok _ (by omega); rintro _ ⟨bb, rfl, hbb⟩; cases bb) | (apply WOps.clR; rfl; rfl; exact tags73_ok hx.t.cons (by omega) hx.s; rintro _ ⟨bb, rfl, hb3⟩; cases bb) | (apply WOps.clR; rfl; rfl; exact RefAt.there ok ks h.cons; rintro _ ⟨bb, rfl, hb4⟩; cases bb) | (apply WOps.cmp; rfl; rfl; rfl; rfl; intro _ _) | (apply WOps.purG; rfl; (intro _; rfl)) | (apply WOps.skp; rfl) | (apply WOps.ask; rfl; all_goals (intro hb; first | subst hb | fail_if_success (cases hb))) | (apply WC.condA; rfl; all_goals (intro hb; try subst hb)))
  all_goals refine ⟨trivial, List.sublist_cons_self _ _, [_], ⟨_, [], rfl, rfl, rfl⟩, congrArg (fun k => AV.int .i64 (.ofNat k)) (Eq.symm ?_)⟩
  all_goals unfold wrongS
  all_goals simp only [cmpP, true_iff, Bool.false_eq_true, false_iff, Int.ofNat_eq_natCast] at *
  · rw [if_pos (.inl (by omega))]
  · rw [if_pos (.inl (by omega))]
  · rw [if_pos (.inr (.inl (by omega)))]
  · rw [if_pos (.inr (.inr (by omega)))]
  all_goals rw [if_neg (by omega)]
  · rw [if_pos (fun h => hbb h.1)]
  · rw [if_pos (fun h => hbb h.2.1)]
  · rw [if_pos (fun h => hb3 h.2.2)]
  · rw [if_neg (by simp_all), if_pos hb4]
  · rw [if_neg (by simp_all), if_neg (by simp_all)]
set_option maxHeartbeats 4000000 in
theorem wrong57_ok {H R : HL} {wp M : Nat} {s : RS} {x : KC} {jm ji : Int} (ok : RsOk M s) (ks : KsOk s) (h : RefAt B H wp M s R) (hx : CkIs x) :
    WF B tab (.func 57) [.ptr ⟨false, wp, 0⟩, .agg (ckC x jm ji)] H fun r H' => H' = H ∧ r = .int .i64 (.ofNat (wrongC s x)) := by
  refine WF.fnR g57 rfl ?_
  have hi := hx.i
  have hn := hx.n
  have hs := hx.s
  obtain ⟨node, id, svc, note, st⟩ := x
  simp only at hi hn hs
  by_cases hd : 0 ≤ node ∧ node < 8
  · obtain ⟨n, hn8, rfl⟩ : ∃ n : Nat, n < 8 ∧ node = .ofNat n := ⟨node.toNat, by omega, by simp only [Int.ofNat_eq_natCast]; omega⟩
    repeat' (first
      | apply WOps.nil | apply WC.seq | apply WC.reg | apply WC.skip | apply WC.ret | (apply WC.condT; rfl) | (apply WC.condF; rfl) | (apply WOps.ldG; rfl; rfl; (first | exact ld0 rfl | exact ld1 rfl | exact ld2 rfl); rfl) | (apply WOps.bx; rfl; rfl; (first | rfl | ((repeat' (first | exact ac0 | apply ac1)) <;> (first | rfl | assumption))); intro _) | (apply WOps.clR; rfl; rfl; exact right72_ok id (by omega); rintro _ ⟨bb, rfl, hbb⟩; cases bb) | (apply WOps.clR; rfl; rfl; exact right72_ok svc (by omega); rintro _ ⟨bb, rfl, hb2⟩; cases bb) | (apply WOps.lenT; rfl; rfl) | (apply WOps.clR; rfl; rfl; exact RefAt.there ok ks h.cons; rintro _ ⟨bb, rfl, hb4⟩; cases bb) | (apply WOps.clR; rfl; rfl; exact RefAt.has ok ks h.cons; rintro _ ⟨bb, rfl, hb5⟩; cases bb) | (apply WOps.cmp; rfl; rfl; rfl; rfl; intro _ _) | (apply WOps.cmpT; rfl; rfl; rfl; rfl; intro _ _) | (apply WOps.purG; rfl; (intro _; rfl)) | (apply WOps.skp; rfl) | (apply WOps.ask; rfl; all_goals (intro hb; first | subst hb | fail_if_success (cases hb))) | (apply WC.condA; rfl; all_goals (intro hb; try subst hb)))
    all_goals refine ⟨trivial, List.sublist_cons_self _ _, [_], ⟨_, [], rfl, rfl, rfl⟩, congrArg (fun k => AV.int .i64 (.ofNat k)) (Eq.symm ?_)⟩
    all_goals unfold wrongC
    all_goals simp only [cmpP, cmpS, true_iff, Bool.false_eq_true, false_iff] at *
    · exfalso; have q : Int.ofNat n < 0 := by assumption
      omega
    · exfalso; have q : Int.ofNat 7 < Int.ofNat n := by assumption
      have q2 : (7 : Int) < (n : Int) := q
      omega
    · rw [if_pos (.inr (.inl (by assumption)))]
    · rw [if_pos (.inr (.inr (by assumption)))]
    all_goals (rw [if_neg (by rintro (h | h | h); exact h hd; exact absurd h (by assumption); exact absurd h (by assumption))])
    all_goals rw [show (Int.ofNat n).toNat = n from rfl]
    all_goals clear ok h ks hd
    all_goals simp only [Int.ofNat_eq_natCast, Int.ofNat_lt] at *
    all_goals generalize thereK s.ns _ = P at *
    all_goals simp_all
  · repeat' (first
      | apply WOps.nil | apply WC.seq | apply WC.reg | apply WC.skip | apply WC.ret | (apply WC.condT; rfl) | (apply WOps.ldG; rfl; rfl; (first | exact ld0 rfl | exact ld1 rfl | exact ld2 rfl); rfl) | (apply WOps.bx; rfl; rfl; (first | rfl | ((repeat' (first | exact ac0 | apply ac1)) <;> (first | rfl | assumption))); intro _) | (apply WOps.cmp; rfl; rfl; rfl; rfl; intro _ _) | (apply WOps.purG; rfl; (intro _; rfl)) | (apply WOps.skp; rfl) | (apply WOps.ask; rfl; all_goals (intro hb; first | subst hb | fail_if_success (cases hb))) | (apply WC.condA; rfl; all_goals (intro hb; try subst hb)))
    all_goals first
      | (refine ⟨trivial, List.sublist_cons_self _ _, [_], ⟨_, [], rfl, rfl, rfl⟩, congrArg (fun k => AV.int .i64 (.ofNat k)) (Eq.symm ?_)⟩
         unfold wrongC
         rw [if_pos (.inl hd)])
      | (exfalso
         simp only [cmpP, true_iff, Bool.false_eq_true, false_iff, Int.ofNat_eq_natCast] at *
         omega)
theorem laid_step {V : Type} {es : List (TE V)} {e : TE V} {j : Nat} (so : Rise es) (hj : j < es.length) (hb : AllBelow (es.take j) e.key) :
    (es[j].key = e.key → findE es e.key = some es[j] ∧ (es.take j ++ [{ e with mke := es[j].mke }]) ++ es.drop (j + 1) = putE es e ∧ Above (es.drop (j + 1)) e.key) ∧
    (strLess e.key es[j].key = true → findE es e.key = none ∧ ((es.take j ++ [e]) ++ [es[j]]) ++ es.drop (j + 1) = putE es e ∧ Above (es.drop (j + 1)) e.key) ∧
    (¬ es[j].key = e.key → ¬ strLess e.key es[j].key = true → AllBelow (es.take (j + 1)) e.key) := by
  have hd : es.drop j = es[j] :: es.drop (j + 1) := List.drop_eq_getElem_cons hj
  have hab : Above (es.drop (j + 1)) es[j].key := by
    intro x hx
    obtain ⟨i, hi, rfl⟩ := List.getElem_of_mem hx
    rw [List.length_drop] at hi
    rw [List.getElem_drop]
    exact sorted_of so j (j + 1 + i) hj (by omega) (by omega)
  have ep : putE es e = es.take j ++ putE (es.drop j) e := by rw [← put_below hb, List.take_append_drop]
  have ef : findE es e.key = findE (es.drop j) e.key := by
    have : findE es e.key = findE (es.take j ++ es.drop j) e.key := by rw [List.take_append_drop]
    rw [this, find_below hb]
  refine ⟨fun hk => ⟨?_, ?_, ?_⟩, fun hl => ?_, fun hne hnl => ?_⟩
  · rw [ef, hd, find_hit hk]
  · rw [ep, hd, put_hit hk]; simp
  · rw [← hk]; exact hab
  · have ha2 : Above (es.drop (j + 1)) e.key := fun x hx => less_trans hl (hab x hx)
    have ha3 : Above (es.drop j) e.key := by
      rw [hd]
      intro x hx
      rcases List.mem_cons.1 hx with rfl | hx
      · exact hl
      · exact ha2 x hx
    refine ⟨by rw [ef, find_above ha3], ?_, ha2⟩
    rw [ep, put_above ha3, hd]
    simp
  · intro x hx
    rw [List.take_succ_eq_append_getElem hj] at hx
    rcases List.mem_append.1 hx with hx | hx
    · exact hb x hx
    · rw [List.mem_singleton] at hx
      subst hx
      cases hb : strLess es[j].key e.key with
      | true => rfl
      | false => exact absurd (less_total hb (Bool.eq_false_iff.2 hnl)) hne
theorem keyN_less {a b : Nat} : strLess (keyN a) (keyN b) = true ↔ a < b := by
  unfold keyN
  rw [less_cons]
  simp only [less_irr, Bool.false_eq_true, and_false, or_false]
  omega
theorem keyS_less {a b : Nat} {x y : List Nat} : strLess (keyS a x) (keyS b y) = true ↔ a < b ∨ (a = b ∧ strLess x y = true) := by
  unfold keyS
  rw [less_cons, less_cons]
  constructor
  · rintro (h | ⟨h, h2⟩)
    · left; omega
    · rcases h2 with h2 | ⟨_, h2⟩
      · omega
      · right; exact ⟨by omega, h2⟩
  · rintro (h | ⟨h, h2⟩)
    · left; omega
    · right; exact ⟨by omega, .inr ⟨rfl, h2⟩⟩
theorem full_there {s : RS} {M n : Nat} (hn : n < 8) : fullP M s.ns (keyN n) ↔ ¬ thereK s.ns (.ofNat n) ∧ M ≤ s.ns.length := by
  unfold fullP thereK
  constructor
  · rintro ⟨h1, h2⟩
    refine ⟨?_, h2⟩
    rintro ⟨n2, _, h3, h4⟩
    have : n2 = n := by simp only [Int.ofNat_eq_natCast] at h3; omega
    subst this
    exact h4 h1
  · rintro ⟨h1, h2⟩
    refine ⟨?_, h2⟩
    cases hf : findE s.ns (keyN n) with
    | none => rfl
    | some x => exact absurd ⟨n, hn, rfl, by rw [hf]; simp⟩ h1
theorem raise54_0 {H : HL} {wp M : Nat} {v1 v2 v3 : AV} {s : RS} {ix : Int} (c1 : v1.isCell = true) (c2 : v2.isCell = true) (c3 : v3.isCell = true) :
    WF B tab (.func 54) [.ptr ⟨false, wp, 0⟩, .int .i64 (.ofNat 0), .int .u64 ix] ((wp, .row (refC M v1 v2 v3 s)) :: H) fun r H' =>
      H' = (wp, .row (refC M v1 v2 v3 { s with l1 := maxI s.l1 ix })) :: H := raise54_ok (i := 0) (by omega) c1 c2 c3
theorem raise54_1 {H : HL} {wp M : Nat} {v1 v2 v3 : AV} {s : RS} {ix : Int} (c1 : v1.isCell = true) (c2 : v2.isCell = true) (c3 : v3.isCell = true) :
    WF B tab (.func 54) [.ptr ⟨false, wp, 0⟩, .int .i64 (.ofNat 1), .int .u64 ix] ((wp, .row (refC M v1 v2 v3 s)) :: H) fun r H' =>
      H' = (wp, .row (refC M v1 v2 v3 { s with l2 := maxI s.l2 ix })) :: H := raise54_ok (i := 1) (by omega) c1 c2 c3
theorem raise54_2 {H : HL} {wp M : Nat} {v1 v2 v3 : AV} {s : RS} {ix : Int} (c1 : v1.isCell = true) (c2 : v2.isCell = true) (c3 : v3.isCell = true) :
    WF B tab (.func 54) [.ptr ⟨false, wp, 0⟩, .int .i64 (.ofNat 2), .int .u64 ix] ((wp, .row (refC M v1 v2 v3 s)) :: H) fun r H' =>
      H' = (wp, .row (refC M v1 v2 v3 { s with l3 := maxI s.l3 ix })) :: H := raise54_ok (i := 2) (by omega) c1 c2 c3
set_option maxHeartbeats 4000000 in
theorem nodeR_ok {H R : HL} {wp M : Nat} {s : RS} {node ix : Int} {addr : List Nat} (ok : RsOk M s) (ks : KsOk s) (h : RefAt B H wp M s R) :
    WF B tab (.func 29) [.ptr ⟨false, wp, 0⟩, .int .i64 node, .str addr, .int .u64 ix] H fun r H' => r = .int .i64 (.ofNat (nodeS M s node addr ix).2) ∧ RefAt B H' wp M (nodeS M s node addr ix).1 R := by
  refine WF.lessP ?_
  have hth := fun m => RefAt.there (B := B) (m := m) ok ks h
  have hh := h
  obtain ⟨ps, v1, v2, v3, h1, h2, h3, e1, hp, o1, o2, o3, q⟩ := h
  have tkW : Tk H wp (.row (refC M v1 v2 v3 s)) (h1 ++ (h2 ++ (h3 ++ R))) := q
  have row : Ld B H ⟨false, wp, 0⟩ 7 (refC M v1 v2 v3 s) := Ld.perm q (Ld.own Tk.head rfl)
  have l0 := row.part 0 1 (by omega)
  have l1 := row.part 1 1 (by omega)
  have s1 : SlIs B H v1 4 (s.ns.map entN) := SlIs.perm q (SlIs.cons (SlIs.left (entsN_sl o1)))
  have c1 := o1.cell
  have c2 := o2.cell
  have c3 := o3.cell
  have hl : s.ns.length ≤ 64 := Nat.le_trans ok.n1 ok.m2
  refine WF.fn g29 rfl ?_
  by_cases hd : 0 ≤ node ∧ node < 8
  case neg =>
    have e : nodeS M s node addr ix = (s, 2) := by unfold nodeS; rw [if_pos hd]
    repeat' (first
      | apply WOps.nil | apply WC.seq | apply WC.reg | apply WC.skip | apply WC.ret | (apply WC.condT; rfl) | apply WC.dreg | (apply WOps.cmp; rfl; rfl; rfl; rfl; intro _ _) | (apply WOps.purG; rfl; (intro _; rfl)) | (apply WOps.skp; rfl) | (apply WD.pur; rfl; (intro _; rfl)) | (apply WOps.ask; rfl; all_goals (intro hb; first | subst hb | fail_if_success (cases hb))) | (apply WC.condA; rfl; all_goals (intro hb; try subst hb)))
    all_goals first
      | exact ⟨trivial, [_], ⟨_, [], rfl, rfl, rfl⟩, H, ⟨by rw [e]; rfl, by rw [e]; exact hh⟩, SubP.refl⟩
      | (exfalso
         simp only [cmpP, true_iff, Bool.false_eq_true, false_iff, Int.ofNat_eq_natCast] at *
         omega)
  obtain ⟨n, hn8, rfl⟩ : ∃ n : Nat, n < 8 ∧ node = .ofNat n := ⟨node.toNat, by omega, by simp only [Int.ofNat_eq_natCast]; omega⟩
  refine WC.seq (WC.reg ?_)
  repeat' (first
    | apply WOps.nil | (apply WOps.purG; rfl; (intro _; rfl)))
  refine WC.cut2 (X := Unit) (fun _ => [(0, .ptr ⟨false, wp, 0⟩), (1, .int .i64 (.ofNat n)), (2, .str addr), (3, .int .u64 ix)]) (fun _ => H) (fun _ => True) ?_ ?_
  · repeat' (first
      | apply WOps.nil | apply WC.seq | apply WC.reg | apply WC.skip | apply WC.ret | (apply WC.condT; rfl) | (apply WOps.cmp; rfl; rfl; rfl; rfl; intro _ _) | (apply WOps.purG; rfl; (intro _; rfl)) | (apply WOps.skp; rfl) | (apply WOps.ask; rfl; all_goals (intro hb; first | subst hb | fail_if_success (cases hb))) | (apply WC.condA; rfl; all_goals (intro hb; try subst hb)))
    · exfalso
      have q := ‹true = true ↔ cmpP BinOp.lss (Int.ofNat n) (Int.ofNat 0)›.1 rfl
      have q2 : (n : Int) < 0 := q
      omega
    · exfalso
      have q := ‹true = true ↔ cmpP BinOp.gtr (Int.ofNat n) (Int.ofNat 7)›.1 rfl
      have q2 : (7 : Int) < (n : Int) := q
      omega
    · exact ⟨(), Sub1.cons rfl (Sub1.cons rfl (Sub1.cons rfl (Sub1.cons rfl Sub1.nil))), SubP.refl, trivial⟩
  intro _ _
  refine WC.cut2 (X := Unit) (fun _ => [(0, .ptr ⟨false, wp, 0⟩), (1, .int .i64 (.ofNat n)), (2, .str addr), (3, .int .u64 ix)]) (fun _ => H) (fun _ => ¬ 32 < addr.length) ?_ ?_
  · repeat' (first
      | apply WOps.nil | apply WC.seq | apply WC.reg | apply WC.skip | apply WC.ret | (apply WOps.lenT; rfl; rfl) | (apply WOps.cmp; rfl; rfl; rfl; rfl; intro _ _) | (apply WOps.purG; rfl; (intro _; rfl)) | (apply WC.condA; rfl; all_goals (intro hb; try subst hb)))
    · have q := ‹true = true ↔ cmpP BinOp.gtr _ _›.1 rfl
      simp only [cmpP, Int.ofNat_eq_natCast] at q
      have e : nodeS M s (.ofNat n) addr ix = (s, 3) := by unfold nodeS; rw [if_neg (fun q => q hd), if_pos (by omega)]
      exact ⟨trivial, [_], ⟨_, [], rfl, rfl, rfl⟩, H, ⟨by rw [e]; rfl, by rw [e]; exact hh⟩, SubP.refl⟩
    · have q := eq_of_ff ‹false = true ↔ cmpP BinOp.gtr _ _›
      simp only [cmpP, Int.ofNat_eq_natCast] at q
      exact ⟨(), Sub1.cons rfl (Sub1.cons rfl (Sub1.cons rfl (Sub1.cons rfl Sub1.nil))), SubP.refl, by omega⟩
  intro _ ha
  refine WC.cut2 (X := Unit) (fun _ => [(0, .ptr ⟨false, wp, 0⟩), (1, .int .i64 (.ofNat n)), (2, .str addr), (3, .int .u64 ix)]) (fun _ => H) (fun _ => ¬ fullP M s.ns (keyN n)) ?_ ?_
  · repeat' (first
      | apply WOps.nil | apply WC.seq | apply WC.reg | apply WC.skip | apply WC.ret | (apply WC.condF; rfl) | apply WC.dreg | apply WD.nil | (apply WD.clR; rfl; rfl; exact hth _; rintro _ ⟨bb, rfl, hbb⟩; cases bb) | (apply WD.load; rfl; (first | (apply at1; exact rd_ld rfl (l0) rfl; rfl) | (apply at2; exact rd_ld rfl (l0) rfl; repeat' (first | exact same0 | (apply same1; exact rd_ld rfl (l0) rfl; rfl) | (apply same2; exact rd_ld rfl (l0) rfl))))) | (apply WD.load; rfl; (first | (apply at1; exact rd_ld rfl (l1) rfl; rfl) | (apply at2; exact rd_ld rfl (l1) rfl; repeat' (first | exact same0 | (apply same1; exact rd_ld rfl (l1) rfl; rfl) | (apply same2; exact rd_ld rfl (l1) rfl))))) | (apply WD.lenS; rfl; rfl; exact s1) | (apply WOps.purG; rfl; (intro _; rfl)) | (apply WD.cmp; rfl; rfl; rfl; rfl; intro _ _) | (apply WD.pur; rfl; (intro _; rfl)) | (apply WD.skp; rfl) | (apply WD.skpL; rfl) | (apply WC.condA; rfl; all_goals (intro hb; try subst hb)))
    · have q := ‹true = true ↔ cmpP BinOp.geq _ _›.1 rfl
      simp only [cmpP, Int.ofNat_eq_natCast, List.length_map] at q
      have e : nodeS M s (.ofNat n) addr ix = (s, 5) := by unfold nodeS; rw [if_neg (fun q => q hd), if_neg ha]; exact if_pos ((full_there (M := M) hn8).2 ⟨eq_of_ff hbb, by omega⟩)
      exact ⟨trivial, [_], ⟨_, [], rfl, rfl, rfl⟩, H, ⟨by rw [e]; rfl, by rw [e]; exact hh⟩, SubP.refl⟩
    · have q := eq_of_ff ‹false = true ↔ cmpP BinOp.geq _ _›
      simp only [cmpP, Int.ofNat_eq_natCast, List.length_map] at q
      exact ⟨(), Sub1.cons rfl (Sub1.cons rfl (Sub1.cons rfl (Sub1.cons rfl Sub1.nil))), SubP.refl, fun k => by have := k.2; omega⟩
    · exact ⟨(), Sub1.cons rfl (Sub1.cons rfl (Sub1.cons rfl (Sub1.cons rfl Sub1.nil))), SubP.refl, fun k => ((full_there hn8).1 k).1 (hbb.1 rfl)⟩
  intro _ hnf
  have e : nodeS M s (.ofNat n) addr ix = ({ s with ns := putE s.ns (⟨keyN n, ⟨.ofNat n, addr⟩, ix, ix⟩ : TE KN), l1 := maxI s.l1 ix }, 0) := by
    unfold nodeS
    rw [if_neg (fun q => q hd), if_neg ha]
    exact if_neg hnf
  rw [e]
  clear e hth hh hnf ha
  repeat' (first
    | apply WOps.nil | apply WC.seq | apply WC.reg | apply WC.block | (apply WOps.st; rfl; rfl; (first | exact tk0 | exact tk1 | exact tk2); rfl; (first | rfl | ((repeat' (first | exact ac0 | apply ac1)) <;> (first | rfl | assumption))); rfl) | (apply WOps.alc; rfl; intro _) | (apply WOps.purG; rfl; (intro _; rfl)))
  rename_i p9
  refine WC.loop ?_
  obtain ⟨i, hi⟩ : ∃ i : Nat, i = 0 := ⟨0, rfl⟩
  obtain ⟨w9, hw9⟩ : ∃ v, v = AV.nilsl := ⟨_, rfl⟩
  obtain ⟨us, hus⟩ : ∃ u : List (TE KN), u = [] := ⟨_, rfl⟩
  obtain ⟨hw, hhw⟩ : ∃ h : HL, h = [] := ⟨_, rfl⟩
  obtain ⟨laid, hlaid⟩ : ∃ b : Bool, b = false := ⟨_, rfl⟩
  obtain ⟨mk, hmk⟩ : ∃ m : Int, m = ix := ⟨_, rfl⟩
  refine WL.le (t' := [(0, .ptr ⟨false, wp, 0⟩), (1, .int .i64 (.ofNat n)), (3, .int .u64 ix), (9, .ptr ⟨false, p9, 0⟩), (10, w9), (11, .bool laid), (12, .int .i64 (.ofNat i))]) (by subst hi hw9 hlaid; exact Sub1.cons rfl (Sub1.cons rfl (Sub1.cons rfl (Sub1.cons rfl (Sub1.cons rfl (Sub1.cons rfl (Sub1.cons rfl Sub1.nil))))))) ?_
  refine WL.heq (H' := (p9, .row (entN (⟨keyN n, ⟨.ofNat n, addr⟩, mk, ix⟩ : TE KN))) :: (hw ++ H)) (by subst hhw hmk; rfl) ?_
  have o9 : OwnSl w9 (us.map entN).flatten us.length 4 hw := by subst hus; exact .inl ⟨hw9, rfl, rfl, hhw⟩
  have hst : (laid = false ∧ mk = ix ∧ us = s.ns.take i ∧ AllBelow (s.ns.take i) (keyN n)) ∨ (laid = true ∧ us ++ s.ns.drop i = putE s.ns (⟨keyN n, ⟨.ofNat n, addr⟩, ix, ix⟩ : TE KN) ∧ Above (s.ns.drop i) (keyN n)) := by
    subst hi hus
    exact .inl ⟨hlaid, hmk, rfl, fun x hx => by simp at hx⟩
  have hul : us.length ≤ i + 1 := by subst hus; simp
  have hle : i ≤ s.ns.length := by omega
  clear hi hw9 hus hhw hlaid hmk
  have r1 := ok.r1
  induction hk : s.ns.length - i using Nat.strongRecOn generalizing i w9 us hw laid mk with | _ k ih => ?_
  apply WL.step
  have lA : Ld B ((p9, .row (entN (⟨keyN n, ⟨.ofNat n, addr⟩, mk, ix⟩ : TE KN))) :: (hw ++ H)) ⟨false, wp, 1⟩ 1 [v1] := (Ld.right l1).cons
  have sA : SlIs B ((p9, .row (entN (⟨keyN n, ⟨.ofNat n, addr⟩, mk, ix⟩ : TE KN))) :: (hw ++ H)) v1 4 (s.ns.map entN) := SlIs.cons (SlIs.right s1)
  refine WC.seq (WC.seq (WC.reg ?_))
  repeat' (first
    | apply WOps.nil | apply WC.skip | apply WC.exit | (apply WOps.ldG; rfl; rfl; exact lA; rfl) | (apply WOps.lenS; rfl; rfl; exact sA) | (apply WOps.cmp; rfl; rfl; rfl; rfl; intro _ _) | (apply WOps.purG; rfl; (intro _; rfl)) | (apply WC.condA; rfl; all_goals (intro hb; try subst hb)))
  all_goals rw [List.length_map] at *
  · have hlt : i < s.ns.length := by
      have h0 := ‹true = true ↔ cmpP BinOp.lss (Int.ofNat i) (Int.ofNat s.ns.length)›.1 rfl
      simp [cmpP] at h0; omega
    have hcm : (s.ns.map entN)[i]? = some (entN s.ns[i]) := by rw [List.getElem?_map, List.getElem?_eq_getElem hlt]; rfl
    obtain ⟨m, hm8, hnode, hkey⟩ := ks.kn s.ns[i] (List.getElem_mem hlt)
    have keq : s.ns[i].v.node = Int.ofNat n ↔ s.ns[i].key = keyN n := by
      rw [hnode, hkey]
      exact ⟨fun h => by have : m = n := by simp only [Int.ofNat_eq_natCast] at h; omega
                         rw [this], fun h => by rw [keyN_inj h]⟩
    have kgt : s.ns[i].v.node > Int.ofNat n ↔ strLess (keyN n) s.ns[i].key = true := by
      rw [hnode, hkey, keyN_less]
      simp only [Int.ofNat_eq_natCast, gt_iff_lt]; omega
    have hd1 : s.ns.drop i = s.ns[i] :: s.ns.drop (i + 1) := List.drop_eq_getElem_cons hlt
    -- the round's end
    have nx : ∀ (w9 : AV) (us : List (TE KN)) (hw : HL) (laid : Bool) (mk : Int) (X : List (Nat × AObj)), OwnSl w9 (us.map entN).flatten us.length 4 hw → ((laid = false ∧ mk = ix ∧ us = s.ns.take (i + 1) ∧ AllBelow (s.ns.take (i + 1)) (keyN n)) ∨ (laid = true ∧ us ++ s.ns.drop (i + 1) = putE s.ns (⟨keyN n, ⟨.ofNat n, addr⟩, ix, ix⟩ : TE KN) ∧ Above (s.ns.drop (i + 1)) (keyN n))) → us.length ≤ i + 2 → WL B tab c29.nt none _ [(0, .ptr ⟨false, wp, 0⟩), (1, .int .i64 (.ofNat n)), (3, .int .u64 ix), (9, .ptr ⟨false, p9, 0⟩), (10, w9), (11, .bool laid), (12, .int .i64 (.ofNat (i + 1)))] ((p9, .row (entN (⟨keyN n, ⟨.ofNat n, addr⟩, mk, ix⟩ : TE KN))) :: (hw ++ H)) _ := fun w9 us hw laid mk X o9 hst hul => ih _ (by omega) (i + 1) w9 us hw laid mk o9 hst hul (by omega) rfl
    rcases hst with ⟨rfl, rfl, rfl, hbel⟩ | ⟨rfl, hput, hab⟩
    · obtain ⟨st1, st2, st3⟩ := laid_step (e := (⟨keyN n, ⟨.ofNat n, addr⟩, mk, mk⟩ : TE KN)) r1 hlt hbel
      repeat' (first
        | apply WOps.nil | apply WC.seq | apply WC.reg | apply WC.skip | apply WC.block | (apply WOps.ldG; rfl; rfl; (first | exact ld0 rfl | exact ld1 rfl | exact ld2 rfl); rfl) | (apply WOps.st; rfl; rfl; (first | exact tk0 | exact tk1 | exact tk2); rfl; (first | rfl | ((repeat' (first | exact ac0 | apply ac1)) <;> (first | rfl | assumption))); rfl) | (apply WOps.bsl; rfl; (first | rfl | ((repeat' (first | exact ac0 | apply ac1)) <;> (first | rfl | assumption))); intro _) | (apply WOps.ldG; rfl; rfl; exact lA; rfl) | (apply WOps.ixSl; rfl; rfl; rfl; exact sA; exact hcm; intro ax hax) | (apply WOps.ldG; rfl; rfl; exact Ld.part hax 0 1 (by omega); rfl) | (apply WOps.ldG; rfl; rfl; exact Ld.part hax 2 1 (by omega); rfl) | (apply WOps.ldG; rfl; rfl; exact hax; rfl) | (apply WOps.cmp; rfl; rfl; rfl; rfl; intro _ _) | (apply WOps.purG; rfl; (intro _; rfl)) | (apply WC.condA; rfl; all_goals (intro hb; try subst hb)))
      · have hq := keq.1 (‹true = true ↔ cmpP BinOp.eql s.ns[i].v.node (Int.ofNat n)›.1 rfl)
        obtain ⟨f1, f2, f3⟩ := st1 hq
        refine WOps.app (n := (s.ns.take i).length) rfl rfl rfl o9 (List.perm_append_comm_assoc [_, _] hw H) (src_one Tk.head rfl) (entsN_cell _) rfl rfl (by omega) ?_
        intro v2 h2 o2
        repeat' (first
          | apply WOps.nil | apply WC.seq | apply WC.reg | apply WC.exit | (apply WOps.addN; rfl; rfl; rfl; omega) | (apply WOps.purG; rfl; (intro _; rfl)))
        refine WL.le (Sub1.cons rfl (Sub1.cons rfl (Sub1.cons rfl (Sub1.cons rfl (Sub1.cons rfl (Sub1.cons rfl (Sub1.cons rfl Sub1.nil))))))) (WL.lessP (H1 := (p9, .row (entN (⟨keyN n, ⟨.ofNat n, addr⟩, s.ns[i].mke, mk⟩ : TE KN))) :: (h2 ++ H)) (subF (by intro f; simp only [entN, List.map_cons, List.map_append, List.sum_cons, List.sum_append, List.map_nil, List.sum_nil]; omega)) (nx v2 (s.ns.take i ++ [(⟨keyN n, ⟨.ofNat n, addr⟩, s.ns[i].mke, mk⟩ : TE KN)]) h2 true s.ns[i].mke [] ?_ (.inr ⟨rfl, f2, f3⟩) (by rw [List.length_append, List.length_singleton]; omega)))
        rw [List.map_append, List.flatten_append, List.length_append]
        exact o2
      · have hq := kgt.1 (‹true = true ↔ cmpP BinOp.gtr s.ns[i].v.node (Int.ofNat n)›.1 rfl)
        obtain ⟨f1, f2, f3⟩ := st2 hq
        refine WOps.app (n := (s.ns.take i).length) rfl rfl rfl o9 (List.perm_append_comm_assoc [_, _] hw H) (src_one Tk.head rfl) (entsN_cell _) rfl rfl (by omega) ?_
        intro v2 h2 o2
        have lB : ∀ {a b : Nat × AObj}, Ld B (h2 ++ (a :: b :: H)) ⟨false, wp, 1⟩ 1 [v1] := Ld.right l1.cons.cons
        have sB : ∀ {a b : Nat × AObj}, SlIs B (h2 ++ (a :: b :: H)) v1 4 (s.ns.map entN) := SlIs.right (SlIs.cons (SlIs.cons s1))
        repeat' (first
          | apply WOps.nil | apply WC.reg | (apply WOps.bsl; rfl; (first | rfl | ((repeat' (first | exact ac0 | apply ac1)) <;> (first | rfl | assumption))); intro _) | (apply WOps.ldG; rfl; rfl; exact lB; rfl) | (apply WOps.ixSl; rfl; rfl; rfl; exact sB; exact hcm; intro ay hay) | (apply WOps.ldG; rfl; rfl; exact hay; rfl) | (apply WOps.purG; rfl; (intro _; rfl)))
        have o4 : OwnSl v2 ((s.ns.take i ++ [(⟨keyN n, ⟨.ofNat n, addr⟩, mk, mk⟩ : TE KN)]).map entN).flatten (s.ns.take i ++ [(⟨keyN n, ⟨.ofNat n, addr⟩, mk, mk⟩ : TE KN)]).length 4 h2 := by
          rw [List.map_append, List.flatten_append, List.length_append]
          exact o2
        refine WOps.app (n := (s.ns.take i ++ [(⟨keyN n, ⟨.ofNat n, addr⟩, mk, mk⟩ : TE KN)]).length) rfl rfl rfl o4 List.perm_middle.symm (src_one Tk.head rfl) (entsN_cell _) rfl rfl (by rw [List.length_append, List.length_singleton]; omega) ?_
        intro v3 h3 o3
        repeat' (first
          | apply WOps.nil | apply WC.reg | (apply WOps.addN; rfl; rfl; rfl; omega) | (apply WOps.purG; rfl; (intro _; rfl)))
        refine WL.le (Sub1.cons rfl (Sub1.cons rfl (Sub1.cons rfl (Sub1.cons rfl (Sub1.cons rfl (Sub1.cons rfl (Sub1.cons rfl Sub1.nil))))))) (WL.lessP (H1 := (p9, .row (entN (⟨keyN n, ⟨.ofNat n, addr⟩, mk, mk⟩ : TE KN))) :: (h3 ++ H)) (subF (by intro f; simp only [entN, List.map_cons, List.map_append, List.sum_cons, List.sum_append, List.map_nil, List.sum_nil]; omega)) (nx v3 (s.ns.take i ++ [(⟨keyN n, ⟨.ofNat n, addr⟩, mk, mk⟩ : TE KN)] ++ [s.ns[i]]) h3 true mk [] ?_ (.inr ⟨rfl, f2, f3⟩) (by simp only [List.length_append, List.length_take, List.length_cons, List.length_nil]; omega)))
        rw [List.map_append, List.flatten_append, List.length_append]
        exact o3
      · have hq1 := eq_of_ff ‹false = true ↔ cmpP BinOp.eql s.ns[i].v.node (Int.ofNat n)›
        have hq2 := eq_of_ff ‹false = true ↔ cmpP BinOp.gtr s.ns[i].v.node (Int.ofNat n)›
        have f := st3 (fun h => hq1 (keq.2 h)) (fun h => hq2 (kgt.2 h))
        refine WOps.app (n := (s.ns.take i).length) rfl rfl rfl o9 (List.perm_append_comm_assoc [_, _] hw H) (src_one Tk.head rfl) (entsN_cell _) rfl rfl (by omega) ?_
        intro v2 h2 o2
        repeat' (first
          | apply WOps.nil | apply WC.reg | (apply WOps.addN; rfl; rfl; rfl; omega) | (apply WOps.purG; rfl; (intro _; rfl)))
        refine WL.le (Sub1.cons rfl (Sub1.cons rfl (Sub1.cons rfl (Sub1.cons rfl (Sub1.cons rfl (Sub1.cons rfl (Sub1.cons rfl Sub1.nil))))))) (WL.lessP (H1 := (p9, .row (entN (⟨keyN n, ⟨.ofNat n, addr⟩, mk, mk⟩ : TE KN))) :: (h2 ++ H)) (subF (by intro f; simp only [entN, List.map_cons, List.map_append, List.sum_cons, List.sum_append, List.map_nil, List.sum_nil]; omega)) (nx v2 (s.ns.take i ++ [s.ns[i]]) h2 false mk [] ?_ (.inl ⟨rfl, rfl, (List.take_succ_eq_append_getElem hlt).symm, f⟩) (by rw [List.length_append, List.length_singleton]; omega)))
        rw [List.map_append, List.flatten_append, List.length_append]
        exact o2
    · repeat' (first
        | apply WOps.nil | apply WC.seq | apply WC.reg | apply WC.skip | (apply WC.condF; rfl) | apply WC.block | (apply WOps.ldG; rfl; rfl; (first | exact ld0 rfl | exact ld1 rfl | exact ld2 rfl); rfl) | (apply WOps.st; rfl; rfl; (first | exact tk0 | exact tk1 | exact tk2); rfl; (first | rfl | ((repeat' (first | exact ac0 | apply ac1)) <;> (first | rfl | assumption))); rfl) | (apply WOps.bsl; rfl; (first | rfl | ((repeat' (first | exact ac0 | apply ac1)) <;> (first | rfl | assumption))); intro _) | (apply WOps.ldG; rfl; rfl; exact lA; rfl) | (apply WOps.ixSl; rfl; rfl; rfl; exact sA; exact hcm; intro ax hax) | (apply WOps.ldG; rfl; rfl; exact Ld.part hax 0 1 (by omega); rfl) | (apply WOps.ldG; rfl; rfl; exact Ld.part hax 2 1 (by omega); rfl) | (apply WOps.ldG; rfl; rfl; exact hax; rfl) | (apply WOps.cmp; rfl; rfl; rfl; rfl; intro _ _) | (apply WOps.purG; rfl; (intro _; rfl)) | (apply WOps.skp; rfl) | (apply WC.condA; rfl; all_goals (intro hb; try subst hb)))
      · exfalso
        have hq := keq.1 (‹true = true ↔ cmpP BinOp.eql s.ns[i].v.node (Int.ofNat n)›.1 rfl)
        exact less_ne (hab s.ns[i] (by rw [hd1]; exact List.mem_cons_self)) hq.symm
      · refine WOps.app (n := us.length) rfl rfl rfl o9 (List.perm_append_comm_assoc [_, _] hw H) (src_one Tk.head rfl) (entsN_cell _) rfl rfl (by omega) ?_
        intro v2 h2 o2
        repeat' (first
          | apply WOps.nil | apply WC.reg | (apply WOps.addN; rfl; rfl; rfl; omega) | (apply WOps.purG; rfl; (intro _; rfl)))
        refine WL.le (Sub1.cons rfl (Sub1.cons rfl (Sub1.cons rfl (Sub1.cons rfl (Sub1.cons rfl (Sub1.cons rfl (Sub1.cons rfl Sub1.nil))))))) (WL.lessP (H1 := (p9, .row (entN (⟨keyN n, ⟨.ofNat n, addr⟩, mk, ix⟩ : TE KN))) :: (h2 ++ H)) (subF (by intro f; simp only [entN, List.map_cons, List.map_append, List.sum_cons, List.sum_append, List.map_nil, List.sum_nil]; omega)) (nx v2 (us ++ [s.ns[i]]) h2 true mk [] ?_ (.inr ⟨rfl, by rw [← hput, hd1, List.append_assoc]; rfl, fun x hx => hab x (by rw [hd1]; exact List.mem_cons_of_mem _ hx)⟩) (by rw [List.length_append, List.length_singleton]; omega)))
        rw [List.map_append, List.flatten_append, List.length_append]
        exact o2
  · have hge : i = s.ns.length := by
      have h0 := eq_of_ff ‹false = true ↔ cmpP BinOp.lss (Int.ofNat i) (Int.ofNat s.ns.length)›
      simp [cmpP] at h0; omega
    subst hge
    have fin : ∀ (v' : AV) (us' : List (TE KN)) (h' X : HL), us' = putE s.ns (⟨keyN n, ⟨.ofNat n, addr⟩, ix, ix⟩ : TE KN) → OwnSl v' (us'.map entN).flatten us'.length 4 h' → SubP ((wp, .row (refC M v' v2 v3 { s with l1 := maxI s.l1 ix })) :: (h' ++ (h2 ++ (h3 ++ R)))) X →
        ∃ H3, (AV.int IntKind.i64 (Int.ofNat 0) = .int .i64 (.ofNat 0) ∧ RefAt B H3 wp M { s with ns := putE s.ns (⟨keyN n, ⟨.ofNat n, addr⟩, ix, ix⟩ : TE KN), l1 := maxI s.l1 ix } R) ∧ SubP H3 X := fun v' us' h' X e o p => by
      subst e
      exact ⟨_, ⟨rfl, ps, v', v2, v3, h', h2, h3, e1, hp, o, o2, o3, List.Perm.refl _⟩, p⟩
    have pH : ((p9, .row (entN (⟨keyN n, ⟨.ofNat n, addr⟩, mk, ix⟩ : TE KN))) :: (hw ++ H)).Perm ((wp, .row (refC M v1 v2 v3 s)) :: (p9, .row (entN (⟨keyN n, ⟨.ofNat n, addr⟩, mk, ix⟩ : TE KN))) :: (hw ++ (h1 ++ (h2 ++ (h3 ++ R))))) := by
      refine permF ?_
      intro f
      have := sum_perm q f
      simp only [List.map_cons, List.map_append, List.sum_cons, List.sum_append] at this ⊢
      omega
    refine WC.perm pH ?_
    rcases hst with ⟨rfl, rfl, rfl, hbel⟩ | ⟨rfl, hput, hab⟩
    · repeat' (first
        | apply WOps.nil | apply WC.seq | apply WC.reg | (apply WC.condT; rfl) | (apply WOps.ldG; rfl; rfl; (first | exact ld0 rfl | exact ld1 rfl | exact ld2 rfl); rfl) | (apply WOps.bsl; rfl; (first | rfl | ((repeat' (first | exact ac0 | apply ac1)) <;> (first | rfl | assumption))); intro _) | (apply WOps.purG; rfl; (intro _; rfl)))
      refine WOps.app (n := (s.ns.take s.ns.length).length) rfl rfl rfl o9 (List.perm_append_comm_assoc [_, _, _] hw _) (src_one Tk.head rfl) (entsN_cell _) rfl rfl (by omega) ?_
      intro v4 h4 o4
      have o5 : OwnSl v4 ((s.ns ++ [(⟨keyN n, ⟨.ofNat n, addr⟩, mk, mk⟩ : TE KN)]).map entN).flatten (s.ns ++ [(⟨keyN n, ⟨.ofNat n, addr⟩, mk, mk⟩ : TE KN)]).length 4 h4 := by
        rw [List.map_append, List.flatten_append, List.length_append]
        rw [List.take_length] at o4
        exact o4
      repeat' (first
        | apply WOps.nil | apply WC.seq | apply WC.reg | (apply WOps.purG; rfl; (intro _; rfl)))
      refine WOps.st (cs := refC M v1 v2 v3 s) (cs' := refC M v4 v2 v3 s) rfl rfl perm_back2 (by rw [o5.cells]; rfl) (by rw [o5.cells]; exact allCell_cons o5.cell allCell_nil) (by rw [o5.cells]; rfl) ?_
      repeat' (first
        | apply WOps.nil | apply WC.seq | apply WC.reg | apply WC.ret | (apply WOps.clA; rfl; rfl; exact raise54_0 (s := s) o5.cell c2 c3; rintro _ _ rfl) | (apply WOps.purG; rfl; (intro _; rfl)))
      rw [List.take_length] at hbel
      have hpe : s.ns ++ [(⟨keyN n, ⟨.ofNat n, addr⟩, mk, mk⟩ : TE KN)] = putE s.ns (⟨keyN n, ⟨.ofNat n, addr⟩, mk, mk⟩ : TE KN) := by
        have := put_below (Bs := []) (e := (⟨keyN n, ⟨.ofNat n, addr⟩, mk, mk⟩ : TE KN)) hbel
        rw [List.append_nil] at this
        rw [this]; rfl
      exact ⟨trivial, [_], ⟨_, [], rfl, rfl, rfl⟩, fin v4 _ h4 _ hpe o5 (subF (by intro f; simp only [AV.cells, List.append_eq, List.map_cons, List.map_nil, List.sum_nil, List.map_append, List.sum_cons, List.sum_append, List.cons_append, List.nil_append, List.append_assoc, List.append_nil]; omega))⟩
    · repeat' (first
        | apply WOps.nil | apply WC.seq | apply WC.reg | apply WC.skip | (apply WC.condF; rfl) | (apply WOps.purG; rfl; (intro _; rfl)))
      refine WOps.st (cs := refC M v1 v2 v3 s) (cs' := refC M w9 v2 v3 s) rfl rfl Tk.head (by rw [o9.cells]; rfl) (by rw [o9.cells]; exact allCell_cons o9.cell allCell_nil) (by rw [o9.cells]; rfl) ?_
      repeat' (first
        | apply WOps.nil | apply WC.seq | apply WC.reg | apply WC.ret | (apply WOps.clA; rfl; rfl; exact raise54_0 (s := s) o9.cell c2 c3; rintro _ _ rfl) | (apply WOps.purG; rfl; (intro _; rfl)))
      have hpe : us = putE s.ns (⟨keyN n, ⟨.ofNat n, addr⟩, ix, ix⟩ : TE KN) := by
        rw [List.drop_length, List.append_nil] at hput
        exact hput
      exact ⟨trivial, [_], ⟨_, [], rfl, rfl, rfl⟩, fin w9 _ hw _ hpe o9 (subF (by intro f; simp only [AV.cells, List.append_eq, List.map_cons, List.map_nil, List.sum_nil, List.map_append, List.sum_cons, List.sum_append, List.cons_append, List.nil_append, List.append_assoc, List.append_nil]; omega))⟩
end Go.Proofs.Ytgpnpcahcegadaa.RO
