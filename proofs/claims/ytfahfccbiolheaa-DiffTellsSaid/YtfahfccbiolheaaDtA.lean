/- What the functions do, shown by the logic. -/
import Derived.Test.YtfahfccbiolheaaDTTab
import Derived.Test.YtfahfccbiolheaaAbsN6
import Derived.Test.YtfahfccbiolheaaAbsN2
set_option linter.unusedSimpArgs false
set_option linter.unusedVariables false
set_option maxRecDepth 20000
namespace Go.Proofs.Ytfahfccbiolheaa.DT
open Go.Proofs.Ytfahfccbiolheaa.Abs
variable {B : Nat → List AV}
theorem rd_ld0 {t : EL} {H : HL} {x : AO} {a : AA} {v : AV} (hx : gl t x = some (.ptr a)) (hl : Ld B H a 1 [v]) : Rd B (.load false 1 x) t H v := rd_ld hx hl rfl
theorem eq_of_ff {p : Prop} (h : false = true ↔ p) : ¬ p := fun k => by have := h.2 k; cases this
/-- A service, its tags' slice aside. -/
structure Sv where
  node : Int
  id : List Nat
  name : List Nat
  tags : List (List Nat)
  port : Int
  mke : Int
  ix : Int
structure Ck where
  node : Int
  id : List Nat
  svc : List Nat
  note : List Nat
  st : Int
  mke : Int
  ix : Int
structure Cm where
  kind : Int
  node : Int
  port : Int
  st : Int
  id : List Nat
  name : List Nat
  svc : List Nat
  note : List Nat
  tags : List (List Nat)
def strC (k : List Nat) : List AV := [.str k]
def svC (s : Sv) (tv : AV) : List AV := [.int .i64 s.node, .str s.id, .str s.name, tv, .int .i64 s.port, .int .u64 s.mke, .int .u64 s.ix]
def ckC (c : Ck) : List AV := [.int .i64 c.node, .str c.id, .str c.svc, .str c.note, .int .i64 c.st, .int .u64 c.mke, .int .u64 c.ix]
def cmC (c : Cm) (tv : AV) : List AV := [.int .i64 c.kind, .int .i64 c.node, .int .i64 c.port, .int .i64 c.st, .str c.id, .str c.name, .str c.svc, .str c.note, .str [], .str [], .str [], .str [], tv, .bool false, .int .u64 (.ofNat 0), .int .u64 (.ofNat 0), .nilsl]
theorem strs_T {l : List (List Nat)} : ∀ (i : Nat) c, (l.map strC)[i]? = some c → AllT [CT.str] c := by
  intro i c h
  rw [List.getElem?_map] at h
  cases hx : l[i]? with
  | none => rw [hx] at h; cases h
  | some e => rw [hx] at h; cases h; exact ⟨_, _, rfl, ⟨_, rfl⟩, rfl⟩
theorem strs_inj {a b : List (List Nat)} : a.map strC = b.map strC ↔ a = b := by
  constructor
  · intro h
    have h2 : ∀ (a b : List (List Nat)), a.map strC = b.map strC → a = b := by
      intro a
      induction a with
      | nil => intro b h; cases b with
        | nil => rfl
        | cons _ _ => simp at h
      | cons x a ih => intro b h; cases b with
        | nil => simp at h
        | cons y b =>
          simp only [List.map_cons, List.cons.injEq, strC, AV.str.injEq, and_true] at h
          rw [h.1, ih b h.2]
    exact h2 a b h
  · rintro rfl; rfl
theorem same13_ok {H : HL} {v w : AV} {xs ys : List (List AV)} (hv : SlIs B H v 1 xs) (hw : SlIs B H w 1 ys) (tx : ∀ (i : Nat) c, xs[i]? = some c → AllT [CT.str] c) (ty : ∀ (i : Nat) c, ys[i]? = some c → AllT [CT.str] c) (lx : xs.length ≤ 9223372036854775807) :
    WF B tab (.func 16) [v, w] H fun r H' => H' = H ∧ ∃ b : Bool, r = .bool b ∧ (b = true ↔ xs = ys) := by
  refine WF.fnR g16 rfl ?_
  repeat' (first
    | apply WOps.nil | apply WC.seq | apply WC.reg | apply WC.skip | apply WC.ret | apply WC.exit | (apply WC.condT; rfl) | (apply WC.condF; rfl) | apply WC.block | apply WC.dreg | apply WD.nil | (apply WOps.ldG; rfl; rfl; (first | exact ld0 rfl | exact ld1 rfl | exact ld2 rfl); rfl) | (apply WOps.lenS; rfl; rfl; exact hv) | (apply WOps.lenS; rfl; rfl; exact hw) | (apply WOps.cmp; rfl; rfl; rfl; rfl; intro _ _) | (apply WOps.cmpT; rfl; rfl; rfl; rfl; intro _ _) | (apply WOps.purG; rfl; (intro _; rfl)) | (apply WD.load; rfl; (first | (apply at1; (first | exact rd0 rfl rfl rfl | exact rd1 rfl rfl rfl | exact rd2 rfl rfl rfl); rfl) | (apply at2; (first | exact rd0 rfl rfl rfl | exact rd1 rfl rfl rfl | exact rd2 rfl rfl rfl); repeat' (first | exact same0 | (apply same1; (first | exact rd0 rfl rfl rfl | exact rd1 rfl rfl rfl | exact rd2 rfl rfl rfl); rfl) | (apply same2; (first | exact rd0 rfl rfl rfl | exact rd1 rfl rfl rfl | exact rd2 rfl rfl rfl)))))) | (apply WD.cmp; rfl; rfl; rfl; rfl; intro _ _) | (apply WD.cmpT; rfl; rfl; rfl; rfl; intro _ _) | (apply WD.pur; rfl; (intro _; rfl)) | (apply WC.condA; rfl; all_goals (intro hb; try subst hb)))
  · rename_i h
    simp [cmpP] at h
    refine ⟨trivial, List.Sublist.refl _, [_], ⟨_, [], rfl, rfl, rfl⟩, false, rfl, ?_⟩
    simp only [Bool.false_eq_true, false_iff]
    exact fun e => h (by rw [e])
  · rename_i h
    have hl : xs.length = ys.length := by have h0 := h; simp [cmpP] at h0; omega
    refine WC.loop ?_
    obtain ⟨i, hi⟩ : ∃ i : Nat, i = 0 := ⟨0, rfl⟩
    refine WL.le (t' := [(0, v), (1, w), (5, .int .i64 (.ofNat i))]) (by subst hi; exact Sub1.cons rfl (Sub1.cons rfl (Sub1.cons rfl Sub1.nil))) ?_
    have hle : i ≤ xs.length := by omega
    have hpre : ∀ (j : Nat), j < i → xs[j]? = ys[j]? := by intro j hj; omega
    clear hi
    induction hk : xs.length - i using Nat.strongRecOn generalizing i with | _ k ih => ?_
    apply WL.step
    repeat' (first
      | apply WOps.nil | apply WC.seq | apply WC.reg | apply WC.skip | apply WC.ret | apply WC.exit | (apply WC.condT; rfl) | (apply WC.condF; rfl) | apply WC.block | apply WC.dreg | apply WD.nil | (apply WOps.ldG; rfl; rfl; (first | exact ld0 rfl | exact ld1 rfl | exact ld2 rfl); rfl) | (apply WOps.lenS; rfl; rfl; exact hv) | (apply WOps.lenS; rfl; rfl; exact hw) | (apply WOps.cmp; rfl; rfl; rfl; rfl; intro _ _) | (apply WOps.cmpT; rfl; rfl; rfl; rfl; intro _ _) | (apply WOps.purG; rfl; (intro _; rfl)) | (apply WD.load; rfl; (first | (apply at1; (first | exact rd0 rfl rfl rfl | exact rd1 rfl rfl rfl | exact rd2 rfl rfl rfl); rfl) | (apply at2; (first | exact rd0 rfl rfl rfl | exact rd1 rfl rfl rfl | exact rd2 rfl rfl rfl); repeat' (first | exact same0 | (apply same1; (first | exact rd0 rfl rfl rfl | exact rd1 rfl rfl rfl | exact rd2 rfl rfl rfl); rfl) | (apply same2; (first | exact rd0 rfl rfl rfl | exact rd1 rfl rfl rfl | exact rd2 rfl rfl rfl)))))) | (apply WD.cmp; rfl; rfl; rfl; rfl; intro _ _) | (apply WD.cmpT; rfl; rfl; rfl; rfl; intro _ _) | (apply WD.pur; rfl; (intro _; rfl)) | (apply WC.condA; rfl; all_goals (intro hb; try subst hb)))
    · rename_i hlt
      have hlt : i < xs.length := by have h0 := hlt; simp [cmpP] at h0; omega
      obtain ⟨c, hc⟩ : ∃ c, xs[i]? = some c := ⟨xs[i], List.getElem?_eq_getElem hlt⟩
      obtain ⟨d, hd⟩ : ∃ d, ys[i]? = some d := ⟨ys[i]'(by omega), List.getElem?_eq_getElem _⟩
      obtain ⟨_, _, rfl, ⟨s1, rfl⟩, rfl⟩ := tx i c hc
      obtain ⟨_, _, rfl, ⟨s2, rfl⟩, rfl⟩ := ty i d hd
      repeat' (first
        | apply WOps.nil | apply WC.seq | apply WC.reg | apply WC.skip | apply WC.ret | apply WC.exit | (apply WC.condT; rfl) | (apply WC.condF; rfl) | apply WC.block | apply WC.dreg | apply WD.nil | (apply WOps.ldG; rfl; rfl; (first | exact ld0 rfl | exact ld1 rfl | exact ld2 rfl); rfl) | (apply WD.ixSl; rfl; rfl; rfl; exact hv; exact hc; intro a1 l1) | (apply WD.ixSl; rfl; rfl; rfl; exact hw; exact hd; intro a2 l2) | (apply WD.load; rfl; (first | (apply at1; exact rd_ld rfl (l1 _ hv) rfl; rfl) | (apply at2; exact rd_ld rfl (l1 _ hv) rfl; repeat' (first | exact same0 | (apply same1; exact rd_ld rfl (l1 _ hv) rfl; rfl) | (apply same2; exact rd_ld rfl (l1 _ hv) rfl))))) | (apply WD.load; rfl; (first | (apply at1; exact rd_ld rfl (l2 _ hw) rfl; rfl) | (apply at2; exact rd_ld rfl (l2 _ hw) rfl; repeat' (first | exact same0 | (apply same1; exact rd_ld rfl (l2 _ hw) rfl; rfl) | (apply same2; exact rd_ld rfl (l2 _ hw) rfl))))) | (apply WOps.addN; rfl; rfl; rfl; omega) | (apply WOps.cmp; rfl; rfl; rfl; rfl; intro _ _) | (apply WOps.cmpT; rfl; rfl; rfl; rfl; intro _ _) | (apply WOps.purG; rfl; (intro _; rfl)) | (apply WD.load; rfl; (first | (apply at1; (first | exact rd0 rfl rfl rfl | exact rd1 rfl rfl rfl | exact rd2 rfl rfl rfl); rfl) | (apply at2; (first | exact rd0 rfl rfl rfl | exact rd1 rfl rfl rfl | exact rd2 rfl rfl rfl); repeat' (first | exact same0 | (apply same1; (first | exact rd0 rfl rfl rfl | exact rd1 rfl rfl rfl | exact rd2 rfl rfl rfl); rfl) | (apply same2; (first | exact rd0 rfl rfl rfl | exact rd1 rfl rfl rfl | exact rd2 rfl rfl rfl)))))) | (apply WD.cmp; rfl; rfl; rfl; rfl; intro _ _) | (apply WD.cmpT; rfl; rfl; rfl; rfl; intro _ _) | (apply WD.pur; rfl; (intro _; rfl)) | (apply WC.condA; rfl; all_goals (intro hb; try subst hb)))
      · rename_i hb
        refine ⟨trivial, List.Sublist.refl _, [_], ⟨_, [], rfl, rfl, rfl⟩, false, rfl, ?_⟩
        simp only [Bool.false_eq_true, false_iff]
        refine ne_of hc hd ?_
        simpa [cmpS] using hb
      · rename_i hb
        have hcd : xs[i]? = ys[i]? := by
          rw [hc, hd]
          simpa [cmpS] using hb
        refine WL.le (t' := [(0, v), (1, w), (5, .int .i64 (.ofNat (i + 1)))]) (Sub1.cons rfl (Sub1.cons rfl (Sub1.cons rfl Sub1.nil))) (ih _ (by omega) (i + 1) (by omega) ?_ rfl)
        intro j hj
        rcases Nat.lt_or_ge j i with h1 | h1
        · exact hpre j h1
        · obtain rfl : j = i := by omega
          exact hcd
    · rename_i hge
      have hge : xs.length ≤ i := by have h0 := hge; simp [cmpP] at h0; omega
      exact ⟨trivial, List.Sublist.refl _, [_], ⟨_, [], rfl, rfl, rfl⟩, true, rfl, by simp [ext_of hl hge hpre]⟩
theorem equal24_ok {H : HL} {v w : AV} {xs ys : List (List AV)} (hv : SlIs B H v 1 xs) (hw : SlIs B H w 1 ys) (tx : ∀ (i : Nat) c, xs[i]? = some c → AllT [CT.str] c) (ty : ∀ (i : Nat) c, ys[i]? = some c → AllT [CT.str] c) (lx : xs.length ≤ 9223372036854775807) :
    WF B tab (.func 29) [v, w] H fun r H' => H' = H ∧ ∃ b : Bool, r = .bool b ∧ (b = true ↔ xs = ys) := by
  refine WF.fnR g29 rfl ?_
  repeat' (first
    | apply WOps.nil | apply WC.seq | apply WC.reg | apply WC.skip | apply WC.ret | apply WC.exit | (apply WC.condT; rfl) | (apply WC.condF; rfl) | apply WC.block | apply WC.dreg | apply WD.nil | (apply WOps.ldG; rfl; rfl; (first | exact ld0 rfl | exact ld1 rfl | exact ld2 rfl); rfl) | (apply WOps.lenS; rfl; rfl; exact hv) | (apply WOps.lenS; rfl; rfl; exact hw) | (apply WOps.cmp; rfl; rfl; rfl; rfl; intro _ _) | (apply WOps.cmpT; rfl; rfl; rfl; rfl; intro _ _) | (apply WOps.purG; rfl; (intro _; rfl)) | (apply WD.load; rfl; (first | (apply at1; (first | exact rd0 rfl rfl rfl | exact rd1 rfl rfl rfl | exact rd2 rfl rfl rfl); rfl) | (apply at2; (first | exact rd0 rfl rfl rfl | exact rd1 rfl rfl rfl | exact rd2 rfl rfl rfl); repeat' (first | exact same0 | (apply same1; (first | exact rd0 rfl rfl rfl | exact rd1 rfl rfl rfl | exact rd2 rfl rfl rfl); rfl) | (apply same2; (first | exact rd0 rfl rfl rfl | exact rd1 rfl rfl rfl | exact rd2 rfl rfl rfl)))))) | (apply WD.cmp; rfl; rfl; rfl; rfl; intro _ _) | (apply WD.cmpT; rfl; rfl; rfl; rfl; intro _ _) | (apply WD.pur; rfl; (intro _; rfl)) | (apply WC.condA; rfl; all_goals (intro hb; try subst hb)))
  · rename_i h
    simp [cmpP] at h
    refine ⟨trivial, List.Sublist.refl _, [_], ⟨_, [], rfl, rfl, rfl⟩, false, rfl, ?_⟩
    simp only [Bool.false_eq_true, false_iff]
    exact fun e => h (by rw [e])
  · rename_i h
    have hl : xs.length = ys.length := by have h0 := h; simp [cmpP] at h0; omega
    refine WC.loop ?_
    obtain ⟨i, hi⟩ : ∃ i : Nat, i = 0 := ⟨0, rfl⟩
    refine WL.le (t' := [(0, v), (1, w), (12, .int .i64 (.ofNat xs.length)), (13, .int .i64 (.ofNat i))]) (by subst hi; exact Sub1.cons rfl (Sub1.cons rfl (Sub1.cons rfl (Sub1.cons rfl Sub1.nil)))) ?_
    have hle : i ≤ xs.length := by omega
    have hpre : ∀ (j : Nat), j < i → xs[j]? = ys[j]? := by intro j hj; omega
    clear hi
    induction hk : xs.length - i using Nat.strongRecOn generalizing i with | _ k ih => ?_
    apply WL.step
    repeat' (first
      | apply WOps.nil | apply WC.seq | apply WC.reg | apply WC.skip | apply WC.ret | apply WC.exit | (apply WC.condT; rfl) | (apply WC.condF; rfl) | apply WC.block | apply WC.dreg | apply WD.nil | (apply WOps.ldG; rfl; rfl; (first | exact ld0 rfl | exact ld1 rfl | exact ld2 rfl); rfl) | (apply WOps.lenS; rfl; rfl; exact hv) | (apply WOps.lenS; rfl; rfl; exact hw) | (apply WOps.cmp; rfl; rfl; rfl; rfl; intro _ _) | (apply WOps.cmpT; rfl; rfl; rfl; rfl; intro _ _) | (apply WOps.purG; rfl; (intro _; rfl)) | (apply WD.load; rfl; (first | (apply at1; (first | exact rd0 rfl rfl rfl | exact rd1 rfl rfl rfl | exact rd2 rfl rfl rfl); rfl) | (apply at2; (first | exact rd0 rfl rfl rfl | exact rd1 rfl rfl rfl | exact rd2 rfl rfl rfl); repeat' (first | exact same0 | (apply same1; (first | exact rd0 rfl rfl rfl | exact rd1 rfl rfl rfl | exact rd2 rfl rfl rfl); rfl) | (apply same2; (first | exact rd0 rfl rfl rfl | exact rd1 rfl rfl rfl | exact rd2 rfl rfl rfl)))))) | (apply WD.cmp; rfl; rfl; rfl; rfl; intro _ _) | (apply WD.cmpT; rfl; rfl; rfl; rfl; intro _ _) | (apply WD.pur; rfl; (intro _; rfl)) | (apply WC.condA; rfl; all_goals (intro hb; try subst hb)))
    · rename_i hlt
      have hlt : i < xs.length := by have h0 := hlt; simp [cmpP] at h0; omega
      obtain ⟨c, hc⟩ : ∃ c, xs[i]? = some c := ⟨xs[i], List.getElem?_eq_getElem hlt⟩
      obtain ⟨d, hd⟩ : ∃ d, ys[i]? = some d := ⟨ys[i]'(by omega), List.getElem?_eq_getElem _⟩
      obtain ⟨_, _, rfl, ⟨s1, rfl⟩, rfl⟩ := tx i c hc
      obtain ⟨_, _, rfl, ⟨s2, rfl⟩, rfl⟩ := ty i d hd
      repeat' (first
        | apply WOps.nil | apply WC.seq | apply WC.reg | apply WC.skip | apply WC.ret | apply WC.exit | (apply WC.condT; rfl) | (apply WC.condF; rfl) | apply WC.block | apply WC.dreg | apply WD.nil | (apply WOps.ldG; rfl; rfl; (first | exact ld0 rfl | exact ld1 rfl | exact ld2 rfl); rfl) | (apply WD.ixSl; rfl; rfl; rfl; exact hv; exact hc; intro a1 l1) | (apply WD.ixSl; rfl; rfl; rfl; exact hw; exact hd; intro a2 l2) | (apply WD.load; rfl; (first | (apply at1; exact rd_ld rfl (l1 _ hv) rfl; rfl) | (apply at2; exact rd_ld rfl (l1 _ hv) rfl; repeat' (first | exact same0 | (apply same1; exact rd_ld rfl (l1 _ hv) rfl; rfl) | (apply same2; exact rd_ld rfl (l1 _ hv) rfl))))) | (apply WD.load; rfl; (first | (apply at1; exact rd_ld rfl (l2 _ hw) rfl; rfl) | (apply at2; exact rd_ld rfl (l2 _ hw) rfl; repeat' (first | exact same0 | (apply same1; exact rd_ld rfl (l2 _ hw) rfl; rfl) | (apply same2; exact rd_ld rfl (l2 _ hw) rfl))))) | (apply WOps.addN; rfl; rfl; rfl; omega) | (apply WOps.cmp; rfl; rfl; rfl; rfl; intro _ _) | (apply WOps.cmpT; rfl; rfl; rfl; rfl; intro _ _) | (apply WOps.purG; rfl; (intro _; rfl)) | (apply WD.load; rfl; (first | (apply at1; (first | exact rd0 rfl rfl rfl | exact rd1 rfl rfl rfl | exact rd2 rfl rfl rfl); rfl) | (apply at2; (first | exact rd0 rfl rfl rfl | exact rd1 rfl rfl rfl | exact rd2 rfl rfl rfl); repeat' (first | exact same0 | (apply same1; (first | exact rd0 rfl rfl rfl | exact rd1 rfl rfl rfl | exact rd2 rfl rfl rfl); rfl) | (apply same2; (first | exact rd0 rfl rfl rfl | exact rd1 rfl rfl rfl | exact rd2 rfl rfl rfl)))))) | (apply WD.cmp; rfl; rfl; rfl; rfl; intro _ _) | (apply WD.cmpT; rfl; rfl; rfl; rfl; intro _ _) | (apply WD.pur; rfl; (intro _; rfl)) | (apply WC.condA; rfl; all_goals (intro hb; try subst hb)))
      · rename_i hb
        refine ⟨trivial, List.Sublist.refl _, [_], ⟨_, [], rfl, rfl, rfl⟩, false, rfl, ?_⟩
        simp only [Bool.false_eq_true, false_iff]
        refine ne_of hc hd ?_
        simpa [cmpS] using hb
      · rename_i hb
        have hcd : xs[i]? = ys[i]? := by
          rw [hc, hd]
          simpa [cmpS] using hb
        refine WL.le (t' := [(0, v), (1, w), (12, .int .i64 (.ofNat xs.length)), (13, .int .i64 (.ofNat (i + 1)))]) (Sub1.cons rfl (Sub1.cons rfl (Sub1.cons rfl (Sub1.cons rfl Sub1.nil)))) (ih _ (by omega) (i + 1) (by omega) ?_ rfl)
        intro j hj
        rcases Nat.lt_or_ge j i with h1 | h1
        · exact hpre j h1
        · obtain rfl : j = i := by omega
          exact hcd
    · rename_i hge
      have hge : xs.length ≤ i := by have h0 := hge; simp [cmpP] at h0; omega
      exact ⟨trivial, List.Sublist.refl _, [_], ⟨_, [], rfl, rfl, rfl⟩, true, rfl, by simp [ext_of hl hge hpre]⟩

theorem id22_ok {H : HL} {s : Sv} {tv : AV} (hc : tv.isCell = true) : WF B tab (.func 27) [.agg (svC s tv)] H fun r H' => H' = H ∧ r = .str s.id := by
  refine WF.fnR g27 rfl ?_
  repeat' (first
    | apply WOps.nil | apply WC.seq | apply WC.reg | apply WC.skip | apply WC.ret | (apply WOps.ldG; rfl; rfl; (first | exact ld0 rfl | exact ld1 rfl | exact ld2 rfl); rfl) | (apply WOps.bx; rfl; rfl; (first | rfl | ((repeat' (first | exact ac0 | apply ac1)) <;> (first | rfl | assumption))); intro _) | (apply WOps.purG; rfl; (intro _; rfl)))
  exact ⟨trivial, List.sublist_cons_self _ _, [_], ⟨_, [], rfl, rfl, rfl⟩, rfl⟩
theorem id28_ok {H : HL} {c : Ck} : WF B tab (.func 33) [.agg (ckC c)] H fun r H' => H' = H ∧ r = .str c.id := by
  refine WF.fnR g33 rfl ?_
  repeat' (first
    | apply WOps.nil | apply WC.seq | apply WC.reg | apply WC.skip | apply WC.ret | (apply WOps.ldG; rfl; rfl; (first | exact ld0 rfl | exact ld1 rfl | exact ld2 rfl); rfl) | (apply WOps.bx; rfl; rfl; (first | rfl | ((repeat' (first | exact ac0 | apply ac1)) <;> (first | rfl | assumption))); intro _) | (apply WOps.purG; rfl; (intro _; rfl)))
  exact ⟨trivial, List.sublist_cons_self _ _, [_], ⟨_, [], rfl, rfl, rfl⟩, rfl⟩
theorem same29_ok {H : HL} {a b : Ck} : WF B tab (.func 34) [.agg (ckC a), .agg (ckC b)] H fun r H' => H' = H ∧ ∃ v : Bool, r = .bool v ∧ (v = true ↔ a.svc = b.svc ∧ a.note = b.note ∧ a.st = b.st) := by
  refine WF.fnR g34 rfl ?_
  repeat' (first
    | apply WOps.nil | apply WC.seq | apply WC.reg | apply WC.skip | apply WC.ret | (apply WOps.ldG; rfl; rfl; (first | exact ld0 rfl | exact ld1 rfl | exact ld2 rfl); rfl) | (apply WOps.bx; rfl; rfl; (first | rfl | ((repeat' (first | exact ac0 | apply ac1)) <;> (first | rfl | assumption))); intro _) | (apply WOps.cmp; rfl; rfl; rfl; rfl; intro _ _) | (apply WOps.cmpT; rfl; rfl; rfl; rfl; intro _ _) | (apply WOps.purG; rfl; (intro _; rfl)) | (apply WOps.skp; rfl) | (apply WOps.ask; rfl; all_goals (intro hb; first | subst hb | fail_if_success (cases hb))))
  all_goals refine ⟨trivial, .cons _ (.cons _ (List.Sublist.refl _)), [_], ⟨_, [], rfl, rfl, rfl⟩, _, rfl, ?_⟩
  all_goals simp only [cmpS, cmpP, true_iff, Bool.false_eq_true, false_iff] at *
  all_goals simp_all
theorem same23_ok {H : HL} {a b : Sv} {ta tb : AV} (ha : SlIs B H ta 1 (a.tags.map strC)) (hb : SlIs B H tb 1 (b.tags.map strC)) (hl : a.tags.length ≤ 9223372036854775807) : WF B tab (.func 28) [.agg (svC a ta), .agg (svC b tb)] H fun r H' => H' = H ∧ ∃ v : Bool, r = .bool v ∧ (v = true ↔ a.name = b.name ∧ a.tags = b.tags ∧ a.port = b.port) := by
  refine WF.fnR g28 rfl ?_
  have ca := ha.cell
  have cb := hb.cell
  repeat' (first
    | apply WOps.nil | apply WC.seq | apply WC.reg | apply WC.skip | apply WC.ret | (apply WOps.ldG; rfl; rfl; (first | exact ld0 rfl | exact ld1 rfl | exact ld2 rfl); rfl) | (apply WOps.bx; rfl; rfl; (first | rfl | ((repeat' (first | exact ac0 | apply ac1)) <;> (first | rfl | assumption))); intro _) | (apply WOps.clR; rfl; rfl; exact equal24_ok ha.cons.cons hb.cons.cons strs_T strs_T (by simpa using hl); rintro _ ⟨v, rfl, hv⟩; rw [strs_inj] at hv) | (apply WOps.cmp; rfl; rfl; rfl; rfl; intro _ _) | (apply WOps.cmpT; rfl; rfl; rfl; rfl; intro _ _) | (apply WOps.purG; rfl; (intro _; rfl)) | (apply WOps.skp; rfl) | (apply WOps.ask; rfl; all_goals (intro hb; first | subst hb | fail_if_success (cases hb))))
  all_goals refine ⟨trivial, .cons _ (.cons _ (List.Sublist.refl _)), [_], ⟨_, [], rfl, rfl, rfl⟩, _, rfl, ?_⟩
  all_goals simp only [cmpS, cmpP, true_iff, Bool.false_eq_true, false_iff] at *
  all_goals simp_all
theorem drop25_ok {H : HL} {c : Nat} {node : Int} {id : List Nat} (h : Ld B H ⟨false, c, 0⟩ 1 [.int .i64 node]) : WF B tab (.func 30) [.str id, .ptr ⟨false, c, 0⟩] H fun r H' => H' = H ∧ r = .agg (cmC ⟨Int.ofNat 4, node, Int.ofNat 0, Int.ofNat 0, id, [], [], [], []⟩ .nilsl) := by
  refine WF.fnR g30 rfl ?_
  repeat' (first
    | apply WOps.nil | apply WC.seq | apply WC.reg | apply WC.skip | apply WC.ret | (apply WOps.ldG; rfl; rfl; (first | exact ld0 rfl | exact ld1 rfl | exact ld2 rfl); rfl) | (apply WOps.st; rfl; rfl; (first | exact tk0 | exact tk1 | exact tk2); rfl; (first | rfl | ((repeat' (first | exact ac0 | apply ac1)) <;> (first | rfl | assumption))); rfl) | (apply WOps.alc; rfl; intro _) | (apply WOps.ldG; rfl; rfl; exact h.cons; rfl) | (apply WOps.purG; rfl; (intro _; rfl)))
  exact ⟨trivial, List.sublist_cons_self _ _, [_], ⟨_, _, rfl, ⟨_, _, rfl, ld0 rfl, rfl⟩, rfl⟩, rfl⟩
theorem drop30_ok {H : HL} {c : Nat} {node : Int} {id : List Nat} (h : Ld B H ⟨false, c, 0⟩ 1 [.int .i64 node]) : WF B tab (.func 35) [.str id, .ptr ⟨false, c, 0⟩] H fun r H' => H' = H ∧ r = .agg (cmC ⟨Int.ofNat 6, node, Int.ofNat 0, Int.ofNat 0, id, [], [], [], []⟩ .nilsl) := by
  refine WF.fnR g35 rfl ?_
  repeat' (first
    | apply WOps.nil | apply WC.seq | apply WC.reg | apply WC.skip | apply WC.ret | (apply WOps.ldG; rfl; rfl; (first | exact ld0 rfl | exact ld1 rfl | exact ld2 rfl); rfl) | (apply WOps.st; rfl; rfl; (first | exact tk0 | exact tk1 | exact tk2); rfl; (first | rfl | ((repeat' (first | exact ac0 | apply ac1)) <;> (first | rfl | assumption))); rfl) | (apply WOps.alc; rfl; intro _) | (apply WOps.ldG; rfl; rfl; exact h.cons; rfl) | (apply WOps.purG; rfl; (intro _; rfl)))
  exact ⟨trivial, List.sublist_cons_self _ _, [_], ⟨_, _, rfl, ⟨_, _, rfl, ld0 rfl, rfl⟩, rfl⟩, rfl⟩
theorem lay31_ok {H : HL} {p : Nat} {node : Int} {c : Ck} (h : Ld B H ⟨false, p, 0⟩ 1 [.int .i64 node]) : WF B tab (.func 36) [.agg (ckC c), .ptr ⟨false, p, 0⟩] H fun r H' => H' = H ∧ r = .agg (cmC ⟨Int.ofNat 5, node, Int.ofNat 0, c.st, c.id, [], c.svc, c.note, []⟩ .nilsl) := by
  refine WF.fnR g36 rfl ?_
  repeat' (first
    | apply WOps.nil | apply WC.seq | apply WC.reg | apply WC.skip | apply WC.ret | (apply WOps.ldG; rfl; rfl; (first | exact ld0 rfl | exact ld1 rfl | exact ld2 rfl); rfl) | (apply WOps.st; rfl; rfl; (first | exact tk0 | exact tk1 | exact tk2); rfl; (first | rfl | ((repeat' (first | exact ac0 | apply ac1)) <;> (first | rfl | assumption))); rfl) | (apply WOps.alc; rfl; intro _) | (apply WOps.bx; rfl; rfl; (first | rfl | ((repeat' (first | exact ac0 | apply ac1)) <;> (first | rfl | assumption))); intro _) | (apply WOps.ldG; rfl; rfl; exact h.cons.cons; rfl) | (apply WOps.purG; rfl; (intro _; rfl)))
  exact ⟨trivial, .cons _ (.cons _ (List.Sublist.refl _)), [_], ⟨_, _, rfl, ⟨_, _, rfl, ld0 rfl, rfl⟩, rfl⟩, rfl⟩
theorem WD.cvR {T : Tr FnI} {t : EL} {H : HL} {HH : List (Nat × HL)} {Q : EL → HL → Prop} {os : List DOper} {k : Nat} {g : Option (Nat × Bool)} {i bs : Nat} {x : AO} {f : Nat} {first cap : List AV} {args : List AO} {vs : List AV} {P : AV → Prop} (hg : wantedL g t = some true) (hx : gl t x = some (.fn (.func f) first cap)) (ha : gls t args = some vs) (f1 : WF B T (.func f) (first ++ (vs ++ cap)) H fun v H' => H' = H ∧ P v)
    (w : ∀ v, P v → WD B T os ((k, v) :: t) H ((i, H) :: HH) Q) : WD B T (⟨⟨some k, .callv x args, g⟩, .loud, i, bs⟩ :: os) t H HH Q := WD.loud hg (by
  intro env h F le s
  obtain ⟨v, h', H', ⟨rfl, p⟩, s', e⟩ := f1 h F s
  refine ⟨v, h', _, w v p, s', e.mono fun n e => ?_⟩
  simp only [evOp, rd_mono le hx, rds_mono le ha]; exact e)
theorem look_app {l : List (List Nat × AV)} {k : List Nat} {v : AV} {k2 : List Nat} (h : lookM l k2 = none) (hne : k2 ≠ k) : lookM (l ++ [(k, v)]) k2 = none := by
  induction l with
  | nil => simp [lookM, hne]
  | cons p l ih =>
    obtain ⟨a, b⟩ := p
    simp only [lookM, List.cons_append] at h ⊢
    split at h
    · cases h
    · rename_i hk
      rw [if_neg hk]; exact ih h
theorem look_none {l : List (List Nat × AV)} {k : List Nat} (h : ∀ p, p ∈ l → p.1 ≠ k) : lookM l k = none := by
  induction l with
  | nil => rfl
  | cons p l ih =>
    obtain ⟨a, b⟩ := p
    simp only [lookM]
    rw [if_neg (fun e => h (a, b) (by simp) e.symm)]
    exact ih fun q hq => h q (by simp [hq])
theorem WL.heq {T : Tr FnI} {nt : Nat} {rdn : Option Nat} {t : EL} {H H' : HL} {Q : AExit → EL → HL → Prop} {c : AC} (e : H = H') (w : WL B T nt rdn c t H' Q) : WL B T nt rdn c t H Q := e ▸ w
/-- Each text once. -/
def Once (ks : List (List Nat)) : Prop := ∀ (i j : Nat) (hi : i < ks.length) (hj : j < ks.length), i < j → ks[i] ≠ ks[j]
set_option maxHeartbeats 1000000 in
theorem known32_ok {H : HL} {v f1 f2 f3 : AV} {l : List Ck} (hv : SlIs B H v 7 (l.map fun p => ckC p))  (hl : l.length ≤ 9223372036854775807) (hc : f1.isCell = true ∧ f2.isCell = true ∧ f3.isCell = true) (h1 : f1.cells = [f1] ∧ f2.cells = [f2] ∧ f3.cells = [f3]) (ho : Once (l.map fun p => p.id))  :
    WF B tab (.func 37) [v, .agg [.fn (.func 33) [] [], f1, f2, f3]] H fun r H' => ∃ id es c, r = .map id ∧ MapIs es (l.map fun p => (p.id, .agg (ckC p))) ∧ H' = (id, .map es c) :: H := by
  refine WF.lessP ?_
  refine WF.fn g37 rfl ?_
  obtain ⟨c1, c2, c3⟩ := hc
  repeat' (first
    | apply WOps.nil | apply WC.seq | apply WC.reg | apply WC.skip | apply WC.ret | apply WC.exit | (apply WC.condT; rfl) | (apply WC.condF; rfl) | apply WC.block | apply WC.dreg | apply WD.nil | (apply WOps.ldG; rfl; rfl; (first | exact ld0 rfl | exact ld1 rfl | exact ld2 rfl); rfl) | (apply WOps.st; rfl; rfl; (first | exact tk0 | exact tk1 | exact tk2); rfl; (first | rfl | ((repeat' (first | exact ac0 | apply ac1)) <;> (first | rfl | assumption))); rfl) | (apply WOps.alc; rfl; intro _) | (apply WOps.bx; rfl; rfl; (first | rfl | ((repeat' (first | exact ac0 | apply ac1)) <;> (first | rfl | assumption))); intro _) | (apply WD.st; rfl; rfl; rfl; (first | exact tk0 | exact tk1 | exact tk2); rfl; (first | rfl | ((repeat' (first | exact ac0 | apply ac1)) <;> (first | rfl | assumption))); rfl) | (apply WD.alc; rfl; rfl; intro _) | (apply WOps.lenS; rfl; rfl; exact hv.cons.cons) | (apply WOps.mkm; rfl; intro m) | (apply WOps.cmp; rfl; rfl; rfl; rfl; intro _ _) | (apply WOps.cmpT; rfl; rfl; rfl; rfl; intro _ _) | (apply WOps.purG; rfl; (intro _; rfl)) | (apply WD.load; rfl; (first | (apply at1; (first | exact rd0 rfl rfl rfl | exact rd1 rfl rfl rfl | exact rd2 rfl rfl rfl); rfl) | (apply at2; (first | exact rd0 rfl rfl rfl | exact rd1 rfl rfl rfl | exact rd2 rfl rfl rfl); repeat' (first | exact same0 | (apply same1; (first | exact rd0 rfl rfl rfl | exact rd1 rfl rfl rfl | exact rd2 rfl rfl rfl); rfl) | (apply same2; (first | exact rd0 rfl rfl rfl | exact rd1 rfl rfl rfl | exact rd2 rfl rfl rfl)))))) | (apply WD.cmp; rfl; rfl; rfl; rfl; intro _ _) | (apply WD.cmpT; rfl; rfl; rfl; rfl; intro _ _) | (apply WD.pur; rfl; (intro _; rfl)) | (apply WC.condA; rfl; all_goals (intro hb; try subst hb)))
  rw [List.length_map]
  rename_i p3
  refine WC.loop ?_
  obtain ⟨i, hi⟩ : ∃ i : Nat, i = 0 := ⟨0, rfl⟩
  obtain ⟨es, hes⟩ : ∃ e : List (AV × AV × Nat), e = [] := ⟨_, rfl⟩
  obtain ⟨c, hcc⟩ : ∃ c : Nat, c = 0 := ⟨_, rfl⟩
  refine WL.le (t' := [(3, .ptr ⟨false, p3, 0⟩), (5, .map m), (9, v), (10, .int .i64 (.ofNat l.length)), (11, .int .i64 (.ofNat i))]) (by subst hi; exact Sub1.cons rfl (Sub1.cons rfl (Sub1.cons rfl (Sub1.cons rfl (Sub1.cons rfl Sub1.nil))))) ?_
  refine WL.heq (H' := (m, .map es c) :: (p3, .row [.fn (.func 33) [] [], f1, f2, f3]) :: H) (by rw [hes, hcc]; rfl) ?_
  have hm : MapIs es ((l.take i).map fun p => (p.id, .agg (ckC p))) := by subst hi hes; rfl
  have hle : i ≤ l.length := by omega
  clear hi hes hcc
  induction hk : l.length - i using Nat.strongRecOn generalizing i es c with | _ k ih => ?_
  apply WL.step
  repeat' (first
    | apply WOps.nil | apply WC.seq | apply WC.reg | apply WC.skip | apply WC.ret | apply WC.exit | (apply WC.condT; rfl) | (apply WC.condF; rfl) | apply WC.block | apply WC.dreg | apply WD.nil | (apply WOps.ldG; rfl; rfl; (first | exact ld0 rfl | exact ld1 rfl | exact ld2 rfl); rfl) | (apply WOps.st; rfl; rfl; (first | exact tk0 | exact tk1 | exact tk2); rfl; (first | rfl | ((repeat' (first | exact ac0 | apply ac1)) <;> (first | rfl | assumption))); rfl) | (apply WOps.alc; rfl; intro _) | (apply WOps.bx; rfl; rfl; (first | rfl | ((repeat' (first | exact ac0 | apply ac1)) <;> (first | rfl | assumption))); intro _) | (apply WD.st; rfl; rfl; rfl; (first | exact tk0 | exact tk1 | exact tk2); rfl; (first | rfl | ((repeat' (first | exact ac0 | apply ac1)) <;> (first | rfl | assumption))); rfl) | (apply WD.alc; rfl; rfl; intro _) | (apply WOps.cmp; rfl; rfl; rfl; rfl; intro _ _) | (apply WOps.cmpT; rfl; rfl; rfl; rfl; intro _ _) | (apply WOps.purG; rfl; (intro _; rfl)) | (apply WD.load; rfl; (first | (apply at1; (first | exact rd0 rfl rfl rfl | exact rd1 rfl rfl rfl | exact rd2 rfl rfl rfl); rfl) | (apply at2; (first | exact rd0 rfl rfl rfl | exact rd1 rfl rfl rfl | exact rd2 rfl rfl rfl); repeat' (first | exact same0 | (apply same1; (first | exact rd0 rfl rfl rfl | exact rd1 rfl rfl rfl | exact rd2 rfl rfl rfl); rfl) | (apply same2; (first | exact rd0 rfl rfl rfl | exact rd1 rfl rfl rfl | exact rd2 rfl rfl rfl)))))) | (apply WD.cmp; rfl; rfl; rfl; rfl; intro _ _) | (apply WD.cmpT; rfl; rfl; rfl; rfl; intro _ _) | (apply WD.pur; rfl; (intro _; rfl)) | (apply WC.condA; rfl; all_goals (intro hb; try subst hb)))
  · have hlt : i < l.length := by
      have h0 := ‹true = true ↔ cmpP BinOp.lss (Int.ofNat i) (Int.ofNat l.length)›
      simp [cmpP] at h0; omega
    obtain ⟨p, hp⟩ : ∃ p, p = l[i] := ⟨_, rfl⟩
    have hcm : (l.map fun p => ckC p)[i]? = some ((fun p => ckC p) p) := by rw [List.getElem?_map, List.getElem?_eq_getElem hlt, hp]; rfl
    simp only at hcm
    have hcell := (trivial : True)
    have hno : lookM ((l.take i).map fun p => (p.id, AV.agg (ckC p))) ((fun p => p.id) p) = none := by
      refine look_none fun q hq => ?_
      obtain ⟨x, hx, rfl⟩ := List.mem_map.1 hq
      obtain ⟨j, hj, rfl⟩ := List.getElem_of_mem hx
      rw [List.length_take] at hj
      have := ho j i (by rw [List.length_map]; omega) (by rw [List.length_map]; exact hlt) (by omega)
      simp only [List.getElem_map] at this
      simp only [List.getElem_take, hp]
      exact this
    simp only at hno
    repeat' (first
      | apply WOps.nil | apply WC.seq | apply WC.reg | apply WC.skip | apply WC.ret | apply WC.exit | (apply WC.condT; rfl) | (apply WC.condF; rfl) | apply WC.block | apply WC.dreg | apply WD.nil | (apply WOps.ldG; rfl; rfl; (first | exact ld0 rfl | exact ld1 rfl | exact ld2 rfl); rfl) | (apply WOps.st; rfl; rfl; (first | exact tk0 | exact tk1 | exact tk2); rfl; (first | rfl | ((repeat' (first | exact ac0 | apply ac1)) <;> (first | rfl | assumption))); rfl) | (apply WOps.alc; rfl; intro _) | (apply WOps.bx; rfl; rfl; (first | rfl | ((repeat' (first | exact ac0 | apply ac1)) <;> (first | rfl | assumption))); intro _) | (apply WD.st; rfl; rfl; rfl; (first | exact tk0 | exact tk1 | exact tk2); rfl; (first | rfl | ((repeat' (first | exact ac0 | apply ac1)) <;> (first | rfl | assumption))); rfl) | (apply WD.alc; rfl; rfl; intro _) | (apply WOps.ixSl; rfl; rfl; rfl; exact hv.cons.cons; exact hcm; intro ax hax) | (apply WOps.ldG; rfl; rfl; exact hax; rfl) | (apply WD.cvR; rfl; rfl; rfl; exact id28_ok; rintro _ rfl) | (apply WD.mup; rfl; rfl; rfl; rfl; exact Tk.tail Tk.head; exact hm; exact hno) | (apply WOps.addN; rfl; rfl; rfl; omega) | (apply WOps.cmp; rfl; rfl; rfl; rfl; intro _ _) | (apply WOps.cmpT; rfl; rfl; rfl; rfl; intro _ _) | (apply WOps.purG; rfl; (intro _; rfl)) | (apply WD.load; rfl; (first | (apply at1; (first | exact rd0 rfl rfl rfl | exact rd1 rfl rfl rfl | exact rd2 rfl rfl rfl); rfl) | (apply at2; (first | exact rd0 rfl rfl rfl | exact rd1 rfl rfl rfl | exact rd2 rfl rfl rfl); repeat' (first | exact same0 | (apply same1; (first | exact rd0 rfl rfl rfl | exact rd1 rfl rfl rfl | exact rd2 rfl rfl rfl); rfl) | (apply same2; (first | exact rd0 rfl rfl rfl | exact rd1 rfl rfl rfl | exact rd2 rfl rfl rfl)))))) | (apply WD.cmp; rfl; rfl; rfl; rfl; intro _ _) | (apply WD.cmpT; rfl; rfl; rfl; rfl; intro _ _) | (apply WD.pur; rfl; (intro _; rfl)) | (apply WC.condA; rfl; all_goals (intro hb; try subst hb)))
    refine WL.le (t' := [(3, .ptr ⟨false, p3, 0⟩), (5, .map m), (9, v), (10, .int .i64 (.ofNat l.length)), (11, .int .i64 (.ofNat (i + 1)))]) (Sub1.cons rfl (Sub1.cons rfl (Sub1.cons rfl (Sub1.cons rfl (Sub1.cons rfl Sub1.nil))))) ?_
    refine WL.lessP (H1 := (m, .map (es ++ [(.str p.id, .agg (ckC p), c)]) (c + 1)) :: (p3, .row [.fn (.func 33) [] [], f1, f2, f3]) :: H) (subF (by simp only [ckC]; exact (by intro f; simp only [AV.cells, List.append_eq, List.map_cons, List.map_nil, List.sum_nil, List.map_append, List.sum_cons, List.sum_append, List.cons_append, List.nil_append, List.append_assoc, List.append_nil]; omega))) ?_
    refine ih _ (by omega) (i + 1) _ _ ?_ (by omega) rfl
    rw [List.take_succ_eq_append_getElem hlt, List.map_append, ← hp]
    exact hm.snoc
  · have hge : i = l.length := by
      have h0 := eq_of_ff ‹false = true ↔ cmpP BinOp.lss (Int.ofNat i) (Int.ofNat l.length)›
      simp [cmpP] at h0; omega
    subst hge
    rw [List.take_length] at hm
    exact ⟨trivial, [_], ⟨_, [], rfl, rfl, rfl⟩, _, ⟨m, es, c, rfl, hm, rfl⟩, subF (by intro f; simp only [AV.cells, List.append_eq, List.map_cons, List.map_nil, List.sum_nil, List.map_append, List.sum_cons, List.sum_append, List.cons_append, List.nil_append, List.append_assoc, List.append_nil]; omega)⟩
set_option maxHeartbeats 1000000 in
theorem known33_ok {H : HL} {v f1 f2 f3 : AV} {l : List (Sv × AV)} (hv : SlIs B H v 7 (l.map fun p => svC p.1 p.2))  (hl : l.length ≤ 9223372036854775807) (hc : f1.isCell = true ∧ f2.isCell = true ∧ f3.isCell = true) (h1 : f1.cells = [f1] ∧ f2.cells = [f2] ∧ f3.cells = [f3]) (ho : Once (l.map fun p => p.1.id)) (htv : ∀ p, p ∈ l → p.2.isCell = true) :
    WF B tab (.func 38) [v, .agg [.fn (.func 27) [] [], f1, f2, f3]] H fun r H' => ∃ id es c, r = .map id ∧ MapIs es (l.map fun p => (p.1.id, .agg (svC p.1 p.2))) ∧ H' = (id, .map es c) :: H := by
  refine WF.lessP ?_
  refine WF.fn g38 rfl ?_
  obtain ⟨c1, c2, c3⟩ := hc
  repeat' (first
    | apply WOps.nil | apply WC.seq | apply WC.reg | apply WC.skip | apply WC.ret | apply WC.exit | (apply WC.condT; rfl) | (apply WC.condF; rfl) | apply WC.block | apply WC.dreg | apply WD.nil | (apply WOps.ldG; rfl; rfl; (first | exact ld0 rfl | exact ld1 rfl | exact ld2 rfl); rfl) | (apply WOps.st; rfl; rfl; (first | exact tk0 | exact tk1 | exact tk2); rfl; (first | rfl | ((repeat' (first | exact ac0 | apply ac1)) <;> (first | rfl | assumption))); rfl) | (apply WOps.alc; rfl; intro _) | (apply WOps.bx; rfl; rfl; (first | rfl | ((repeat' (first | exact ac0 | apply ac1)) <;> (first | rfl | assumption))); intro _) | (apply WD.st; rfl; rfl; rfl; (first | exact tk0 | exact tk1 | exact tk2); rfl; (first | rfl | ((repeat' (first | exact ac0 | apply ac1)) <;> (first | rfl | assumption))); rfl) | (apply WD.alc; rfl; rfl; intro _) | (apply WOps.lenS; rfl; rfl; exact hv.cons.cons) | (apply WOps.mkm; rfl; intro m) | (apply WOps.cmp; rfl; rfl; rfl; rfl; intro _ _) | (apply WOps.cmpT; rfl; rfl; rfl; rfl; intro _ _) | (apply WOps.purG; rfl; (intro _; rfl)) | (apply WD.load; rfl; (first | (apply at1; (first | exact rd0 rfl rfl rfl | exact rd1 rfl rfl rfl | exact rd2 rfl rfl rfl); rfl) | (apply at2; (first | exact rd0 rfl rfl rfl | exact rd1 rfl rfl rfl | exact rd2 rfl rfl rfl); repeat' (first | exact same0 | (apply same1; (first | exact rd0 rfl rfl rfl | exact rd1 rfl rfl rfl | exact rd2 rfl rfl rfl); rfl) | (apply same2; (first | exact rd0 rfl rfl rfl | exact rd1 rfl rfl rfl | exact rd2 rfl rfl rfl)))))) | (apply WD.cmp; rfl; rfl; rfl; rfl; intro _ _) | (apply WD.cmpT; rfl; rfl; rfl; rfl; intro _ _) | (apply WD.pur; rfl; (intro _; rfl)) | (apply WC.condA; rfl; all_goals (intro hb; try subst hb)))
  rw [List.length_map]
  rename_i p3
  refine WC.loop ?_
  obtain ⟨i, hi⟩ : ∃ i : Nat, i = 0 := ⟨0, rfl⟩
  obtain ⟨es, hes⟩ : ∃ e : List (AV × AV × Nat), e = [] := ⟨_, rfl⟩
  obtain ⟨c, hcc⟩ : ∃ c : Nat, c = 0 := ⟨_, rfl⟩
  refine WL.le (t' := [(3, .ptr ⟨false, p3, 0⟩), (5, .map m), (9, v), (10, .int .i64 (.ofNat l.length)), (11, .int .i64 (.ofNat i))]) (by subst hi; exact Sub1.cons rfl (Sub1.cons rfl (Sub1.cons rfl (Sub1.cons rfl (Sub1.cons rfl Sub1.nil))))) ?_
  refine WL.heq (H' := (m, .map es c) :: (p3, .row [.fn (.func 27) [] [], f1, f2, f3]) :: H) (by rw [hes, hcc]; rfl) ?_
  have hm : MapIs es ((l.take i).map fun p => (p.1.id, .agg (svC p.1 p.2))) := by subst hi hes; rfl
  have hle : i ≤ l.length := by omega
  clear hi hes hcc
  induction hk : l.length - i using Nat.strongRecOn generalizing i es c with | _ k ih => ?_
  apply WL.step
  repeat' (first
    | apply WOps.nil | apply WC.seq | apply WC.reg | apply WC.skip | apply WC.ret | apply WC.exit | (apply WC.condT; rfl) | (apply WC.condF; rfl) | apply WC.block | apply WC.dreg | apply WD.nil | (apply WOps.ldG; rfl; rfl; (first | exact ld0 rfl | exact ld1 rfl | exact ld2 rfl); rfl) | (apply WOps.st; rfl; rfl; (first | exact tk0 | exact tk1 | exact tk2); rfl; (first | rfl | ((repeat' (first | exact ac0 | apply ac1)) <;> (first | rfl | assumption))); rfl) | (apply WOps.alc; rfl; intro _) | (apply WOps.bx; rfl; rfl; (first | rfl | ((repeat' (first | exact ac0 | apply ac1)) <;> (first | rfl | assumption))); intro _) | (apply WD.st; rfl; rfl; rfl; (first | exact tk0 | exact tk1 | exact tk2); rfl; (first | rfl | ((repeat' (first | exact ac0 | apply ac1)) <;> (first | rfl | assumption))); rfl) | (apply WD.alc; rfl; rfl; intro _) | (apply WOps.cmp; rfl; rfl; rfl; rfl; intro _ _) | (apply WOps.cmpT; rfl; rfl; rfl; rfl; intro _ _) | (apply WOps.purG; rfl; (intro _; rfl)) | (apply WD.load; rfl; (first | (apply at1; (first | exact rd0 rfl rfl rfl | exact rd1 rfl rfl rfl | exact rd2 rfl rfl rfl); rfl) | (apply at2; (first | exact rd0 rfl rfl rfl | exact rd1 rfl rfl rfl | exact rd2 rfl rfl rfl); repeat' (first | exact same0 | (apply same1; (first | exact rd0 rfl rfl rfl | exact rd1 rfl rfl rfl | exact rd2 rfl rfl rfl); rfl) | (apply same2; (first | exact rd0 rfl rfl rfl | exact rd1 rfl rfl rfl | exact rd2 rfl rfl rfl)))))) | (apply WD.cmp; rfl; rfl; rfl; rfl; intro _ _) | (apply WD.cmpT; rfl; rfl; rfl; rfl; intro _ _) | (apply WD.pur; rfl; (intro _; rfl)) | (apply WC.condA; rfl; all_goals (intro hb; try subst hb)))
  · have hlt : i < l.length := by
      have h0 := ‹true = true ↔ cmpP BinOp.lss (Int.ofNat i) (Int.ofNat l.length)›
      simp [cmpP] at h0; omega
    obtain ⟨p, hp⟩ : ∃ p, p = l[i] := ⟨_, rfl⟩
    have hcm : (l.map fun p => svC p.1 p.2)[i]? = some ((fun p => svC p.1 p.2) p) := by rw [List.getElem?_map, List.getElem?_eq_getElem hlt, hp]; rfl
    simp only at hcm
    have hcell := htv p (by rw [hp]; exact List.getElem_mem _)
    have hno : lookM ((l.take i).map fun p => (p.1.id, AV.agg (svC p.1 p.2))) ((fun p => p.1.id) p) = none := by
      refine look_none fun q hq => ?_
      obtain ⟨x, hx, rfl⟩ := List.mem_map.1 hq
      obtain ⟨j, hj, rfl⟩ := List.getElem_of_mem hx
      rw [List.length_take] at hj
      have := ho j i (by rw [List.length_map]; omega) (by rw [List.length_map]; exact hlt) (by omega)
      simp only [List.getElem_map] at this
      simp only [List.getElem_take, hp]
      exact this
    simp only at hno
    repeat' (first
      | apply WOps.nil | apply WC.seq | apply WC.reg | apply WC.skip | apply WC.ret | apply WC.exit | (apply WC.condT; rfl) | (apply WC.condF; rfl) | apply WC.block | apply WC.dreg | apply WD.nil | (apply WOps.ldG; rfl; rfl; (first | exact ld0 rfl | exact ld1 rfl | exact ld2 rfl); rfl) | (apply WOps.st; rfl; rfl; (first | exact tk0 | exact tk1 | exact tk2); rfl; (first | rfl | ((repeat' (first | exact ac0 | apply ac1)) <;> (first | rfl | assumption))); rfl) | (apply WOps.alc; rfl; intro _) | (apply WOps.bx; rfl; rfl; (first | rfl | ((repeat' (first | exact ac0 | apply ac1)) <;> (first | rfl | assumption))); intro _) | (apply WD.st; rfl; rfl; rfl; (first | exact tk0 | exact tk1 | exact tk2); rfl; (first | rfl | ((repeat' (first | exact ac0 | apply ac1)) <;> (first | rfl | assumption))); rfl) | (apply WD.alc; rfl; rfl; intro _) | (apply WOps.ixSl; rfl; rfl; rfl; exact hv.cons.cons; exact hcm; intro ax hax) | (apply WOps.ldG; rfl; rfl; exact hax; rfl) | (apply WD.cvR; rfl; rfl; rfl; exact id22_ok hcell; rintro _ rfl) | (apply WD.mup; rfl; rfl; rfl; rfl; exact Tk.tail Tk.head; exact hm; exact hno) | (apply WOps.addN; rfl; rfl; rfl; omega) | (apply WOps.cmp; rfl; rfl; rfl; rfl; intro _ _) | (apply WOps.cmpT; rfl; rfl; rfl; rfl; intro _ _) | (apply WOps.purG; rfl; (intro _; rfl)) | (apply WD.load; rfl; (first | (apply at1; (first | exact rd0 rfl rfl rfl | exact rd1 rfl rfl rfl | exact rd2 rfl rfl rfl); rfl) | (apply at2; (first | exact rd0 rfl rfl rfl | exact rd1 rfl rfl rfl | exact rd2 rfl rfl rfl); repeat' (first | exact same0 | (apply same1; (first | exact rd0 rfl rfl rfl | exact rd1 rfl rfl rfl | exact rd2 rfl rfl rfl); rfl) | (apply same2; (first | exact rd0 rfl rfl rfl | exact rd1 rfl rfl rfl | exact rd2 rfl rfl rfl)))))) | (apply WD.cmp; rfl; rfl; rfl; rfl; intro _ _) | (apply WD.cmpT; rfl; rfl; rfl; rfl; intro _ _) | (apply WD.pur; rfl; (intro _; rfl)) | (apply WC.condA; rfl; all_goals (intro hb; try subst hb)))
    refine WL.le (t' := [(3, .ptr ⟨false, p3, 0⟩), (5, .map m), (9, v), (10, .int .i64 (.ofNat l.length)), (11, .int .i64 (.ofNat (i + 1)))]) (Sub1.cons rfl (Sub1.cons rfl (Sub1.cons rfl (Sub1.cons rfl (Sub1.cons rfl Sub1.nil))))) ?_
    refine WL.lessP (H1 := (m, .map (es ++ [(.str p.1.id, .agg (svC p.1 p.2), c)]) (c + 1)) :: (p3, .row [.fn (.func 27) [] [], f1, f2, f3]) :: H) (subF (by simp only [svC]; exact (by intro f; simp only [AV.cells, List.append_eq, List.map_cons, List.map_nil, List.sum_nil, List.map_append, List.sum_cons, List.sum_append, List.cons_append, List.nil_append, List.append_assoc, List.append_nil]; omega))) ?_
    refine ih _ (by omega) (i + 1) _ _ ?_ (by omega) rfl
    rw [List.take_succ_eq_append_getElem hlt, List.map_append, ← hp]
    exact hm.snoc
  · have hge : i = l.length := by
      have h0 := eq_of_ff ‹false = true ↔ cmpP BinOp.lss (Int.ofNat i) (Int.ofNat l.length)›
      simp [cmpP] at h0; omega
    subst hge
    rw [List.take_length] at hm
    exact ⟨trivial, [_], ⟨_, [], rfl, rfl, rfl⟩, _, ⟨m, es, c, rfl, hm, rfl⟩, subF (by intro f; simp only [AV.cells, List.append_eq, List.map_cons, List.map_nil, List.sum_nil, List.map_append, List.sum_cons, List.sum_append, List.cons_append, List.nil_append, List.append_assoc, List.append_nil]; omega)⟩
def cmsC (ps : List (Cm × AV)) : List AV := (ps.map fun p => cmC p.1 p.2).flatten
theorem cms_len : ∀ (ps : List (Cm × AV)), (cmsC ps).length = ps.length * 17 := by
  intro ps
  induction ps with
  | nil => rfl
  | cons p ps ih =>
    show (cmC p.1 p.2 ++ cmsC ps).length = _
    rw [List.length_append, ih, List.length_cons]
    show 17 + _ = _
    omega
theorem cms_cell : ∀ {ps : List (Cm × AV)}, (∀ p, p ∈ ps → p.2.isCell = true) → allCell (cmsC ps) = true := by
  intro ps
  induction ps with
  | nil => intro _; rfl
  | cons p ps ih =>
    intro h
    have h1 := ih fun q hq => h q (by simp [hq])
    have h2 := h p (by simp)
    show allCell (cmC p.1 p.2 ++ cmsC ps) = true
    rw [allCell_iff] at h1 ⊢
    intro v hv
    rcases List.mem_append.1 hv with hv | hv
    · simp only [cmC, List.mem_cons, List.not_mem_nil, or_false] at hv
      rcases hv with rfl | rfl | rfl | rfl | rfl | rfl | rfl | rfl | rfl | rfl | rfl | rfl | rfl | rfl | rfl | rfl | rfl <;> first | rfl | exact h2
    · exact h1 v hv
theorem cms_app {ps : List (Cm × AV)} {p : Cm × AV} : cmsC (ps ++ [p]) = cmsC ps ++ cmC p.1 p.2 := by simp [cmsC]
def dropIds (own cat : List (List Nat)) : List (List Nat) := cat.filter fun k => decide (k ∉ own)
def dropCm (kind node : Int) (id : List Nat) : Cm := ⟨kind, node, Int.ofNat 0, Int.ofNat 0, id, [], [], [], []⟩
def dropPs (kind node : Int) (ids : List (List Nat)) : List (Cm × AV) := ids.map fun id => (dropCm kind node id, .nilsl)
theorem dropPs_cell {kind node : Int} {ids : List (List Nat)} : ∀ p, p ∈ dropPs kind node ids → p.2.isCell = true := by
  intro p hp
  obtain ⟨x, _, rfl⟩ := List.mem_map.1 hp
  rfl
theorem look_cases {α : Type} {l : List α} {key : α → List Nat} {cells : α → List AV} {k : List Nat} :
    (lookM (l.map fun p => (key p, AV.agg (cells p))) k = none ∧ k ∉ l.map key) ∨ ∃ p, p ∈ l ∧ lookM (l.map fun p => (key p, AV.agg (cells p))) k = some (.agg (cells p)) ∧ key p = k := by
  induction l with
  | nil => exact .inl ⟨rfl, by simp⟩
  | cons x l ih =>
    simp only [List.map_cons, lookM]
    by_cases hk : k = key x
    · rw [if_pos hk]
      exact .inr ⟨x, by simp, rfl, hk.symm⟩
    · rw [if_neg hk]
      rcases ih with ⟨h1, h2⟩ | ⟨p, h1, h2, h3⟩
      · exact .inl ⟨h1, by simp [hk, h2]⟩
      · exact .inr ⟨p, by simp [h1], h2, h3⟩
theorem tk_right {X R hw : HL} {id : Nat} {o : AObj} (h : Tk X id o R) : Tk (hw ++ X) id o (hw ++ R) :=
  (List.Perm.append_left hw h).trans List.perm_middle
theorem drop_take {own cat : List (List Nat)} {i : Nat} (h : i < cat.length) : (cat[i] ∉ own → dropIds own (cat.take (i + 1)) = dropIds own (cat.take i) ++ [cat[i]]) ∧ (cat[i] ∈ own → dropIds own (cat.take (i + 1)) = dropIds own (cat.take i)) := by
  have e : cat.take (i + 1) = cat.take i ++ [cat[i]] := List.take_succ_eq_append_getElem h
  unfold dropIds
  rw [e, List.filter_append]
  constructor
  · intro hu; simp [hu]
  · intro hu; simp [hu]
set_option maxHeartbeats 2000000 in
theorem drops17_ok {H : HL} {vo vc f1 f3 : AV} {own cat : List Ck} {c : Nat} {node : Int} (hv : SlIs B H vo 7 (own.map fun p => ckC p)) (hc : SlIs B H vc 7 (cat.map fun p => ckC p)) (lo : own.length ≤ 1000) (lc : cat.length ≤ 1000) (ho : Once (own.map fun p => p.id))
    (c1 : f1.isCell = true) (c3 : f3.isCell = true) (e1 : f1.cells = [f1]) (e3 : f3.cells = [f3]) (hn : Ld B H ⟨false, c, 0⟩ 1 [.int .i64 node]) :
    WF B tab (.func 20) [vo, vc, .agg [.fn (.func 33) [] [], f1, .fn (.func 35) [] [.ptr ⟨false, c, 0⟩], f3]] H fun r H' => ∃ hw, OwnSl r (cmsC (dropPs (Int.ofNat 6) node (dropIds (own.map (·.id)) (cat.map (·.id))))) (dropPs (Int.ofNat 6) node (dropIds (own.map (·.id)) (cat.map (·.id)))).length 17 hw ∧ H' = hw ++ H := by
  refine WF.lessP ?_
  refine WF.fn g20 rfl ?_
  repeat' (first
    | apply WOps.nil | apply WC.seq | apply WC.reg | apply WC.skip | apply WC.ret | apply WC.exit | (apply WC.condT; rfl) | (apply WC.condF; rfl) | apply WC.block | apply WC.dreg | apply WD.nil | (apply WOps.ldG; rfl; rfl; (first | exact ld0 rfl | exact ld1 rfl | exact ld2 rfl); rfl) | (apply WOps.st; rfl; rfl; (first | exact tk0 | exact tk1 | exact tk2); rfl; (first | rfl | ((repeat' (first | exact ac0 | apply ac1)) <;> (first | rfl | assumption))); rfl) | (apply WOps.alc; rfl; intro _) | (apply WOps.bx; rfl; rfl; (first | rfl | ((repeat' (first | exact ac0 | apply ac1)) <;> (first | rfl | assumption))); intro _) | (apply WOps.bsl; rfl; (first | rfl | ((repeat' (first | exact ac0 | apply ac1)) <;> (first | rfl | assumption))); intro _) | (apply WD.st; rfl; rfl; rfl; (first | exact tk0 | exact tk1 | exact tk2); rfl; (first | rfl | ((repeat' (first | exact ac0 | apply ac1)) <;> (first | rfl | assumption))); rfl) | (apply WD.alc; rfl; rfl; intro _) | (apply WD.bsl; rfl; rfl; (first | rfl | ((repeat' (first | exact ac0 | apply ac1)) <;> (first | rfl | assumption))); intro _) | (apply WOps.clA; rfl; rfl; exact known32_ok hv.cons (by omega) ⟨c1, rfl, c3⟩ ⟨e1, rfl, e3⟩ ho; rintro _ _ ⟨m, es, cc, rfl, hm, rfl⟩) | (apply WOps.lenS; rfl; rfl; exact hc.cons.cons) | (apply WOps.cmp; rfl; rfl; rfl; rfl; intro _ _) | (apply WOps.cmpT; rfl; rfl; rfl; rfl; intro _ _) | (apply WOps.purG; rfl; (intro _; rfl)) | (apply WD.load; rfl; (first | (apply at1; (first | exact rd0 rfl rfl rfl | exact rd1 rfl rfl rfl | exact rd2 rfl rfl rfl); rfl) | (apply at2; (first | exact rd0 rfl rfl rfl | exact rd1 rfl rfl rfl | exact rd2 rfl rfl rfl); repeat' (first | exact same0 | (apply same1; (first | exact rd0 rfl rfl rfl | exact rd1 rfl rfl rfl | exact rd2 rfl rfl rfl); rfl) | (apply same2; (first | exact rd0 rfl rfl rfl | exact rd1 rfl rfl rfl | exact rd2 rfl rfl rfl)))))) | (apply WD.cmp; rfl; rfl; rfl; rfl; intro _ _) | (apply WD.cmpT; rfl; rfl; rfl; rfl; intro _ _) | (apply WD.pur; rfl; (intro _; rfl)) | (apply WC.condA; rfl; all_goals (intro hb; try subst hb)))
  rw [List.length_map]
  rename_i p5
  obtain ⟨X, hX⟩ : ∃ X : HL, X = (m, .map es cc) :: (p5, .row [.fn (.func 33) [] [], f1, .fn (.func 35) [] [.ptr ⟨false, c, 0⟩], f3]) :: H := ⟨_, rfl⟩
  refine WC.loop ?_
  obtain ⟨i, hi⟩ : ∃ i : Nat, i = 0 := ⟨0, rfl⟩
  obtain ⟨w8, hw8⟩ : ∃ v, v = AV.nilsl := ⟨_, rfl⟩
  obtain ⟨hw, hhw⟩ : ∃ h : HL, h = [] := ⟨_, rfl⟩
  refine WL.le (t' := [(5, .ptr ⟨false, p5, 0⟩), (7, .map m), (8, w8), (16, vc), (17, .int .i64 (.ofNat cat.length)), (18, .int .i64 (.ofNat i))]) (by subst hi; subst hw8; exact Sub1.cons rfl (Sub1.cons rfl (Sub1.cons rfl (Sub1.cons rfl (Sub1.cons rfl (Sub1.cons rfl Sub1.nil)))))) ?_
  refine WL.heq (H' := hw ++ X) (by rw [hhw, hX]; rfl) ?_
  have o8 : OwnSl w8 (cmsC (dropPs (Int.ofNat 6) node (dropIds (own.map (·.id)) ((cat.map (·.id)).take i)))) (dropPs (Int.ofNat 6) node (dropIds (own.map (·.id)) ((cat.map (·.id)).take i))).length 17 hw := by subst hi; exact .inl ⟨hw8, rfl, rfl, hhw⟩
  have hle : i ≤ cat.length := by omega
  clear hi hw8 hhw
  have tm : Tk X m (.map es cc) ((p5, .row [.fn (.func 33) [] [], f1, .fn (.func 35) [] [.ptr ⟨false, c, 0⟩], f3]) :: H) := by rw [hX]; exact Tk.head
  have l5 : Ld B X ⟨false, p5, 0⟩ 4 [.fn (.func 33) [] [], f1, .fn (.func 35) [] [.ptr ⟨false, c, 0⟩], f3] := by rw [hX]; exact Ld.own (Tk.tail Tk.head) rfl
  have hcX : SlIs B X vc 7 (cat.map fun p => ckC p) := by rw [hX]; exact hc.cons.cons
  have hnX : Ld B X ⟨false, c, 0⟩ 1 [.int .i64 node] := by rw [hX]; exact hn.cons.cons
  induction hk : cat.length - i using Nat.strongRecOn generalizing i w8 hw with | _ k ih => ?_
  apply WL.step
  repeat' (first
    | apply WOps.nil | apply WC.seq | apply WC.reg | apply WC.skip | apply WC.ret | apply WC.exit | (apply WC.condT; rfl) | (apply WC.condF; rfl) | apply WC.block | apply WC.dreg | apply WD.nil | (apply WOps.ldG; rfl; rfl; (first | exact ld0 rfl | exact ld1 rfl | exact ld2 rfl); rfl) | (apply WOps.st; rfl; rfl; (first | exact tk0 | exact tk1 | exact tk2); rfl; (first | rfl | ((repeat' (first | exact ac0 | apply ac1)) <;> (first | rfl | assumption))); rfl) | (apply WOps.alc; rfl; intro _) | (apply WOps.bx; rfl; rfl; (first | rfl | ((repeat' (first | exact ac0 | apply ac1)) <;> (first | rfl | assumption))); intro _) | (apply WOps.bsl; rfl; (first | rfl | ((repeat' (first | exact ac0 | apply ac1)) <;> (first | rfl | assumption))); intro _) | (apply WD.st; rfl; rfl; rfl; (first | exact tk0 | exact tk1 | exact tk2); rfl; (first | rfl | ((repeat' (first | exact ac0 | apply ac1)) <;> (first | rfl | assumption))); rfl) | (apply WD.alc; rfl; rfl; intro _) | (apply WD.bsl; rfl; rfl; (first | rfl | ((repeat' (first | exact ac0 | apply ac1)) <;> (first | rfl | assumption))); intro _) | (apply WOps.cmp; rfl; rfl; rfl; rfl; intro _ _) | (apply WOps.cmpT; rfl; rfl; rfl; rfl; intro _ _) | (apply WOps.purG; rfl; (intro _; rfl)) | (apply WD.load; rfl; (first | (apply at1; (first | exact rd0 rfl rfl rfl | exact rd1 rfl rfl rfl | exact rd2 rfl rfl rfl); rfl) | (apply at2; (first | exact rd0 rfl rfl rfl | exact rd1 rfl rfl rfl | exact rd2 rfl rfl rfl); repeat' (first | exact same0 | (apply same1; (first | exact rd0 rfl rfl rfl | exact rd1 rfl rfl rfl | exact rd2 rfl rfl rfl); rfl) | (apply same2; (first | exact rd0 rfl rfl rfl | exact rd1 rfl rfl rfl | exact rd2 rfl rfl rfl)))))) | (apply WD.cmp; rfl; rfl; rfl; rfl; intro _ _) | (apply WD.cmpT; rfl; rfl; rfl; rfl; intro _ _) | (apply WD.pur; rfl; (intro _; rfl)) | (apply WC.condA; rfl; all_goals (intro hb; try subst hb)))
  · have hlt : i < cat.length := by
      have h0 := ‹true = true ↔ cmpP BinOp.lss (Int.ofNat i) (Int.ofNat cat.length)›
      simp [cmpP] at h0; omega
    have hcm : (cat.map fun p => ckC p)[i]? = some (ckC cat[i]) := by rw [List.getElem?_map, List.getElem?_eq_getElem hlt]; rfl
    have hdt := drop_take (own := own.map (·.id)) (cat := cat.map (·.id)) (i := i) (by rw [List.length_map]; exact hlt)
    simp only [List.getElem_map] at hdt
    have hlen : (dropPs (Int.ofNat 6) node (dropIds (own.map (·.id)) ((cat.map (·.id)).take i))).length ≤ 1000 := by
      unfold dropPs dropIds
      rw [List.length_map]
      have := List.length_filter_le (fun k => decide (k ∉ own.map (·.id))) ((cat.map (·.id)).take i)
      rw [List.length_take, List.length_map] at this
      omega
    rcases look_cases (l := own) (key := fun p => p.id) (cells := fun p => ckC p) (k := cat[i].id) with ⟨hl, hnot⟩ | ⟨p, hp, hl, hpk⟩
    · have F : ∀ (x y : Nat × AObj) (o : Nat) (v : AV), takeN (List.drop o [.fn (.func 33) [] [], f1, .fn (.func 35) [] [.ptr ⟨false, c, 0⟩], f3]) 1 = some [v] → Ld B (x :: y :: (hw ++ X)) ⟨false, p5, 0 + o⟩ 1 [v] := by
        intro x y o v h
        rw [Nat.zero_add]
        have h4 : Ld B X ⟨false, p5, o⟩ 1 [v] := by rw [hX]; exact Ld.own (Tk.tail Tk.head) h
        exact (Ld.right h4).cons.cons
      repeat' (first
        | apply WOps.nil | apply WC.seq | apply WC.reg | apply WC.skip | apply WC.ret | apply WC.exit | (apply WC.condT; rfl) | (apply WC.condF; rfl) | apply WC.block | apply WC.dreg | apply WD.nil | (apply WOps.ldG; rfl; rfl; (first | exact ld0 rfl | exact ld1 rfl | exact ld2 rfl); rfl) | (apply WOps.st; rfl; rfl; (first | exact tk0 | exact tk1 | exact tk2); rfl; (first | rfl | ((repeat' (first | exact ac0 | apply ac1)) <;> (first | rfl | assumption))); rfl) | (apply WOps.alc; rfl; intro _) | (apply WOps.bx; rfl; rfl; (first | rfl | ((repeat' (first | exact ac0 | apply ac1)) <;> (first | rfl | assumption))); intro _) | (apply WOps.bsl; rfl; (first | rfl | ((repeat' (first | exact ac0 | apply ac1)) <;> (first | rfl | assumption))); intro _) | (apply WD.st; rfl; rfl; rfl; (first | exact tk0 | exact tk1 | exact tk2); rfl; (first | rfl | ((repeat' (first | exact ac0 | apply ac1)) <;> (first | rfl | assumption))); rfl) | (apply WD.alc; rfl; rfl; intro _) | (apply WD.bsl; rfl; rfl; (first | rfl | ((repeat' (first | exact ac0 | apply ac1)) <;> (first | rfl | assumption))); intro _) | (apply WOps.ixSl; rfl; rfl; rfl; exact SlIs.right hcX; exact hcm; intro ax hax) | (apply WOps.ldG; rfl; rfl; exact hax; rfl) | (apply WOps.ldG; rfl; rfl; exact (Ld.right (Ld.part l5 0 1 (by decide))).cons; rfl) | (apply WOps.cvR; rfl; rfl; rfl; exact id28_ok; rintro _ rfl) | (apply WOps.lkp; rfl; rfl; rfl; exact Tk.tail (tk_right tm); exact hm; rw [hl]) | (apply WD.load; rfl; (apply at2; exact rd_ld0 rfl (F _ _ 0 _ rfl); exact same0)) | (apply WD.cvR; rfl; rfl; rfl; exact id28_ok; rintro _ rfl) | (apply WD.load; rfl; (apply at2; exact rd_ld0 rfl (F _ _ 2 _ rfl); (apply same2; exact rd_ld0 rfl (F _ _ 2 _ rfl); exact same0))) | (apply WD.cvR; rfl; rfl; rfl; exact drop30_ok (Ld.right hnX).cons.cons; rintro _ rfl) | (apply WOps.cmp; rfl; rfl; rfl; rfl; intro _ _) | (apply WOps.cmpT; rfl; rfl; rfl; rfl; intro _ _) | (apply WOps.purG; rfl; (intro _; rfl)) | (apply WD.load; rfl; (first | (apply at1; (first | exact rd0 rfl rfl rfl | exact rd1 rfl rfl rfl | exact rd2 rfl rfl rfl); rfl) | (apply at2; (first | exact rd0 rfl rfl rfl | exact rd1 rfl rfl rfl | exact rd2 rfl rfl rfl); repeat' (first | exact same0 | (apply same1; (first | exact rd0 rfl rfl rfl | exact rd1 rfl rfl rfl | exact rd2 rfl rfl rfl); rfl) | (apply same2; (first | exact rd0 rfl rfl rfl | exact rd1 rfl rfl rfl | exact rd2 rfl rfl rfl)))))) | (apply WD.cmp; rfl; rfl; rfl; rfl; intro _ _) | (apply WD.cmpT; rfl; rfl; rfl; rfl; intro _ _) | (apply WD.pur; rfl; (intro _; rfl)) | (apply WC.condA; rfl; all_goals (intro hb; try subst hb)))
      refine WD.app (n := (dropPs (Int.ofNat 6) node (dropIds (own.map (·.id)) ((cat.map (·.id)).take i))).length) rfl rfl rfl o8 (List.perm_append_comm_assoc [_, _, _] hw X) (src_one Tk.head rfl) (cms_cell dropPs_cell) rfl rfl (by omega) ?_
      intro v2 h2 o2
      repeat' (first
        | apply WOps.nil | apply WC.seq | apply WC.reg | apply WC.skip | apply WC.ret | apply WC.exit | (apply WC.condT; rfl) | (apply WC.condF; rfl) | apply WC.block | apply WC.dreg | apply WD.nil | (apply WOps.ldG; rfl; rfl; (first | exact ld0 rfl | exact ld1 rfl | exact ld2 rfl); rfl) | (apply WOps.st; rfl; rfl; (first | exact tk0 | exact tk1 | exact tk2); rfl; (first | rfl | ((repeat' (first | exact ac0 | apply ac1)) <;> (first | rfl | assumption))); rfl) | (apply WOps.alc; rfl; intro _) | (apply WOps.bx; rfl; rfl; (first | rfl | ((repeat' (first | exact ac0 | apply ac1)) <;> (first | rfl | assumption))); intro _) | (apply WOps.bsl; rfl; (first | rfl | ((repeat' (first | exact ac0 | apply ac1)) <;> (first | rfl | assumption))); intro _) | (apply WD.st; rfl; rfl; rfl; (first | exact tk0 | exact tk1 | exact tk2); rfl; (first | rfl | ((repeat' (first | exact ac0 | apply ac1)) <;> (first | rfl | assumption))); rfl) | (apply WD.alc; rfl; rfl; intro _) | (apply WD.bsl; rfl; rfl; (first | rfl | ((repeat' (first | exact ac0 | apply ac1)) <;> (first | rfl | assumption))); intro _) | (apply WOps.addN; rfl; rfl; rfl; omega) | (apply WOps.cmp; rfl; rfl; rfl; rfl; intro _ _) | (apply WOps.cmpT; rfl; rfl; rfl; rfl; intro _ _) | (apply WOps.purG; rfl; (intro _; rfl)) | (apply WD.load; rfl; (first | (apply at1; (first | exact rd0 rfl rfl rfl | exact rd1 rfl rfl rfl | exact rd2 rfl rfl rfl); rfl) | (apply at2; (first | exact rd0 rfl rfl rfl | exact rd1 rfl rfl rfl | exact rd2 rfl rfl rfl); repeat' (first | exact same0 | (apply same1; (first | exact rd0 rfl rfl rfl | exact rd1 rfl rfl rfl | exact rd2 rfl rfl rfl); rfl) | (apply same2; (first | exact rd0 rfl rfl rfl | exact rd1 rfl rfl rfl | exact rd2 rfl rfl rfl)))))) | (apply WD.cmp; rfl; rfl; rfl; rfl; intro _ _) | (apply WD.cmpT; rfl; rfl; rfl; rfl; intro _ _) | (apply WD.pur; rfl; (intro _; rfl)) | (apply WC.condA; rfl; all_goals (intro hb; try subst hb)))
      refine WL.le (t' := [(5, .ptr ⟨false, p5, 0⟩), (7, .map m), (8, v2), (16, vc), (17, .int .i64 (.ofNat cat.length)), (18, .int .i64 (.ofNat (i + 1)))]) (Sub1.cons rfl (Sub1.cons rfl (Sub1.cons rfl (Sub1.cons rfl (Sub1.cons rfl (Sub1.cons rfl Sub1.nil)))))) (WL.lessP (H1 := h2 ++ X) (subF (by intro f; simp only [AV.cells, List.append_eq, List.map_cons, List.map_nil, List.sum_nil, List.map_append, List.sum_cons, List.sum_append, List.cons_append, List.nil_append, List.append_assoc, List.append_nil]; omega)) (ih _ (by omega) (i + 1) v2 h2 ?_ (by omega) rfl))
      rw [hdt.1 hnot]
      unfold dropPs
      rw [List.map_append, List.map_cons, List.map_nil, cms_app, List.length_append]
      exact o2
    · repeat' (first
        | apply WOps.nil | apply WC.seq | apply WC.reg | apply WC.skip | apply WC.ret | apply WC.exit | (apply WC.condT; rfl) | (apply WC.condF; rfl) | apply WC.block | apply WC.dreg | apply WD.nil | (apply WOps.ldG; rfl; rfl; (first | exact ld0 rfl | exact ld1 rfl | exact ld2 rfl); rfl) | (apply WOps.st; rfl; rfl; (first | exact tk0 | exact tk1 | exact tk2); rfl; (first | rfl | ((repeat' (first | exact ac0 | apply ac1)) <;> (first | rfl | assumption))); rfl) | (apply WOps.alc; rfl; intro _) | (apply WOps.bx; rfl; rfl; (first | rfl | ((repeat' (first | exact ac0 | apply ac1)) <;> (first | rfl | assumption))); intro _) | (apply WOps.bsl; rfl; (first | rfl | ((repeat' (first | exact ac0 | apply ac1)) <;> (first | rfl | assumption))); intro _) | (apply WD.st; rfl; rfl; rfl; (first | exact tk0 | exact tk1 | exact tk2); rfl; (first | rfl | ((repeat' (first | exact ac0 | apply ac1)) <;> (first | rfl | assumption))); rfl) | (apply WD.alc; rfl; rfl; intro _) | (apply WD.bsl; rfl; rfl; (first | rfl | ((repeat' (first | exact ac0 | apply ac1)) <;> (first | rfl | assumption))); intro _) | (apply WOps.ixSl; rfl; rfl; rfl; exact SlIs.right hcX; exact hcm; intro ax hax) | (apply WOps.ldG; rfl; rfl; exact hax; rfl) | (apply WOps.ldG; rfl; rfl; exact (Ld.right (Ld.part l5 0 1 (by decide))).cons; rfl) | (apply WOps.cvR; rfl; rfl; rfl; exact id28_ok; rintro _ rfl) | (apply WOps.lkp; rfl; rfl; rfl; exact Tk.tail (tk_right tm); exact hm; rw [hl]) | (apply WOps.addN; rfl; rfl; rfl; omega) | (apply WOps.cmp; rfl; rfl; rfl; rfl; intro _ _) | (apply WOps.cmpT; rfl; rfl; rfl; rfl; intro _ _) | (apply WOps.purG; rfl; (intro _; rfl)) | (apply WD.load; rfl; (first | (apply at1; (first | exact rd0 rfl rfl rfl | exact rd1 rfl rfl rfl | exact rd2 rfl rfl rfl); rfl) | (apply at2; (first | exact rd0 rfl rfl rfl | exact rd1 rfl rfl rfl | exact rd2 rfl rfl rfl); repeat' (first | exact same0 | (apply same1; (first | exact rd0 rfl rfl rfl | exact rd1 rfl rfl rfl | exact rd2 rfl rfl rfl); rfl) | (apply same2; (first | exact rd0 rfl rfl rfl | exact rd1 rfl rfl rfl | exact rd2 rfl rfl rfl)))))) | (apply WD.cmp; rfl; rfl; rfl; rfl; intro _ _) | (apply WD.cmpT; rfl; rfl; rfl; rfl; intro _ _) | (apply WD.pur; rfl; (intro _; rfl)) | (apply WC.condA; rfl; all_goals (intro hb; try subst hb)))
      refine WL.le (t' := [(5, .ptr ⟨false, p5, 0⟩), (7, .map m), (8, w8), (16, vc), (17, .int .i64 (.ofNat cat.length)), (18, .int .i64 (.ofNat (i + 1)))]) (Sub1.cons rfl (Sub1.cons rfl (Sub1.cons rfl (Sub1.cons rfl (Sub1.cons rfl (Sub1.cons rfl Sub1.nil)))))) (WL.sub ((List.sublist_cons_self _ _).trans (List.sublist_cons_self _ _)) (ih _ (by omega) (i + 1) w8 hw ?_ (by omega) rfl))
      rw [hdt.2 (by rw [← hpk]; exact List.mem_map_of_mem hp)]
      exact o8
  · have hge : i = cat.length := by
      have h0 := eq_of_ff ‹false = true ↔ cmpP BinOp.lss (Int.ofNat i) (Int.ofNat cat.length)›
      simp [cmpP] at h0; omega
    subst hge
    rw [show (cat.map (·.id)).take cat.length = cat.map (·.id) by rw [List.take_of_length_le]; rw [List.length_map]; exact Nat.le_refl _] at o8
    refine ⟨trivial, [_], ⟨_, [], rfl, rfl, rfl⟩, _, ⟨hw, o8, rfl⟩, ?_⟩
    rw [hX]
    exact subF (by intro f; simp only [AV.cells, List.append_eq, List.map_cons, List.map_nil, List.sum_nil, List.map_append, List.sum_cons, List.sum_append, List.cons_append, List.nil_append, List.append_assoc, List.append_nil]; omega)
set_option maxHeartbeats 2000000 in
theorem drops18_ok {H : HL} {vo vc f1 f3 : AV} {own cat : List (Sv × AV)} {c : Nat} {node : Int} (hv : SlIs B H vo 7 (own.map fun p => svC p.1 p.2)) (hc : SlIs B H vc 7 (cat.map fun p => svC p.1 p.2)) (lo : own.length ≤ 1000) (lc : cat.length ≤ 1000) (ho : Once (own.map fun p => p.1.id))
    (tvo : ∀ p, p ∈ own → p.2.isCell = true) (tvc : ∀ p, p ∈ cat → p.2.isCell = true) (c1 : f1.isCell = true) (c3 : f3.isCell = true) (e1 : f1.cells = [f1]) (e3 : f3.cells = [f3]) (hn : Ld B H ⟨false, c, 0⟩ 1 [.int .i64 node]) :
    WF B tab (.func 21) [vo, vc, .agg [.fn (.func 27) [] [], f1, .fn (.func 30) [] [.ptr ⟨false, c, 0⟩], f3]] H fun r H' => ∃ hw, OwnSl r (cmsC (dropPs (Int.ofNat 4) node (dropIds (own.map (·.1.id)) (cat.map (·.1.id))))) (dropPs (Int.ofNat 4) node (dropIds (own.map (·.1.id)) (cat.map (·.1.id)))).length 17 hw ∧ H' = hw ++ H := by
  refine WF.lessP ?_
  refine WF.fn g21 rfl ?_
  repeat' (first
    | apply WOps.nil | apply WC.seq | apply WC.reg | apply WC.skip | apply WC.ret | apply WC.exit | (apply WC.condT; rfl) | (apply WC.condF; rfl) | apply WC.block | apply WC.dreg | apply WD.nil | (apply WOps.ldG; rfl; rfl; (first | exact ld0 rfl | exact ld1 rfl | exact ld2 rfl); rfl) | (apply WOps.st; rfl; rfl; (first | exact tk0 | exact tk1 | exact tk2); rfl; (first | rfl | ((repeat' (first | exact ac0 | apply ac1)) <;> (first | rfl | assumption))); rfl) | (apply WOps.alc; rfl; intro _) | (apply WOps.bx; rfl; rfl; (first | rfl | ((repeat' (first | exact ac0 | apply ac1)) <;> (first | rfl | assumption))); intro _) | (apply WOps.bsl; rfl; (first | rfl | ((repeat' (first | exact ac0 | apply ac1)) <;> (first | rfl | assumption))); intro _) | (apply WD.st; rfl; rfl; rfl; (first | exact tk0 | exact tk1 | exact tk2); rfl; (first | rfl | ((repeat' (first | exact ac0 | apply ac1)) <;> (first | rfl | assumption))); rfl) | (apply WD.alc; rfl; rfl; intro _) | (apply WD.bsl; rfl; rfl; (first | rfl | ((repeat' (first | exact ac0 | apply ac1)) <;> (first | rfl | assumption))); intro _) | (apply WOps.clA; rfl; rfl; exact known33_ok hv.cons (by omega) ⟨c1, rfl, c3⟩ ⟨e1, rfl, e3⟩ ho tvo; rintro _ _ ⟨m, es, cc, rfl, hm, rfl⟩) | (apply WOps.lenS; rfl; rfl; exact hc.cons.cons) | (apply WOps.cmp; rfl; rfl; rfl; rfl; intro _ _) | (apply WOps.cmpT; rfl; rfl; rfl; rfl; intro _ _) | (apply WOps.purG; rfl; (intro _; rfl)) | (apply WD.load; rfl; (first | (apply at1; (first | exact rd0 rfl rfl rfl | exact rd1 rfl rfl rfl | exact rd2 rfl rfl rfl); rfl) | (apply at2; (first | exact rd0 rfl rfl rfl | exact rd1 rfl rfl rfl | exact rd2 rfl rfl rfl); repeat' (first | exact same0 | (apply same1; (first | exact rd0 rfl rfl rfl | exact rd1 rfl rfl rfl | exact rd2 rfl rfl rfl); rfl) | (apply same2; (first | exact rd0 rfl rfl rfl | exact rd1 rfl rfl rfl | exact rd2 rfl rfl rfl)))))) | (apply WD.cmp; rfl; rfl; rfl; rfl; intro _ _) | (apply WD.cmpT; rfl; rfl; rfl; rfl; intro _ _) | (apply WD.pur; rfl; (intro _; rfl)) | (apply WC.condA; rfl; all_goals (intro hb; try subst hb)))
  rw [List.length_map]
  rename_i p5
  obtain ⟨X, hX⟩ : ∃ X : HL, X = (m, .map es cc) :: (p5, .row [.fn (.func 27) [] [], f1, .fn (.func 30) [] [.ptr ⟨false, c, 0⟩], f3]) :: H := ⟨_, rfl⟩
  refine WC.loop ?_
  obtain ⟨i, hi⟩ : ∃ i : Nat, i = 0 := ⟨0, rfl⟩
  obtain ⟨w8, hw8⟩ : ∃ v, v = AV.nilsl := ⟨_, rfl⟩
  obtain ⟨hw, hhw⟩ : ∃ h : HL, h = [] := ⟨_, rfl⟩
  refine WL.le (t' := [(5, .ptr ⟨false, p5, 0⟩), (7, .map m), (8, w8), (16, vc), (17, .int .i64 (.ofNat cat.length)), (18, .int .i64 (.ofNat i))]) (by subst hi; subst hw8; exact Sub1.cons rfl (Sub1.cons rfl (Sub1.cons rfl (Sub1.cons rfl (Sub1.cons rfl (Sub1.cons rfl Sub1.nil)))))) ?_
  refine WL.heq (H' := hw ++ X) (by rw [hhw, hX]; rfl) ?_
  have o8 : OwnSl w8 (cmsC (dropPs (Int.ofNat 4) node (dropIds (own.map (·.1.id)) ((cat.map (·.1.id)).take i)))) (dropPs (Int.ofNat 4) node (dropIds (own.map (·.1.id)) ((cat.map (·.1.id)).take i))).length 17 hw := by subst hi; exact .inl ⟨hw8, rfl, rfl, hhw⟩
  have hle : i ≤ cat.length := by omega
  clear hi hw8 hhw
  have tm : Tk X m (.map es cc) ((p5, .row [.fn (.func 27) [] [], f1, .fn (.func 30) [] [.ptr ⟨false, c, 0⟩], f3]) :: H) := by rw [hX]; exact Tk.head
  have l5 : Ld B X ⟨false, p5, 0⟩ 4 [.fn (.func 27) [] [], f1, .fn (.func 30) [] [.ptr ⟨false, c, 0⟩], f3] := by rw [hX]; exact Ld.own (Tk.tail Tk.head) rfl
  have hcX : SlIs B X vc 7 (cat.map fun p => svC p.1 p.2) := by rw [hX]; exact hc.cons.cons
  have hnX : Ld B X ⟨false, c, 0⟩ 1 [.int .i64 node] := by rw [hX]; exact hn.cons.cons
  induction hk : cat.length - i using Nat.strongRecOn generalizing i w8 hw with | _ k ih => ?_
  apply WL.step
  repeat' (first
    | apply WOps.nil | apply WC.seq | apply WC.reg | apply WC.skip | apply WC.ret | apply WC.exit | (apply WC.condT; rfl) | (apply WC.condF; rfl) | apply WC.block | apply WC.dreg | apply WD.nil | (apply WOps.ldG; rfl; rfl; (first | exact ld0 rfl | exact ld1 rfl | exact ld2 rfl); rfl) | (apply WOps.st; rfl; rfl; (first | exact tk0 | exact tk1 | exact tk2); rfl; (first | rfl | ((repeat' (first | exact ac0 | apply ac1)) <;> (first | rfl | assumption))); rfl) | (apply WOps.alc; rfl; intro _) | (apply WOps.bx; rfl; rfl; (first | rfl | ((repeat' (first | exact ac0 | apply ac1)) <;> (first | rfl | assumption))); intro _) | (apply WOps.bsl; rfl; (first | rfl | ((repeat' (first | exact ac0 | apply ac1)) <;> (first | rfl | assumption))); intro _) | (apply WD.st; rfl; rfl; rfl; (first | exact tk0 | exact tk1 | exact tk2); rfl; (first | rfl | ((repeat' (first | exact ac0 | apply ac1)) <;> (first | rfl | assumption))); rfl) | (apply WD.alc; rfl; rfl; intro _) | (apply WD.bsl; rfl; rfl; (first | rfl | ((repeat' (first | exact ac0 | apply ac1)) <;> (first | rfl | assumption))); intro _) | (apply WOps.cmp; rfl; rfl; rfl; rfl; intro _ _) | (apply WOps.cmpT; rfl; rfl; rfl; rfl; intro _ _) | (apply WOps.purG; rfl; (intro _; rfl)) | (apply WD.load; rfl; (first | (apply at1; (first | exact rd0 rfl rfl rfl | exact rd1 rfl rfl rfl | exact rd2 rfl rfl rfl); rfl) | (apply at2; (first | exact rd0 rfl rfl rfl | exact rd1 rfl rfl rfl | exact rd2 rfl rfl rfl); repeat' (first | exact same0 | (apply same1; (first | exact rd0 rfl rfl rfl | exact rd1 rfl rfl rfl | exact rd2 rfl rfl rfl); rfl) | (apply same2; (first | exact rd0 rfl rfl rfl | exact rd1 rfl rfl rfl | exact rd2 rfl rfl rfl)))))) | (apply WD.cmp; rfl; rfl; rfl; rfl; intro _ _) | (apply WD.cmpT; rfl; rfl; rfl; rfl; intro _ _) | (apply WD.pur; rfl; (intro _; rfl)) | (apply WC.condA; rfl; all_goals (intro hb; try subst hb)))
  · have hlt : i < cat.length := by
      have h0 := ‹true = true ↔ cmpP BinOp.lss (Int.ofNat i) (Int.ofNat cat.length)›
      simp [cmpP] at h0; omega
    have hcm : (cat.map fun p => svC p.1 p.2)[i]? = some (svC cat[i].1 cat[i].2) := by rw [List.getElem?_map, List.getElem?_eq_getElem hlt]; rfl
    have hcell := tvc _ (List.getElem_mem hlt)
    have hdt := drop_take (own := own.map (·.1.id)) (cat := cat.map (·.1.id)) (i := i) (by rw [List.length_map]; exact hlt)
    simp only [List.getElem_map] at hdt
    have hlen : (dropPs (Int.ofNat 4) node (dropIds (own.map (·.1.id)) ((cat.map (·.1.id)).take i))).length ≤ 1000 := by
      unfold dropPs dropIds
      rw [List.length_map]
      have := List.length_filter_le (fun k => decide (k ∉ own.map (·.1.id))) ((cat.map (·.1.id)).take i)
      rw [List.length_take, List.length_map] at this
      omega
    rcases look_cases (l := own) (key := fun p => p.1.id) (cells := fun p => svC p.1 p.2) (k := cat[i].1.id) with ⟨hl, hnot⟩ | ⟨p, hp, hl, hpk⟩
    · have F : ∀ (x y : Nat × AObj) (o : Nat) (v : AV), takeN (List.drop o [.fn (.func 27) [] [], f1, .fn (.func 30) [] [.ptr ⟨false, c, 0⟩], f3]) 1 = some [v] → Ld B (x :: y :: (hw ++ X)) ⟨false, p5, 0 + o⟩ 1 [v] := by
        intro x y o v h
        rw [Nat.zero_add]
        have h4 : Ld B X ⟨false, p5, o⟩ 1 [v] := by rw [hX]; exact Ld.own (Tk.tail Tk.head) h
        exact (Ld.right h4).cons.cons
      repeat' (first
        | apply WOps.nil | apply WC.seq | apply WC.reg | apply WC.skip | apply WC.ret | apply WC.exit | (apply WC.condT; rfl) | (apply WC.condF; rfl) | apply WC.block | apply WC.dreg | apply WD.nil | (apply WOps.ldG; rfl; rfl; (first | exact ld0 rfl | exact ld1 rfl | exact ld2 rfl); rfl) | (apply WOps.st; rfl; rfl; (first | exact tk0 | exact tk1 | exact tk2); rfl; (first | rfl | ((repeat' (first | exact ac0 | apply ac1)) <;> (first | rfl | assumption))); rfl) | (apply WOps.alc; rfl; intro _) | (apply WOps.bx; rfl; rfl; (first | rfl | ((repeat' (first | exact ac0 | apply ac1)) <;> (first | rfl | assumption))); intro _) | (apply WOps.bsl; rfl; (first | rfl | ((repeat' (first | exact ac0 | apply ac1)) <;> (first | rfl | assumption))); intro _) | (apply WD.st; rfl; rfl; rfl; (first | exact tk0 | exact tk1 | exact tk2); rfl; (first | rfl | ((repeat' (first | exact ac0 | apply ac1)) <;> (first | rfl | assumption))); rfl) | (apply WD.alc; rfl; rfl; intro _) | (apply WD.bsl; rfl; rfl; (first | rfl | ((repeat' (first | exact ac0 | apply ac1)) <;> (first | rfl | assumption))); intro _) | (apply WOps.ixSl; rfl; rfl; rfl; exact SlIs.right hcX; exact hcm; intro ax hax) | (apply WOps.ldG; rfl; rfl; exact hax; rfl) | (apply WOps.ldG; rfl; rfl; exact (Ld.right (Ld.part l5 0 1 (by decide))).cons; rfl) | (apply WOps.cvR; rfl; rfl; rfl; exact id22_ok hcell; rintro _ rfl) | (apply WOps.lkp; rfl; rfl; rfl; exact Tk.tail (tk_right tm); exact hm; rw [hl]) | (apply WD.load; rfl; (apply at2; exact rd_ld0 rfl (F _ _ 0 _ rfl); exact same0)) | (apply WD.cvR; rfl; rfl; rfl; exact id22_ok hcell; rintro _ rfl) | (apply WD.load; rfl; (apply at2; exact rd_ld0 rfl (F _ _ 2 _ rfl); (apply same2; exact rd_ld0 rfl (F _ _ 2 _ rfl); exact same0))) | (apply WD.cvR; rfl; rfl; rfl; exact drop25_ok (Ld.right hnX).cons.cons; rintro _ rfl) | (apply WOps.cmp; rfl; rfl; rfl; rfl; intro _ _) | (apply WOps.cmpT; rfl; rfl; rfl; rfl; intro _ _) | (apply WOps.purG; rfl; (intro _; rfl)) | (apply WD.load; rfl; (first | (apply at1; (first | exact rd0 rfl rfl rfl | exact rd1 rfl rfl rfl | exact rd2 rfl rfl rfl); rfl) | (apply at2; (first | exact rd0 rfl rfl rfl | exact rd1 rfl rfl rfl | exact rd2 rfl rfl rfl); repeat' (first | exact same0 | (apply same1; (first | exact rd0 rfl rfl rfl | exact rd1 rfl rfl rfl | exact rd2 rfl rfl rfl); rfl) | (apply same2; (first | exact rd0 rfl rfl rfl | exact rd1 rfl rfl rfl | exact rd2 rfl rfl rfl)))))) | (apply WD.cmp; rfl; rfl; rfl; rfl; intro _ _) | (apply WD.cmpT; rfl; rfl; rfl; rfl; intro _ _) | (apply WD.pur; rfl; (intro _; rfl)) | (apply WC.condA; rfl; all_goals (intro hb; try subst hb)))
      refine WD.app (n := (dropPs (Int.ofNat 4) node (dropIds (own.map (·.1.id)) ((cat.map (·.1.id)).take i))).length) rfl rfl rfl o8 (List.perm_append_comm_assoc [_, _, _] hw X) (src_one Tk.head rfl) (cms_cell dropPs_cell) rfl rfl (by omega) ?_
      intro v2 h2 o2
      repeat' (first
        | apply WOps.nil | apply WC.seq | apply WC.reg | apply WC.skip | apply WC.ret | apply WC.exit | (apply WC.condT; rfl) | (apply WC.condF; rfl) | apply WC.block | apply WC.dreg | apply WD.nil | (apply WOps.ldG; rfl; rfl; (first | exact ld0 rfl | exact ld1 rfl | exact ld2 rfl); rfl) | (apply WOps.st; rfl; rfl; (first | exact tk0 | exact tk1 | exact tk2); rfl; (first | rfl | ((repeat' (first | exact ac0 | apply ac1)) <;> (first | rfl | assumption))); rfl) | (apply WOps.alc; rfl; intro _) | (apply WOps.bx; rfl; rfl; (first | rfl | ((repeat' (first | exact ac0 | apply ac1)) <;> (first | rfl | assumption))); intro _) | (apply WOps.bsl; rfl; (first | rfl | ((repeat' (first | exact ac0 | apply ac1)) <;> (first | rfl | assumption))); intro _) | (apply WD.st; rfl; rfl; rfl; (first | exact tk0 | exact tk1 | exact tk2); rfl; (first | rfl | ((repeat' (first | exact ac0 | apply ac1)) <;> (first | rfl | assumption))); rfl) | (apply WD.alc; rfl; rfl; intro _) | (apply WD.bsl; rfl; rfl; (first | rfl | ((repeat' (first | exact ac0 | apply ac1)) <;> (first | rfl | assumption))); intro _) | (apply WOps.addN; rfl; rfl; rfl; omega) | (apply WOps.cmp; rfl; rfl; rfl; rfl; intro _ _) | (apply WOps.cmpT; rfl; rfl; rfl; rfl; intro _ _) | (apply WOps.purG; rfl; (intro _; rfl)) | (apply WD.load; rfl; (first | (apply at1; (first | exact rd0 rfl rfl rfl | exact rd1 rfl rfl rfl | exact rd2 rfl rfl rfl); rfl) | (apply at2; (first | exact rd0 rfl rfl rfl | exact rd1 rfl rfl rfl | exact rd2 rfl rfl rfl); repeat' (first | exact same0 | (apply same1; (first | exact rd0 rfl rfl rfl | exact rd1 rfl rfl rfl | exact rd2 rfl rfl rfl); rfl) | (apply same2; (first | exact rd0 rfl rfl rfl | exact rd1 rfl rfl rfl | exact rd2 rfl rfl rfl)))))) | (apply WD.cmp; rfl; rfl; rfl; rfl; intro _ _) | (apply WD.cmpT; rfl; rfl; rfl; rfl; intro _ _) | (apply WD.pur; rfl; (intro _; rfl)) | (apply WC.condA; rfl; all_goals (intro hb; try subst hb)))
      refine WL.le (t' := [(5, .ptr ⟨false, p5, 0⟩), (7, .map m), (8, v2), (16, vc), (17, .int .i64 (.ofNat cat.length)), (18, .int .i64 (.ofNat (i + 1)))]) (Sub1.cons rfl (Sub1.cons rfl (Sub1.cons rfl (Sub1.cons rfl (Sub1.cons rfl (Sub1.cons rfl Sub1.nil)))))) (WL.lessP (H1 := h2 ++ X) (subF (by intro f; simp only [AV.cells, List.append_eq, List.map_cons, List.map_nil, List.sum_nil, List.map_append, List.sum_cons, List.sum_append, List.cons_append, List.nil_append, List.append_assoc, List.append_nil]; omega)) (ih _ (by omega) (i + 1) v2 h2 ?_ (by omega) rfl))
      rw [hdt.1 hnot]
      unfold dropPs
      rw [List.map_append, List.map_cons, List.map_nil, cms_app, List.length_append]
      exact o2
    · have hcellp := tvo _ hp
      repeat' (first
        | apply WOps.nil | apply WC.seq | apply WC.reg | apply WC.skip | apply WC.ret | apply WC.exit | (apply WC.condT; rfl) | (apply WC.condF; rfl) | apply WC.block | apply WC.dreg | apply WD.nil | (apply WOps.ldG; rfl; rfl; (first | exact ld0 rfl | exact ld1 rfl | exact ld2 rfl); rfl) | (apply WOps.st; rfl; rfl; (first | exact tk0 | exact tk1 | exact tk2); rfl; (first | rfl | ((repeat' (first | exact ac0 | apply ac1)) <;> (first | rfl | assumption))); rfl) | (apply WOps.alc; rfl; intro _) | (apply WOps.bx; rfl; rfl; (first | rfl | ((repeat' (first | exact ac0 | apply ac1)) <;> (first | rfl | assumption))); intro _) | (apply WOps.bsl; rfl; (first | rfl | ((repeat' (first | exact ac0 | apply ac1)) <;> (first | rfl | assumption))); intro _) | (apply WD.st; rfl; rfl; rfl; (first | exact tk0 | exact tk1 | exact tk2); rfl; (first | rfl | ((repeat' (first | exact ac0 | apply ac1)) <;> (first | rfl | assumption))); rfl) | (apply WD.alc; rfl; rfl; intro _) | (apply WD.bsl; rfl; rfl; (first | rfl | ((repeat' (first | exact ac0 | apply ac1)) <;> (first | rfl | assumption))); intro _) | (apply WOps.ixSl; rfl; rfl; rfl; exact SlIs.right hcX; exact hcm; intro ax hax) | (apply WOps.ldG; rfl; rfl; exact hax; rfl) | (apply WOps.ldG; rfl; rfl; exact (Ld.right (Ld.part l5 0 1 (by decide))).cons; rfl) | (apply WOps.cvR; rfl; rfl; rfl; exact id22_ok hcell; rintro _ rfl) | (apply WOps.lkp; rfl; rfl; rfl; exact Tk.tail (tk_right tm); exact hm; rw [hl]) | (apply WOps.addN; rfl; rfl; rfl; omega) | (apply WOps.cmp; rfl; rfl; rfl; rfl; intro _ _) | (apply WOps.cmpT; rfl; rfl; rfl; rfl; intro _ _) | (apply WOps.purG; rfl; (intro _; rfl)) | (apply WD.load; rfl; (first | (apply at1; (first | exact rd0 rfl rfl rfl | exact rd1 rfl rfl rfl | exact rd2 rfl rfl rfl); rfl) | (apply at2; (first | exact rd0 rfl rfl rfl | exact rd1 rfl rfl rfl | exact rd2 rfl rfl rfl); repeat' (first | exact same0 | (apply same1; (first | exact rd0 rfl rfl rfl | exact rd1 rfl rfl rfl | exact rd2 rfl rfl rfl); rfl) | (apply same2; (first | exact rd0 rfl rfl rfl | exact rd1 rfl rfl rfl | exact rd2 rfl rfl rfl)))))) | (apply WD.cmp; rfl; rfl; rfl; rfl; intro _ _) | (apply WD.cmpT; rfl; rfl; rfl; rfl; intro _ _) | (apply WD.pur; rfl; (intro _; rfl)) | (apply WC.condA; rfl; all_goals (intro hb; try subst hb)))
      refine WL.le (t' := [(5, .ptr ⟨false, p5, 0⟩), (7, .map m), (8, w8), (16, vc), (17, .int .i64 (.ofNat cat.length)), (18, .int .i64 (.ofNat (i + 1)))]) (Sub1.cons rfl (Sub1.cons rfl (Sub1.cons rfl (Sub1.cons rfl (Sub1.cons rfl (Sub1.cons rfl Sub1.nil)))))) (WL.sub ((List.sublist_cons_self _ _).trans (List.sublist_cons_self _ _)) (ih _ (by omega) (i + 1) w8 hw ?_ (by omega) rfl))
      rw [hdt.2 (by rw [← hpk]; exact List.mem_map_of_mem hp)]
      exact o8
  · have hge : i = cat.length := by
      have h0 := eq_of_ff ‹false = true ↔ cmpP BinOp.lss (Int.ofNat i) (Int.ofNat cat.length)›
      simp [cmpP] at h0; omega
    subst hge
    rw [show (cat.map (·.1.id)).take cat.length = cat.map (·.1.id) by rw [List.take_of_length_le]; rw [List.length_map]; exact Nat.le_refl _] at o8
    refine ⟨trivial, [_], ⟨_, [], rfl, rfl, rfl⟩, _, ⟨hw, o8, rfl⟩, ?_⟩
    rw [hX]
    exact subF (by intro f; simp only [AV.cells, List.append_eq, List.map_cons, List.map_nil, List.sum_nil, List.map_append, List.sum_cons, List.sum_append, List.cons_append, List.nil_append, List.append_assoc, List.append_nil]; omega)
def sameC (a b : Ck) : Prop := a.svc = b.svc ∧ a.note = b.note ∧ a.st = b.st
def keepC (cat : List Ck) (x : Ck) : Prop := ∃ w, w ∈ cat ∧ w.id = x.id ∧ sameC x w
def layCm (node : Int) (c : Ck) : Cm := ⟨Int.ofNat 5, node, Int.ofNat 0, c.st, c.id, [], c.svc, c.note, []⟩
open Classical in
noncomputable def layPs (node : Int) (cat own : List Ck) : List (Cm × AV) := (own.filter fun x => decide (¬ keepC cat x)).map fun x => (layCm node x, .nilsl)
theorem layPs_cell {node : Int} {cat own : List Ck} : ∀ p, p ∈ layPs node cat own → p.2.isCell = true := by
  intro p hp
  obtain ⟨x, _, rfl⟩ := List.mem_map.1 hp
  rfl
theorem lay_take {node : Int} {cat own : List Ck} {i : Nat} (h : i < own.length) : (¬ keepC cat own[i] → layPs node cat (own.take (i + 1)) = layPs node cat (own.take i) ++ [(layCm node own[i], .nilsl)]) ∧ (keepC cat own[i] → layPs node cat (own.take (i + 1)) = layPs node cat (own.take i)) := by
  have e : own.take (i + 1) = own.take i ++ [own[i]] := List.take_succ_eq_append_getElem h
  unfold layPs
  rw [e, List.filter_append]
  constructor
  · intro hu; simp [hu]
  · intro hu; simp [hu]
theorem lay_len {node : Int} {cat own : List Ck} : (layPs node cat own).length ≤ own.length := by
  unfold layPs; rw [List.length_map]; exact List.length_filter_le _ _
theorem once_eq {α : Type} {l : List α} {key : α → List Nat} (h : Once (l.map key)) {x y : α} (hx : x ∈ l) (hy : y ∈ l) (e : key x = key y) : x = y := by
  obtain ⟨i, hi, rfl⟩ := List.getElem_of_mem hx
  obtain ⟨j, hj, rfl⟩ := List.getElem_of_mem hy
  rcases Nat.lt_trichotomy i j with h1 | h1 | h1
  · have := h i j (by rw [List.length_map]; exact hi) (by rw [List.length_map]; exact hj) h1
    simp only [List.getElem_map] at this
    exact absurd e this
  · subst h1; rfl
  · have := h j i (by rw [List.length_map]; exact hj) (by rw [List.length_map]; exact hi) h1
    simp only [List.getElem_map] at this
    exact absurd e.symm this
set_option maxHeartbeats 2000000 in
theorem lays20_ok {H : HL} {vo vc f2 : AV} {own cat : List Ck} {c : Nat} {node : Int} (hv : SlIs B H vo 7 (own.map fun p => ckC p)) (hc : SlIs B H vc 7 (cat.map fun p => ckC p)) (lo : own.length ≤ 1000) (lc : cat.length ≤ 1000) (ho : Once (cat.map fun p => p.id))
    (c2 : f2.isCell = true) (e2 : f2.cells = [f2]) (hn : Ld B H ⟨false, c, 0⟩ 1 [.int .i64 node]) :
    WF B tab (.func 23) [vo, vc, .agg [.fn (.func 33) [] [], .fn (.func 34) [] [], f2, .fn (.func 36) [] [.ptr ⟨false, c, 0⟩]]] H fun r H' => ∃ hw, OwnSl r (cmsC (layPs node cat own)) (layPs node cat own).length 17 hw ∧ H' = hw ++ H := by
  refine WF.lessP ?_
  refine WF.fn g23 rfl ?_
  repeat' (first
    | apply WOps.nil | apply WC.seq | apply WC.reg | apply WC.skip | apply WC.ret | apply WC.exit | (apply WC.condT; rfl) | (apply WC.condF; rfl) | apply WC.block | (apply WOps.ldG; rfl; rfl; (first | exact ld0 rfl | exact ld1 rfl | exact ld2 rfl); rfl) | (apply WOps.st; rfl; rfl; (first | exact tk0 | exact tk1 | exact tk2); rfl; (first | rfl | ((repeat' (first | exact ac0 | apply ac1)) <;> (first | rfl | assumption))); rfl) | (apply WOps.alc; rfl; intro _) | (apply WOps.bx; rfl; rfl; (first | rfl | ((repeat' (first | exact ac0 | apply ac1)) <;> (first | rfl | assumption))); intro _) | (apply WOps.bsl; rfl; (first | rfl | ((repeat' (first | exact ac0 | apply ac1)) <;> (first | rfl | assumption))); intro _) | (apply WOps.clA; rfl; rfl; exact known32_ok hc.cons (by omega) ⟨rfl, c2, rfl⟩ ⟨rfl, e2, rfl⟩ ho; rintro _ _ ⟨m, es, cc, rfl, hm, rfl⟩) | (apply WOps.lenS; rfl; rfl; exact hv.cons.cons) | (apply WOps.cmp; rfl; rfl; rfl; rfl; intro _ _) | (apply WOps.cmpT; rfl; rfl; rfl; rfl; intro _ _) | (apply WOps.purG; rfl; (intro _; rfl)) | (apply WOps.skp; rfl) | (apply WOps.ask; rfl; all_goals (intro hb; first | subst hb | fail_if_success (cases hb))) | (apply WC.condA; rfl; all_goals (intro hb; try subst hb)))
  rw [List.length_map]
  rename_i p5
  obtain ⟨X, hX⟩ : ∃ X : HL, X = (m, .map es cc) :: (p5, .row [.fn (.func 33) [] [], .fn (.func 34) [] [], f2, .fn (.func 36) [] [.ptr ⟨false, c, 0⟩]]) :: H := ⟨_, rfl⟩
  refine WC.loop ?_
  obtain ⟨i, hi⟩ : ∃ i : Nat, i = 0 := ⟨0, rfl⟩
  obtain ⟨w8, hw8⟩ : ∃ v, v = AV.nilsl := ⟨_, rfl⟩
  obtain ⟨hw, hhw⟩ : ∃ h : HL, h = [] := ⟨_, rfl⟩
  refine WL.le (t' := [(5, .ptr ⟨false, p5, 0⟩), (7, .map m), (8, w8), (16, vo), (17, .int .i64 (.ofNat own.length)), (18, .int .i64 (.ofNat i))]) (by subst hi; subst hw8; exact Sub1.cons rfl (Sub1.cons rfl (Sub1.cons rfl (Sub1.cons rfl (Sub1.cons rfl (Sub1.cons rfl Sub1.nil)))))) ?_
  refine WL.heq (H' := hw ++ X) (by rw [hhw, hX]; rfl) ?_
  have o8 : OwnSl w8 (cmsC (layPs node cat (own.take i))) (layPs node cat (own.take i)).length 17 hw := by subst hi; exact .inl ⟨hw8, rfl, rfl, hhw⟩
  have hle : i ≤ own.length := by omega
  clear hi hw8 hhw
  have tm : Tk X m (.map es cc) ((p5, .row [.fn (.func 33) [] [], .fn (.func 34) [] [], f2, .fn (.func 36) [] [.ptr ⟨false, c, 0⟩]]) :: H) := by rw [hX]; exact Tk.head
  have F0 : ∀ (o : Nat) (v : AV), takeN (List.drop o [.fn (.func 33) [] [], .fn (.func 34) [] [], f2, .fn (.func 36) [] [.ptr ⟨false, c, 0⟩]]) 1 = some [v] → Ld B (hw ++ X) ⟨false, p5, 0 + o⟩ 1 [v] := by
    intro o v h
    rw [Nat.zero_add]
    have h4 : Ld B X ⟨false, p5, o⟩ 1 [v] := by rw [hX]; exact Ld.own (Tk.tail Tk.head) h
    exact Ld.right h4
  have hoX : SlIs B X vo 7 (own.map fun p => ckC p) := by rw [hX]; exact hv.cons.cons
  have hnX : Ld B X ⟨false, c, 0⟩ 1 [.int .i64 node] := by rw [hX]; exact hn.cons.cons
  clear F0
  induction hk : own.length - i using Nat.strongRecOn generalizing i w8 hw with | _ k ih => ?_
  have F1 : ∀ (x : Nat × AObj) (o : Nat) (v : AV), takeN (List.drop o [.fn (.func 33) [] [], .fn (.func 34) [] [], f2, .fn (.func 36) [] [.ptr ⟨false, c, 0⟩]]) 1 = some [v] → Ld B (x :: (hw ++ X)) ⟨false, p5, 0 + o⟩ 1 [v] := by
    intro x o v h
    rw [Nat.zero_add]
    have h4 : Ld B X ⟨false, p5, o⟩ 1 [v] := by rw [hX]; exact Ld.own (Tk.tail Tk.head) h
    exact (Ld.right h4).cons
  have F2 : ∀ (x y : Nat × AObj) (o : Nat) (v : AV), takeN (List.drop o [.fn (.func 33) [] [], .fn (.func 34) [] [], f2, .fn (.func 36) [] [.ptr ⟨false, c, 0⟩]]) 1 = some [v] → Ld B (x :: y :: (hw ++ X)) ⟨false, p5, 0 + o⟩ 1 [v] := fun x y o v h => (F1 y o v h).cons
  apply WL.step
  repeat' (first
    | apply WOps.nil | apply WC.seq | apply WC.reg | apply WC.skip | apply WC.ret | apply WC.exit | (apply WC.condT; rfl) | (apply WC.condF; rfl) | apply WC.block | (apply WOps.ldG; rfl; rfl; (first | exact ld0 rfl | exact ld1 rfl | exact ld2 rfl); rfl) | (apply WOps.st; rfl; rfl; (first | exact tk0 | exact tk1 | exact tk2); rfl; (first | rfl | ((repeat' (first | exact ac0 | apply ac1)) <;> (first | rfl | assumption))); rfl) | (apply WOps.alc; rfl; intro _) | (apply WOps.bx; rfl; rfl; (first | rfl | ((repeat' (first | exact ac0 | apply ac1)) <;> (first | rfl | assumption))); intro _) | (apply WOps.bsl; rfl; (first | rfl | ((repeat' (first | exact ac0 | apply ac1)) <;> (first | rfl | assumption))); intro _) | (apply WOps.cmp; rfl; rfl; rfl; rfl; intro _ _) | (apply WOps.cmpT; rfl; rfl; rfl; rfl; intro _ _) | (apply WOps.purG; rfl; (intro _; rfl)) | (apply WOps.skp; rfl) | (apply WOps.ask; rfl; all_goals (intro hb; first | subst hb | fail_if_success (cases hb))) | (apply WC.condA; rfl; all_goals (intro hb; try subst hb)))
  · have hlt : i < own.length := by
      have h0 := ‹true = true ↔ cmpP BinOp.lss (Int.ofNat i) (Int.ofNat own.length)›
      simp [cmpP] at h0; omega
    have hcm : (own.map fun p => ckC p)[i]? = some (ckC own[i]) := by rw [List.getElem?_map, List.getElem?_eq_getElem hlt]; rfl
    have hlen : (layPs node cat (own.take i)).length ≤ 1000 := by
      have := lay_len (node := node) (cat := cat) (own := own.take i)
      rw [List.length_take] at this
      omega
    rcases look_cases (l := cat) (key := fun p => p.id) (cells := fun p => ckC p) (k := own[i].id) with ⟨hl, hnot⟩ | ⟨p, hp, hl, hpk⟩
    · have hnk : ¬ keepC cat own[i] := by
        rintro ⟨w, hw1, hw2, _⟩
        exact hnot (by rw [← hw2]; exact List.mem_map_of_mem (f := fun p => p.id) hw1)
      repeat' (first
        | apply WOps.nil | apply WC.seq | apply WC.reg | apply WC.skip | apply WC.ret | apply WC.exit | (apply WC.condT; rfl) | (apply WC.condF; rfl) | apply WC.block | (apply WOps.ldG; rfl; rfl; (first | exact ld0 rfl | exact ld1 rfl | exact ld2 rfl); rfl) | (apply WOps.st; rfl; rfl; (first | exact tk0 | exact tk1 | exact tk2); rfl; (first | rfl | ((repeat' (first | exact ac0 | apply ac1)) <;> (first | rfl | assumption))); rfl) | (apply WOps.alc; rfl; intro _) | (apply WOps.bx; rfl; rfl; (first | rfl | ((repeat' (first | exact ac0 | apply ac1)) <;> (first | rfl | assumption))); intro _) | (apply WOps.bsl; rfl; (first | rfl | ((repeat' (first | exact ac0 | apply ac1)) <;> (first | rfl | assumption))); intro _) | (apply WOps.ixSl; rfl; rfl; rfl; exact SlIs.right hoX; exact hcm; intro ax hax) | (apply WOps.ldG; rfl; rfl; exact hax; rfl) | (apply WOps.ldG; rfl; rfl; exact F1 _ 0 _ rfl; rfl) | (apply WOps.cvR; rfl; rfl; rfl; exact id28_ok; rintro _ rfl) | (apply WOps.lkp; rfl; rfl; rfl; exact Tk.tail (tk_right tm); exact hm; rw [hl]) | (apply WOps.ldG; rfl; rfl; exact F2 _ _ 1 _ rfl; rfl) | (apply WOps.ldG; rfl; rfl; exact F2 _ _ 3 _ rfl; rfl) | (apply WOps.cvR; rfl; rfl; rfl; exact same29_ok; rintro _ ⟨bb, rfl, hbb⟩; cases bb) | (apply WOps.cvR; rfl; rfl; rfl; exact lay31_ok (Ld.right hnX).cons.cons; rintro _ rfl) | (apply WOps.addN; rfl; rfl; rfl; omega) | (apply WOps.cmp; rfl; rfl; rfl; rfl; intro _ _) | (apply WOps.cmpT; rfl; rfl; rfl; rfl; intro _ _) | (apply WOps.purG; rfl; (intro _; rfl)) | (apply WOps.skp; rfl) | (apply WOps.ask; rfl; all_goals (intro hb; first | subst hb | fail_if_success (cases hb))) | (apply WC.condA; rfl; all_goals (intro hb; try subst hb)))
      refine WOps.app (n := (layPs node cat (own.take i)).length) rfl rfl rfl o8 (List.perm_append_comm_assoc [_, _, _] hw X) (src_one Tk.head rfl) (cms_cell layPs_cell) rfl rfl (by omega) ?_
      intro v2 h2 o2
      repeat' (first
        | apply WOps.nil | apply WC.seq | apply WC.reg | apply WC.skip | apply WC.ret | apply WC.exit | (apply WC.condT; rfl) | (apply WC.condF; rfl) | apply WC.block | (apply WOps.ldG; rfl; rfl; (first | exact ld0 rfl | exact ld1 rfl | exact ld2 rfl); rfl) | (apply WOps.st; rfl; rfl; (first | exact tk0 | exact tk1 | exact tk2); rfl; (first | rfl | ((repeat' (first | exact ac0 | apply ac1)) <;> (first | rfl | assumption))); rfl) | (apply WOps.alc; rfl; intro _) | (apply WOps.bx; rfl; rfl; (first | rfl | ((repeat' (first | exact ac0 | apply ac1)) <;> (first | rfl | assumption))); intro _) | (apply WOps.bsl; rfl; (first | rfl | ((repeat' (first | exact ac0 | apply ac1)) <;> (first | rfl | assumption))); intro _) | (apply WOps.addN; rfl; rfl; rfl; omega) | (apply WOps.cmp; rfl; rfl; rfl; rfl; intro _ _) | (apply WOps.cmpT; rfl; rfl; rfl; rfl; intro _ _) | (apply WOps.purG; rfl; (intro _; rfl)) | (apply WOps.skp; rfl) | (apply WOps.ask; rfl; all_goals (intro hb; first | subst hb | fail_if_success (cases hb))) | (apply WC.condA; rfl; all_goals (intro hb; try subst hb)))
      refine WL.le (t' := [(5, .ptr ⟨false, p5, 0⟩), (7, .map m), (8, v2), (16, vo), (17, .int .i64 (.ofNat own.length)), (18, .int .i64 (.ofNat (i + 1)))]) (Sub1.cons rfl (Sub1.cons rfl (Sub1.cons rfl (Sub1.cons rfl (Sub1.cons rfl (Sub1.cons rfl Sub1.nil)))))) (WL.lessP (H1 := h2 ++ X) (subF (by intro f; simp only [AV.cells, List.append_eq, List.map_cons, List.map_nil, List.sum_nil, List.map_append, List.sum_cons, List.sum_append, List.cons_append, List.nil_append, List.append_assoc, List.append_nil]; omega)) (ih _ (by omega) (i + 1) v2 h2 ?_ (by omega) rfl))
      rw [(lay_take hlt).1 hnk, cms_app, List.length_append]
      exact o2
    · repeat' (first
        | apply WOps.nil | apply WC.seq | apply WC.reg | apply WC.skip | apply WC.ret | apply WC.exit | (apply WC.condT; rfl) | (apply WC.condF; rfl) | apply WC.block | (apply WOps.ldG; rfl; rfl; (first | exact ld0 rfl | exact ld1 rfl | exact ld2 rfl); rfl) | (apply WOps.st; rfl; rfl; (first | exact tk0 | exact tk1 | exact tk2); rfl; (first | rfl | ((repeat' (first | exact ac0 | apply ac1)) <;> (first | rfl | assumption))); rfl) | (apply WOps.alc; rfl; intro _) | (apply WOps.bx; rfl; rfl; (first | rfl | ((repeat' (first | exact ac0 | apply ac1)) <;> (first | rfl | assumption))); intro _) | (apply WOps.bsl; rfl; (first | rfl | ((repeat' (first | exact ac0 | apply ac1)) <;> (first | rfl | assumption))); intro _) | (apply WOps.ixSl; rfl; rfl; rfl; exact SlIs.right hoX; exact hcm; intro ax hax) | (apply WOps.ldG; rfl; rfl; exact hax; rfl) | (apply WOps.ldG; rfl; rfl; exact F1 _ 0 _ rfl; rfl) | (apply WOps.cvR; rfl; rfl; rfl; exact id28_ok; rintro _ rfl) | (apply WOps.lkp; rfl; rfl; rfl; exact Tk.tail (tk_right tm); exact hm; rw [hl]) | (apply WOps.ldG; rfl; rfl; exact F2 _ _ 1 _ rfl; rfl) | (apply WOps.ldG; rfl; rfl; exact F2 _ _ 3 _ rfl; rfl) | (apply WOps.cvR; rfl; rfl; rfl; exact same29_ok; rintro _ ⟨bb, rfl, hbb⟩; cases bb) | (apply WOps.cvR; rfl; rfl; rfl; exact lay31_ok (Ld.right hnX).cons.cons; rintro _ rfl) | (apply WOps.addN; rfl; rfl; rfl; omega) | (apply WOps.cmp; rfl; rfl; rfl; rfl; intro _ _) | (apply WOps.cmpT; rfl; rfl; rfl; rfl; intro _ _) | (apply WOps.purG; rfl; (intro _; rfl)) | (apply WOps.skp; rfl) | (apply WOps.ask; rfl; all_goals (intro hb; first | subst hb | fail_if_success (cases hb))) | (apply WC.condA; rfl; all_goals (intro hb; try subst hb)))
      · have hnk : ¬ keepC cat own[i] := by
          rintro ⟨w, hw1, hw2, hw3⟩
          obtain rfl := once_eq ho hw1 hp (hw2.trans hpk.symm)
          exact (eq_of_ff hbb) hw3
        refine WOps.app (n := (layPs node cat (own.take i)).length) rfl rfl rfl o8 (List.perm_append_comm_assoc [_, _, _] hw X) (src_one Tk.head rfl) (cms_cell layPs_cell) rfl rfl (by omega) ?_
        intro v2 h2 o2
        repeat' (first
          | apply WOps.nil | apply WC.seq | apply WC.reg | apply WC.skip | apply WC.ret | apply WC.exit | (apply WC.condT; rfl) | (apply WC.condF; rfl) | apply WC.block | (apply WOps.ldG; rfl; rfl; (first | exact ld0 rfl | exact ld1 rfl | exact ld2 rfl); rfl) | (apply WOps.st; rfl; rfl; (first | exact tk0 | exact tk1 | exact tk2); rfl; (first | rfl | ((repeat' (first | exact ac0 | apply ac1)) <;> (first | rfl | assumption))); rfl) | (apply WOps.alc; rfl; intro _) | (apply WOps.bx; rfl; rfl; (first | rfl | ((repeat' (first | exact ac0 | apply ac1)) <;> (first | rfl | assumption))); intro _) | (apply WOps.bsl; rfl; (first | rfl | ((repeat' (first | exact ac0 | apply ac1)) <;> (first | rfl | assumption))); intro _) | (apply WOps.addN; rfl; rfl; rfl; omega) | (apply WOps.cmp; rfl; rfl; rfl; rfl; intro _ _) | (apply WOps.cmpT; rfl; rfl; rfl; rfl; intro _ _) | (apply WOps.purG; rfl; (intro _; rfl)) | (apply WOps.skp; rfl) | (apply WOps.ask; rfl; all_goals (intro hb; first | subst hb | fail_if_success (cases hb))) | (apply WC.condA; rfl; all_goals (intro hb; try subst hb)))
        refine WL.le (t' := [(5, .ptr ⟨false, p5, 0⟩), (7, .map m), (8, v2), (16, vo), (17, .int .i64 (.ofNat own.length)), (18, .int .i64 (.ofNat (i + 1)))]) (Sub1.cons rfl (Sub1.cons rfl (Sub1.cons rfl (Sub1.cons rfl (Sub1.cons rfl (Sub1.cons rfl Sub1.nil)))))) (WL.lessP (H1 := h2 ++ X) (subF (by intro f; simp only [AV.cells, List.append_eq, List.map_cons, List.map_nil, List.sum_nil, List.map_append, List.sum_cons, List.sum_append, List.cons_append, List.nil_append, List.append_assoc, List.append_nil]; omega)) (ih _ (by omega) (i + 1) v2 h2 ?_ (by omega) rfl))
        rw [(lay_take hlt).1 hnk, cms_app, List.length_append]
        exact o2
      · have hyk : keepC cat own[i] := ⟨p, hp, hpk, hbb.1 rfl⟩
        exact WL.le (t' := [(5, .ptr ⟨false, p5, 0⟩), (7, .map m), (8, w8), (16, vo), (17, .int .i64 (.ofNat own.length)), (18, .int .i64 (.ofNat (i + 1)))]) (Sub1.cons rfl (Sub1.cons rfl (Sub1.cons rfl (Sub1.cons rfl (Sub1.cons rfl (Sub1.cons rfl Sub1.nil)))))) (WL.sub ((List.sublist_cons_self _ _).trans (List.sublist_cons_self _ _)) (ih _ (by omega) (i + 1) w8 hw (by rw [(lay_take hlt).2 hyk]; exact o8) (by omega) rfl))
  · have hge : i = own.length := by
      have h0 := eq_of_ff ‹false = true ↔ cmpP BinOp.lss (Int.ofNat i) (Int.ofNat own.length)›
      simp [cmpP] at h0; omega
    subst hge
    rw [List.take_length] at o8
    refine ⟨trivial, [_], ⟨_, [], rfl, rfl, rfl⟩, _, ⟨hw, o8, rfl⟩, ?_⟩
    rw [hX]
    exact subF (by intro f; simp only [AV.cells, List.append_eq, List.map_cons, List.map_nil, List.sum_nil, List.map_append, List.sum_cons, List.sum_append, List.cons_append, List.nil_append, List.append_assoc, List.append_nil]; omega)
theorem takeN_iff : ∀ {l c : List AV} {n : Nat}, takeN l n = some c → n ≤ l.length ∧ c = l.take n := by
  intro l c n h
  by_cases hn : n ≤ l.length
  · rw [takeN_of hn] at h
    cases h
    exact ⟨hn, rfl⟩
  · exfalso
    have key : ∀ (l : List AV) (n : Nat), ¬ n ≤ l.length → takeN l n = none := by
      intro l
      induction l with
      | nil => intro n hn; cases n with
        | zero => exact absurd (Nat.zero_le _) hn
        | succ n => rfl
      | cons x l ih => intro n hn; cases n with
        | zero => exact absurd (Nat.zero_le _) hn
        | succ n => simp only [takeN, ih n (by simpa using hn)]
    rw [key l n hn] at h
    cases h
theorem src_of {v : AV} {esz : Nat} {xs : List (List AV)} (h : SlIs B [] v esz xs) : ∀ {H : HL}, SrcIs B H v esz xs.length xs.flatten := by
  intro H
  rcases h with ⟨rfl, rfl⟩ | ⟨a, rfl, h⟩
  · exact .inl ⟨rfl, rfl, rfl⟩
  · refine .inr ⟨a, rfl, ?_⟩
    cases xs with
    | nil => exact .inl ⟨rfl, rfl⟩
    | cons x0 xs0 =>
      right
      have hro : a.ro = true := by
        rcases h 0 x0 rfl with ⟨h1, _⟩ | ⟨_, cs, R, tk, _⟩
        · exact h1
        · have := tk.length_eq
          simp at this
      left
      refine ⟨hro, ?_⟩
      have key : ∀ (ys : List (List AV)) (off : Nat), (∀ i c, ys[i]? = some c → takeN ((B a.id).drop (off + i * esz)) esz = some c) → takeN ((B a.id).drop off) (ys.length * esz) = some ys.flatten := by
        intro ys
        induction ys with
        | nil => intro off _; simp [takeN_of]
        | cons y ys ih =>
          intro off hh
          have h0 := takeN_iff (hh 0 y rfl)
          rw [Nat.zero_mul, Nat.add_zero] at h0
          have h1 := takeN_iff (ih (off + esz) fun i c hc => by
            have := hh (i + 1) c (by simpa using hc)
            rw [Nat.succ_mul] at this
            rw [show off + esz + i * esz = off + (i * esz + esz) by omega]
            exact this)
          rw [List.length_drop] at h0 h1
          rw [takeN_of (by rw [List.length_drop, List.length_cons, Nat.succ_mul]; omega), List.length_cons, Nat.succ_mul, Nat.add_comm (ys.length * esz) esz, List.take_add, List.flatten_cons, h1.2, h0.2, List.drop_drop]
      refine key (x0 :: xs0) a.off fun i c hc => ?_
      rcases h i c hc with ⟨_, h2⟩ | ⟨_, cs, R, tk, _⟩
      · exact h2
      · have := tk.length_eq
        simp at this
theorem strs_len : ∀ (l : List (List Nat)), (l.map strC).flatten.length = l.length * 1 := by
  intro l
  induction l with
  | nil => rfl
  | cons x l ih => rw [List.map_cons, List.flatten_cons, List.length_append, ih]; simp [strC]; omega
theorem strs_cell : ∀ (l : List (List Nat)), allCell (l.map strC).flatten = true := by
  intro l
  rw [allCell_iff]
  intro v hv
  simp only [List.mem_flatten, List.mem_map] at hv
  obtain ⟨_, ⟨e, _, rfl⟩, hv⟩ := hv
  simp only [strC, List.mem_singleton] at hv
  subst hv; rfl
theorem strs_sl {v : AV} {l : List (List Nat)} {h : HL} (o : OwnSl v (l.map strC).flatten l.length 1 h) : SlIs B h v 1 (l.map strC) := by
  have o2 : OwnSl v (l.map strC).flatten (l.map strC).length 1 h := by simpa using o
  exact OwnSl.sl o2 (by intro c hc; simp only [List.mem_map] at hc; obtain ⟨e, _, rfl⟩ := hc; rfl)
theorem clone27_ok {H : HL} {v : AV} {tags : List (List Nat)} (hv : SlIs B [] v 1 (tags.map strC)) (hl : tags.length ≤ 8796093021952) :
    WF B tab (.func 32) [v] H fun r H' => ∃ hc, OwnSl r (tags.map strC).flatten tags.length 1 hc ∧ H' = hc ++ H := by
  refine WF.fn g32 rfl ?_
  have hs : ∀ {H : HL}, SrcIs B H v 1 tags.length (tags.map strC).flatten := by
    intro H
    have := src_of hv (H := H)
    rwa [List.length_map] at this
  rcases id hv with ⟨rfl, h0⟩ | ⟨a, rfl, _⟩
  · have ht : tags = [] := by simpa using h0
    subst ht
    repeat' (first
      | apply WOps.nil | apply WC.seq | apply WC.reg | apply WC.skip | apply WC.ret | (apply WC.condT; rfl) | (apply WC.condF; rfl) | (apply WOps.bsl; rfl; (first | rfl | ((repeat' (first | exact ac0 | apply ac1)) <;> (first | rfl | assumption))); intro _) | (apply WOps.eqB; rfl; rfl; rfl; intro _ _) | (apply WOps.purG; rfl; (intro _; rfl)) | (apply WC.condA; rfl; all_goals (intro hb; try subst hb)))
    exact ⟨trivial, [_], ⟨_, [], rfl, rfl, rfl⟩, [], .inl ⟨rfl, rfl, rfl, rfl⟩, rfl⟩
  · repeat' (first
      | apply WOps.nil | apply WC.seq | apply WC.reg | apply WC.skip | apply WC.ret | (apply WC.condT; rfl) | (apply WC.condF; rfl) | (apply WOps.bsl; rfl; (first | rfl | ((repeat' (first | exact ac0 | apply ac1)) <;> (first | rfl | assumption))); intro _) | (apply WOps.eqB; rfl; rfl; rfl; intro _ _) | (apply WOps.purG; rfl; (intro _; rfl)) | (apply WC.condA; rfl; all_goals (intro hb; try subst hb)))
    rename_i q
    refine WOps.app (h := [(q, .row [])]) (cells := []) (n := 0) rfl rfl rfl (.inr ⟨q, rfl, rfl, rfl⟩) (List.Perm.refl _) hs rfl (strs_cell _) (strs_len _) (by omega) ?_
    intro v2 h2 o2
    repeat' (first
      | apply WOps.nil | apply WC.seq | apply WC.reg | apply WC.skip | apply WC.ret | (apply WC.condT; rfl) | (apply WC.condF; rfl) | (apply WOps.bsl; rfl; (first | rfl | ((repeat' (first | exact ac0 | apply ac1)) <;> (first | rfl | assumption))); intro _) | (apply WOps.eqB; rfl; rfl; rfl; intro _ _) | (apply WOps.purG; rfl; (intro _; rfl)) | (apply WC.condA; rfl; all_goals (intro hb; try subst hb)))
    refine ⟨trivial, [_], ⟨_, [], rfl, rfl, rfl⟩, h2, ?_, rfl⟩
    have o3 : OwnSl v2 (tags.map strC).flatten tags.length 1 h2 := by simpa using o2
    exact o3
def layS (node : Int) (s : Sv) : Cm := ⟨Int.ofNat 3, node, s.port, Int.ofNat 0, s.id, s.name, [], [], s.tags⟩
theorem lay26_ok {H : HL} {p : Nat} {node : Int} {s : Sv} {tv : AV} (hv : SlIs B [] tv 1 (s.tags.map strC)) (hl : s.tags.length ≤ 8796093021952) (h : Ld B H ⟨false, p, 0⟩ 1 [.int .i64 node]) :
    WF B tab (.func 31) [.agg (svC s tv), .ptr ⟨false, p, 0⟩] H fun r H' => ∃ tv' hc, r = .agg (cmC (layS node s) tv') ∧ OwnSl tv' (s.tags.map strC).flatten s.tags.length 1 hc ∧ H' = hc ++ H := by
  refine WF.lessP ?_
  refine WF.fn g31 rfl ?_
  have ct := hv.cell
  repeat' (first
    | apply WOps.nil | apply WC.seq | apply WC.reg | apply WC.skip | apply WC.ret | apply WC.dreg | apply WD.nil | (apply WOps.ldG; rfl; rfl; (first | exact ld0 rfl | exact ld1 rfl | exact ld2 rfl); rfl) | (apply WOps.st; rfl; rfl; (first | exact tk0 | exact tk1 | exact tk2); rfl; (first | rfl | ((repeat' (first | exact ac0 | apply ac1)) <;> (first | rfl | assumption))); rfl) | (apply WOps.alc; rfl; intro _) | (apply WOps.bx; rfl; rfl; (first | rfl | ((repeat' (first | exact ac0 | apply ac1)) <;> (first | rfl | assumption))); intro _) | (apply WD.st; rfl; rfl; rfl; (first | exact tk0 | exact tk1 | exact tk2); rfl; (first | rfl | ((repeat' (first | exact ac0 | apply ac1)) <;> (first | rfl | assumption))); rfl) | (apply WD.alc; rfl; rfl; intro _) | (apply WD.clA; rfl; rfl; exact clone27_ok hv hl; rintro tv' _ ⟨hc, o', rfl⟩; rcases id o' with ⟨rfl, _⟩ | ⟨id2, rfl, _⟩) | (apply WD.load; rfl; (apply at2; exact rd_ld0 rfl (Ld.right h.cons.cons); (apply same2; exact rd_ld0 rfl h.cons.cons; exact same0))) | (apply WD.load; rfl; (apply at2; exact rd_ld rfl (Ld.right (ld1 rfl)) rfl; (apply same2; exact rd1 rfl rfl rfl; exact same0))) | (apply WD.st; rfl; rfl; rfl; exact List.perm_middle; rfl; rfl; rfl) | (apply WOps.purG; rfl; (intro _; rfl)) | (apply WD.load; rfl; (first | (apply at1; (first | exact rd0 rfl rfl rfl | exact rd1 rfl rfl rfl | exact rd2 rfl rfl rfl); rfl) | (apply at2; (first | exact rd0 rfl rfl rfl | exact rd1 rfl rfl rfl | exact rd2 rfl rfl rfl); repeat' (first | exact same0 | (apply same1; (first | exact rd0 rfl rfl rfl | exact rd1 rfl rfl rfl | exact rd2 rfl rfl rfl); rfl) | (apply same2; (first | exact rd0 rfl rfl rfl | exact rd1 rfl rfl rfl | exact rd2 rfl rfl rfl)))))) | (apply WD.pur; rfl; (intro _; rfl)))
  all_goals exact ⟨trivial, [_], ⟨_, _, rfl, ⟨_, _, rfl, ld0 rfl, rfl⟩, rfl⟩, _, ⟨_, hc, rfl, o', rfl⟩, subF (by intro f; simp only [AV.cells, List.append_eq, List.map_cons, List.map_nil, List.sum_nil, List.map_append, List.sum_cons, List.sum_append, List.cons_append, List.nil_append, List.append_assoc, List.append_nil]; omega)⟩
def sameS (a b : Sv) : Prop := a.name = b.name ∧ a.tags = b.tags ∧ a.port = b.port
def keepS (cat : List (Sv × AV)) (x : Sv) : Prop := ∃ w, w ∈ cat ∧ w.1.id = x.id ∧ sameS x w.1
open Classical in
noncomputable def layL (node : Int) (cat own : List (Sv × AV)) : List Cm := (own.filter fun x => decide (¬ keepS cat x.1)).map fun x => layS node x.1
theorem layS_take {node : Int} {cat own : List (Sv × AV)} {i : Nat} (h : i < own.length) : (¬ keepS cat own[i].1 → layL node cat (own.take (i + 1)) = layL node cat (own.take i) ++ [layS node own[i].1]) ∧ (keepS cat own[i].1 → layL node cat (own.take (i + 1)) = layL node cat (own.take i)) := by
  have e : own.take (i + 1) = own.take i ++ [own[i]] := List.take_succ_eq_append_getElem h
  unfold layL
  rw [e, List.filter_append]
  constructor
  · intro hu; simp [hu]
  · intro hu; simp [hu]
theorem layL_len {node : Int} {cat own : List (Sv × AV)} : (layL node cat own).length ≤ own.length := by
  unfold layL; rw [List.length_map]; exact List.length_filter_le _ _
def TagsIn (B : Nat → List AV) (l : List (Sv × AV)) : Prop := ∀ p, p ∈ l → SlIs B [] p.2 1 (p.1.tags.map strC) ∧ p.1.tags.length ≤ 8796093021952
theorem permO {x y z : Nat × AObj} {hc hw Y : HL} : (x :: (hc ++ (y :: z :: (hw ++ Y)))).Perm (hw ++ (x :: (hc ++ (y :: z :: Y)))) := permF (by intro f; simp only [AV.cells, List.append_eq, List.map_cons, List.map_nil, List.sum_nil, List.map_append, List.sum_cons, List.sum_append, List.cons_append, List.nil_append, List.append_assoc, List.append_nil]; omega)
set_option maxHeartbeats 2000000 in
theorem lays19_ok {H : HL} {vo vc f2 : AV} {own cat : List (Sv × AV)} {c : Nat} {node : Int} (hv : SlIs B H vo 7 (own.map fun p => svC p.1 p.2)) (hc : SlIs B H vc 7 (cat.map fun p => svC p.1 p.2)) (lo : own.length ≤ 1000) (lc : cat.length ≤ 1000) (ho : Once (cat.map fun p => p.1.id))
    (to : TagsIn B own) (tc : TagsIn B cat) (c2 : f2.isCell = true) (e2 : f2.cells = [f2]) (hn : Ld B H ⟨false, c, 0⟩ 1 [.int .i64 node]) :
    WF B tab (.func 22) [vo, vc, .agg [.fn (.func 27) [] [], .fn (.func 28) [] [], f2, .fn (.func 31) [] [.ptr ⟨false, c, 0⟩]]] H fun r H' => ∃ hw G ps, ps.map (·.1) = layL node cat own ∧ OwnSl r (cmsC ps) ps.length 17 hw ∧ (∀ p, p ∈ ps → SlIs B G p.2 1 (p.1.tags.map strC)) ∧ H' = hw ++ (G ++ H) := by
  refine WF.lessP ?_
  refine WF.fn g22 rfl ?_
  repeat' (first
    | apply WOps.nil | apply WC.seq | apply WC.reg | apply WC.skip | apply WC.ret | apply WC.exit | (apply WC.condT; rfl) | (apply WC.condF; rfl) | apply WC.block | (apply WOps.ldG; rfl; rfl; (first | exact ld0 rfl | exact ld1 rfl | exact ld2 rfl); rfl) | (apply WOps.st; rfl; rfl; (first | exact tk0 | exact tk1 | exact tk2); rfl; (first | rfl | ((repeat' (first | exact ac0 | apply ac1)) <;> (first | rfl | assumption))); rfl) | (apply WOps.alc; rfl; intro _) | (apply WOps.bx; rfl; rfl; (first | rfl | ((repeat' (first | exact ac0 | apply ac1)) <;> (first | rfl | assumption))); intro _) | (apply WOps.bsl; rfl; (first | rfl | ((repeat' (first | exact ac0 | apply ac1)) <;> (first | rfl | assumption))); intro _) | (apply WOps.clA; rfl; rfl; exact known33_ok hc.cons (by omega) ⟨rfl, c2, rfl⟩ ⟨rfl, e2, rfl⟩ ho (fun p hp => (tc p hp).1.cell); rintro _ _ ⟨m, es, cc, rfl, hm, rfl⟩) | (apply WOps.lenS; rfl; rfl; exact hv.cons.cons) | (apply WOps.cmp; rfl; rfl; rfl; rfl; intro _ _) | (apply WOps.cmpT; rfl; rfl; rfl; rfl; intro _ _) | (apply WOps.purG; rfl; (intro _; rfl)) | (apply WOps.skp; rfl) | (apply WOps.ask; rfl; all_goals (intro hb; first | subst hb | fail_if_success (cases hb))) | (apply WC.condA; rfl; all_goals (intro hb; try subst hb)))
  rw [List.length_map]
  rename_i p5
  obtain ⟨X, hX⟩ : ∃ X : HL, X = (m, .map es cc) :: (p5, .row [.fn (.func 27) [] [], .fn (.func 28) [] [], f2, .fn (.func 31) [] [.ptr ⟨false, c, 0⟩]]) :: H := ⟨_, rfl⟩
  refine WC.loop ?_
  obtain ⟨i, hi⟩ : ∃ i : Nat, i = 0 := ⟨0, rfl⟩
  obtain ⟨w8, hw8⟩ : ∃ v, v = AV.nilsl := ⟨_, rfl⟩
  obtain ⟨hw, hhw⟩ : ∃ h : HL, h = [] := ⟨_, rfl⟩
  obtain ⟨ps, hps0⟩ : ∃ p : List (Cm × AV), p = [] := ⟨_, rfl⟩
  obtain ⟨G, hG⟩ : ∃ g : HL, g = [] := ⟨_, rfl⟩
  refine WL.le (t' := [(5, .ptr ⟨false, p5, 0⟩), (7, .map m), (8, w8), (16, vo), (17, .int .i64 (.ofNat own.length)), (18, .int .i64 (.ofNat i))]) (by subst hi; subst hw8; exact Sub1.cons rfl (Sub1.cons rfl (Sub1.cons rfl (Sub1.cons rfl (Sub1.cons rfl (Sub1.cons rfl Sub1.nil)))))) ?_
  refine WL.heq (H' := hw ++ (G ++ X)) (by rw [hhw, hG, hX]; rfl) ?_
  have o8 : OwnSl w8 (cmsC ps) ps.length 17 hw := by subst hps0; exact .inl ⟨hw8, rfl, rfl, hhw⟩
  have hpm : ps.map (·.1) = layL node cat (own.take i) := by subst hi hps0; rfl
  have hps : ∀ p, p ∈ ps → SlIs B G p.2 1 (p.1.tags.map strC) := by subst hps0; intro p hp; cases hp
  have hle : i ≤ own.length := by omega
  clear hi hw8 hhw hps0 hG
  have tm : Tk X m (.map es cc) ((p5, .row [.fn (.func 27) [] [], .fn (.func 28) [] [], f2, .fn (.func 31) [] [.ptr ⟨false, c, 0⟩]]) :: H) := by rw [hX]; exact Tk.head
  have hoX : SlIs B X vo 7 (own.map fun p => svC p.1 p.2) := by rw [hX]; exact hv.cons.cons
  have hnX : Ld B X ⟨false, c, 0⟩ 1 [.int .i64 node] := by rw [hX]; exact hn.cons.cons
  induction hk : own.length - i using Nat.strongRecOn generalizing i w8 hw ps G with | _ k ih => ?_
  have F1 : ∀ (x : Nat × AObj) (o : Nat) (v : AV), takeN (List.drop o [.fn (.func 27) [] [], .fn (.func 28) [] [], f2, .fn (.func 31) [] [.ptr ⟨false, c, 0⟩]]) 1 = some [v] → Ld B (x :: (hw ++ (G ++ X))) ⟨false, p5, 0 + o⟩ 1 [v] := by
    intro x o v h
    rw [Nat.zero_add]
    have h4 : Ld B X ⟨false, p5, o⟩ 1 [v] := by rw [hX]; exact Ld.own (Tk.tail Tk.head) h
    exact (Ld.right (Ld.right h4)).cons
  have F2 : ∀ (x y : Nat × AObj) (o : Nat) (v : AV), takeN (List.drop o [.fn (.func 27) [] [], .fn (.func 28) [] [], f2, .fn (.func 31) [] [.ptr ⟨false, c, 0⟩]]) 1 = some [v] → Ld B (x :: y :: (hw ++ (G ++ X))) ⟨false, p5, 0 + o⟩ 1 [v] := fun x y o v h => (F1 y o v h).cons
  apply WL.step
  repeat' (first
    | apply WOps.nil | apply WC.seq | apply WC.reg | apply WC.skip | apply WC.ret | apply WC.exit | (apply WC.condT; rfl) | (apply WC.condF; rfl) | apply WC.block | (apply WOps.ldG; rfl; rfl; (first | exact ld0 rfl | exact ld1 rfl | exact ld2 rfl); rfl) | (apply WOps.st; rfl; rfl; (first | exact tk0 | exact tk1 | exact tk2); rfl; (first | rfl | ((repeat' (first | exact ac0 | apply ac1)) <;> (first | rfl | assumption))); rfl) | (apply WOps.alc; rfl; intro _) | (apply WOps.bx; rfl; rfl; (first | rfl | ((repeat' (first | exact ac0 | apply ac1)) <;> (first | rfl | assumption))); intro _) | (apply WOps.bsl; rfl; (first | rfl | ((repeat' (first | exact ac0 | apply ac1)) <;> (first | rfl | assumption))); intro _) | (apply WOps.cmp; rfl; rfl; rfl; rfl; intro _ _) | (apply WOps.cmpT; rfl; rfl; rfl; rfl; intro _ _) | (apply WOps.purG; rfl; (intro _; rfl)) | (apply WOps.skp; rfl) | (apply WOps.ask; rfl; all_goals (intro hb; first | subst hb | fail_if_success (cases hb))) | (apply WC.condA; rfl; all_goals (intro hb; try subst hb)))
  · have hlt : i < own.length := by
      have h0 := ‹true = true ↔ cmpP BinOp.lss (Int.ofNat i) (Int.ofNat own.length)›
      simp [cmpP] at h0; omega
    have hcm : (own.map fun p => svC p.1 p.2)[i]? = some (svC own[i].1 own[i].2) := by rw [List.getElem?_map, List.getElem?_eq_getElem hlt]; rfl
    obtain ⟨hto, ltag⟩ := to _ (List.getElem_mem hlt)
    have hcell := hto.cell
    have hlen : ps.length ≤ 1000 := by
      have h1 := congrArg List.length hpm
      have := layL_len (node := node) (cat := cat) (own := own.take i)
      rw [List.length_take] at this
      rw [List.length_map] at h1
      omega
    rcases look_cases (l := cat) (key := fun p => p.1.id) (cells := fun p => svC p.1 p.2) (k := own[i].1.id) with ⟨hl, hnot⟩ | ⟨p, hp, hl, hpk⟩
    · have hnk : ¬ keepS cat own[i].1 := by
        rintro ⟨w, hw1, hw2, _⟩
        exact hnot (by rw [← hw2]; exact List.mem_map_of_mem (f := fun p => p.1.id) hw1)
      repeat' (first
        | apply WOps.nil | apply WC.seq | apply WC.reg | apply WC.skip | apply WC.ret | apply WC.exit | (apply WC.condT; rfl) | (apply WC.condF; rfl) | apply WC.block | (apply WOps.ldG; rfl; rfl; (first | exact ld0 rfl | exact ld1 rfl | exact ld2 rfl); rfl) | (apply WOps.st; rfl; rfl; (first | exact tk0 | exact tk1 | exact tk2); rfl; (first | rfl | ((repeat' (first | exact ac0 | apply ac1)) <;> (first | rfl | assumption))); rfl) | (apply WOps.alc; rfl; intro _) | (apply WOps.bx; rfl; rfl; (first | rfl | ((repeat' (first | exact ac0 | apply ac1)) <;> (first | rfl | assumption))); intro _) | (apply WOps.bsl; rfl; (first | rfl | ((repeat' (first | exact ac0 | apply ac1)) <;> (first | rfl | assumption))); intro _) | (apply WOps.ixSl; rfl; rfl; rfl; exact SlIs.right (SlIs.right hoX); exact hcm; intro ax hax) | (apply WOps.ldG; rfl; rfl; exact hax; rfl) | (apply WOps.ldG; rfl; rfl; exact F1 _ 0 _ rfl; rfl) | (apply WOps.cvR; rfl; rfl; rfl; exact id22_ok hcell; rintro _ rfl) | (apply WOps.lkp; rfl; rfl; rfl; exact Tk.tail (tk_right (tk_right tm)); exact hm; rw [hl]) | (apply WOps.ldG; rfl; rfl; exact F2 _ _ 1 _ rfl; rfl) | (apply WOps.ldG; rfl; rfl; exact F2 _ _ 3 _ rfl; rfl) | (apply WOps.cvA; rfl; rfl; rfl; exact lay26_ok hto ltag (Ld.right (Ld.right hnX)).cons.cons; rintro _ _ ⟨tv', hc', rfl, o', rfl⟩; rcases id o' with ⟨rfl, _⟩ | ⟨id2, rfl, _⟩) | (apply WOps.cmp; rfl; rfl; rfl; rfl; intro _ _) | (apply WOps.cmpT; rfl; rfl; rfl; rfl; intro _ _) | (apply WOps.purG; rfl; (intro _; rfl)) | (apply WOps.skp; rfl) | (apply WOps.ask; rfl; all_goals (intro hb; first | subst hb | fail_if_success (cases hb))) | (apply WC.condA; rfl; all_goals (intro hb; try subst hb)))
      · refine WOps.app (n := ps.length) rfl rfl rfl o8 permO (src_one Tk.head rfl) (cms_cell (fun p hp => (hps p hp).cell)) rfl rfl (by omega) ?_
        intro v2 h2 o2
        repeat' (first
          | apply WOps.nil | apply WC.seq | apply WC.reg | apply WC.skip | apply WC.ret | apply WC.exit | (apply WC.condT; rfl) | (apply WC.condF; rfl) | apply WC.block | (apply WOps.ldG; rfl; rfl; (first | exact ld0 rfl | exact ld1 rfl | exact ld2 rfl); rfl) | (apply WOps.st; rfl; rfl; (first | exact tk0 | exact tk1 | exact tk2); rfl; (first | rfl | ((repeat' (first | exact ac0 | apply ac1)) <;> (first | rfl | assumption))); rfl) | (apply WOps.alc; rfl; intro _) | (apply WOps.bx; rfl; rfl; (first | rfl | ((repeat' (first | exact ac0 | apply ac1)) <;> (first | rfl | assumption))); intro _) | (apply WOps.bsl; rfl; (first | rfl | ((repeat' (first | exact ac0 | apply ac1)) <;> (first | rfl | assumption))); intro _) | (apply WOps.addN; rfl; rfl; rfl; omega) | (apply WOps.cmp; rfl; rfl; rfl; rfl; intro _ _) | (apply WOps.cmpT; rfl; rfl; rfl; rfl; intro _ _) | (apply WOps.purG; rfl; (intro _; rfl)) | (apply WOps.skp; rfl) | (apply WOps.ask; rfl; all_goals (intro hb; first | subst hb | fail_if_success (cases hb))) | (apply WC.condA; rfl; all_goals (intro hb; try subst hb)))
        refine WL.le (t' := [(5, .ptr ⟨false, p5, 0⟩), (7, .map m), (8, v2), (16, vo), (17, .int .i64 (.ofNat own.length)), (18, .int .i64 (.ofNat (i + 1)))]) (Sub1.cons rfl (Sub1.cons rfl (Sub1.cons rfl (Sub1.cons rfl (Sub1.cons rfl (Sub1.cons rfl Sub1.nil)))))) (WL.lessP (H1 := h2 ++ ((hc' ++ G) ++ X)) (subF (by intro f; simp only [AV.cells, List.append_eq, List.map_cons, List.map_nil, List.sum_nil, List.map_append, List.sum_cons, List.sum_append, List.cons_append, List.nil_append, List.append_assoc, List.append_nil]; omega)) (ih _ (by omega) (i + 1) v2 h2 (ps ++ [(layS node own[i].1, .nilsl)]) (hc' ++ G) ?_ ?_ ?_ (by omega) rfl))
        · rw [cms_app, List.length_append]; exact o2
        · rw [(layS_take hlt).1 hnk, List.map_append, hpm]; rfl
        · intro p hp
          rcases List.mem_append.1 hp with hp | hp
          · exact SlIs.right (hps p hp)
          · rw [List.mem_singleton] at hp
            subst hp
            exact SlIs.left (strs_sl o')
      · refine WOps.app (n := ps.length) rfl rfl rfl o8 permO (src_one Tk.head rfl) (cms_cell (fun p hp => (hps p hp).cell)) rfl rfl (by omega) ?_
        intro v2 h2 o2
        repeat' (first
          | apply WOps.nil | apply WC.seq | apply WC.reg | apply WC.skip | apply WC.ret | apply WC.exit | (apply WC.condT; rfl) | (apply WC.condF; rfl) | apply WC.block | (apply WOps.ldG; rfl; rfl; (first | exact ld0 rfl | exact ld1 rfl | exact ld2 rfl); rfl) | (apply WOps.st; rfl; rfl; (first | exact tk0 | exact tk1 | exact tk2); rfl; (first | rfl | ((repeat' (first | exact ac0 | apply ac1)) <;> (first | rfl | assumption))); rfl) | (apply WOps.alc; rfl; intro _) | (apply WOps.bx; rfl; rfl; (first | rfl | ((repeat' (first | exact ac0 | apply ac1)) <;> (first | rfl | assumption))); intro _) | (apply WOps.bsl; rfl; (first | rfl | ((repeat' (first | exact ac0 | apply ac1)) <;> (first | rfl | assumption))); intro _) | (apply WOps.addN; rfl; rfl; rfl; omega) | (apply WOps.cmp; rfl; rfl; rfl; rfl; intro _ _) | (apply WOps.cmpT; rfl; rfl; rfl; rfl; intro _ _) | (apply WOps.purG; rfl; (intro _; rfl)) | (apply WOps.skp; rfl) | (apply WOps.ask; rfl; all_goals (intro hb; first | subst hb | fail_if_success (cases hb))) | (apply WC.condA; rfl; all_goals (intro hb; try subst hb)))
        refine WL.le (t' := [(5, .ptr ⟨false, p5, 0⟩), (7, .map m), (8, v2), (16, vo), (17, .int .i64 (.ofNat own.length)), (18, .int .i64 (.ofNat (i + 1)))]) (Sub1.cons rfl (Sub1.cons rfl (Sub1.cons rfl (Sub1.cons rfl (Sub1.cons rfl (Sub1.cons rfl Sub1.nil)))))) (WL.lessP (H1 := h2 ++ ((hc' ++ G) ++ X)) (subF (by intro f; simp only [AV.cells, List.append_eq, List.map_cons, List.map_nil, List.sum_nil, List.map_append, List.sum_cons, List.sum_append, List.cons_append, List.nil_append, List.append_assoc, List.append_nil]; omega)) (ih _ (by omega) (i + 1) v2 h2 (ps ++ [(layS node own[i].1, .sl ⟨false, id2, 0⟩ own[i].1.tags.length 1)]) (hc' ++ G) ?_ ?_ ?_ (by omega) rfl))
        · rw [cms_app, List.length_append]; exact o2
        · rw [(layS_take hlt).1 hnk, List.map_append, hpm]; rfl
        · intro p hp
          rcases List.mem_append.1 hp with hp | hp
          · exact SlIs.right (hps p hp)
          · rw [List.mem_singleton] at hp
            subst hp
            exact SlIs.left (strs_sl o')
    · have hcellp := (tc _ hp).1.cell
      repeat' (first
        | apply WOps.nil | apply WC.seq | apply WC.reg | apply WC.skip | apply WC.ret | apply WC.exit | (apply WC.condT; rfl) | (apply WC.condF; rfl) | apply WC.block | (apply WOps.ldG; rfl; rfl; (first | exact ld0 rfl | exact ld1 rfl | exact ld2 rfl); rfl) | (apply WOps.st; rfl; rfl; (first | exact tk0 | exact tk1 | exact tk2); rfl; (first | rfl | ((repeat' (first | exact ac0 | apply ac1)) <;> (first | rfl | assumption))); rfl) | (apply WOps.alc; rfl; intro _) | (apply WOps.bx; rfl; rfl; (first | rfl | ((repeat' (first | exact ac0 | apply ac1)) <;> (first | rfl | assumption))); intro _) | (apply WOps.bsl; rfl; (first | rfl | ((repeat' (first | exact ac0 | apply ac1)) <;> (first | rfl | assumption))); intro _) | (apply WOps.ixSl; rfl; rfl; rfl; exact SlIs.right (SlIs.right hoX); exact hcm; intro ax hax) | (apply WOps.ldG; rfl; rfl; exact hax; rfl) | (apply WOps.ldG; rfl; rfl; exact F1 _ 0 _ rfl; rfl) | (apply WOps.cvR; rfl; rfl; rfl; exact id22_ok hcell; rintro _ rfl) | (apply WOps.lkp; rfl; rfl; rfl; exact Tk.tail (tk_right (tk_right tm)); exact hm; rw [hl]) | (apply WOps.ldG; rfl; rfl; exact F2 _ _ 1 _ rfl; rfl) | (apply WOps.ldG; rfl; rfl; exact F2 _ _ 3 _ rfl; rfl) | (apply WOps.cvA; rfl; rfl; rfl; exact lay26_ok hto ltag (Ld.right (Ld.right hnX)).cons.cons; rintro _ _ ⟨tv', hc', rfl, o', rfl⟩; rcases id o' with ⟨rfl, _⟩ | ⟨id2, rfl, _⟩) | (apply WOps.cvR; rfl; rfl; rfl; exact same23_ok hto.any (tc _ hp).1.any (by omega); rintro _ ⟨bb, rfl, hbb⟩; cases bb) | (apply WOps.addN; rfl; rfl; rfl; omega) | (apply WOps.cmp; rfl; rfl; rfl; rfl; intro _ _) | (apply WOps.cmpT; rfl; rfl; rfl; rfl; intro _ _) | (apply WOps.purG; rfl; (intro _; rfl)) | (apply WOps.skp; rfl) | (apply WOps.ask; rfl; all_goals (intro hb; first | subst hb | fail_if_success (cases hb))) | (apply WC.condA; rfl; all_goals (intro hb; try subst hb)))
      · have hnk : ¬ keepS cat own[i].1 := by
          rintro ⟨w, hw1, hw2, hw3⟩
          obtain rfl := once_eq (key := fun p => p.1.id) ho hw1 hp (hw2.trans hpk.symm)
          exact (eq_of_ff hbb) hw3
        refine WOps.app (n := ps.length) rfl rfl rfl o8 permO (src_one Tk.head rfl) (cms_cell (fun p hp => (hps p hp).cell)) rfl rfl (by omega) ?_
        intro v2 h2 o2
        repeat' (first
          | apply WOps.nil | apply WC.seq | apply WC.reg | apply WC.skip | apply WC.ret | apply WC.exit | (apply WC.condT; rfl) | (apply WC.condF; rfl) | apply WC.block | (apply WOps.ldG; rfl; rfl; (first | exact ld0 rfl | exact ld1 rfl | exact ld2 rfl); rfl) | (apply WOps.st; rfl; rfl; (first | exact tk0 | exact tk1 | exact tk2); rfl; (first | rfl | ((repeat' (first | exact ac0 | apply ac1)) <;> (first | rfl | assumption))); rfl) | (apply WOps.alc; rfl; intro _) | (apply WOps.bx; rfl; rfl; (first | rfl | ((repeat' (first | exact ac0 | apply ac1)) <;> (first | rfl | assumption))); intro _) | (apply WOps.bsl; rfl; (first | rfl | ((repeat' (first | exact ac0 | apply ac1)) <;> (first | rfl | assumption))); intro _) | (apply WOps.addN; rfl; rfl; rfl; omega) | (apply WOps.cmp; rfl; rfl; rfl; rfl; intro _ _) | (apply WOps.cmpT; rfl; rfl; rfl; rfl; intro _ _) | (apply WOps.purG; rfl; (intro _; rfl)) | (apply WOps.skp; rfl) | (apply WOps.ask; rfl; all_goals (intro hb; first | subst hb | fail_if_success (cases hb))) | (apply WC.condA; rfl; all_goals (intro hb; try subst hb)))
        refine WL.le (t' := [(5, .ptr ⟨false, p5, 0⟩), (7, .map m), (8, v2), (16, vo), (17, .int .i64 (.ofNat own.length)), (18, .int .i64 (.ofNat (i + 1)))]) (Sub1.cons rfl (Sub1.cons rfl (Sub1.cons rfl (Sub1.cons rfl (Sub1.cons rfl (Sub1.cons rfl Sub1.nil)))))) (WL.lessP (H1 := h2 ++ ((hc' ++ G) ++ X)) (subF (by intro f; simp only [AV.cells, List.append_eq, List.map_cons, List.map_nil, List.sum_nil, List.map_append, List.sum_cons, List.sum_append, List.cons_append, List.nil_append, List.append_assoc, List.append_nil]; omega)) (ih _ (by omega) (i + 1) v2 h2 (ps ++ [(layS node own[i].1, .nilsl)]) (hc' ++ G) ?_ ?_ ?_ (by omega) rfl))
        · rw [cms_app, List.length_append]; exact o2
        · rw [(layS_take hlt).1 hnk, List.map_append, hpm]; rfl
        · intro p hp
          rcases List.mem_append.1 hp with hp | hp
          · exact SlIs.right (hps p hp)
          · rw [List.mem_singleton] at hp
            subst hp
            exact SlIs.left (strs_sl o')
      · have hnk : ¬ keepS cat own[i].1 := by
          rintro ⟨w, hw1, hw2, hw3⟩
          obtain rfl := once_eq (key := fun p => p.1.id) ho hw1 hp (hw2.trans hpk.symm)
          exact (eq_of_ff hbb) hw3
        refine WOps.app (n := ps.length) rfl rfl rfl o8 permO (src_one Tk.head rfl) (cms_cell (fun p hp => (hps p hp).cell)) rfl rfl (by omega) ?_
        intro v2 h2 o2
        repeat' (first
          | apply WOps.nil | apply WC.seq | apply WC.reg | apply WC.skip | apply WC.ret | apply WC.exit | (apply WC.condT; rfl) | (apply WC.condF; rfl) | apply WC.block | (apply WOps.ldG; rfl; rfl; (first | exact ld0 rfl | exact ld1 rfl | exact ld2 rfl); rfl) | (apply WOps.st; rfl; rfl; (first | exact tk0 | exact tk1 | exact tk2); rfl; (first | rfl | ((repeat' (first | exact ac0 | apply ac1)) <;> (first | rfl | assumption))); rfl) | (apply WOps.alc; rfl; intro _) | (apply WOps.bx; rfl; rfl; (first | rfl | ((repeat' (first | exact ac0 | apply ac1)) <;> (first | rfl | assumption))); intro _) | (apply WOps.bsl; rfl; (first | rfl | ((repeat' (first | exact ac0 | apply ac1)) <;> (first | rfl | assumption))); intro _) | (apply WOps.addN; rfl; rfl; rfl; omega) | (apply WOps.cmp; rfl; rfl; rfl; rfl; intro _ _) | (apply WOps.cmpT; rfl; rfl; rfl; rfl; intro _ _) | (apply WOps.purG; rfl; (intro _; rfl)) | (apply WOps.skp; rfl) | (apply WOps.ask; rfl; all_goals (intro hb; first | subst hb | fail_if_success (cases hb))) | (apply WC.condA; rfl; all_goals (intro hb; try subst hb)))
        refine WL.le (t' := [(5, .ptr ⟨false, p5, 0⟩), (7, .map m), (8, v2), (16, vo), (17, .int .i64 (.ofNat own.length)), (18, .int .i64 (.ofNat (i + 1)))]) (Sub1.cons rfl (Sub1.cons rfl (Sub1.cons rfl (Sub1.cons rfl (Sub1.cons rfl (Sub1.cons rfl Sub1.nil)))))) (WL.lessP (H1 := h2 ++ ((hc' ++ G) ++ X)) (subF (by intro f; simp only [AV.cells, List.append_eq, List.map_cons, List.map_nil, List.sum_nil, List.map_append, List.sum_cons, List.sum_append, List.cons_append, List.nil_append, List.append_assoc, List.append_nil]; omega)) (ih _ (by omega) (i + 1) v2 h2 (ps ++ [(layS node own[i].1, .sl ⟨false, id2, 0⟩ own[i].1.tags.length 1)]) (hc' ++ G) ?_ ?_ ?_ (by omega) rfl))
        · rw [cms_app, List.length_append]; exact o2
        · rw [(layS_take hlt).1 hnk, List.map_append, hpm]; rfl
        · intro p hp
          rcases List.mem_append.1 hp with hp | hp
          · exact SlIs.right (hps p hp)
          · rw [List.mem_singleton] at hp
            subst hp
            exact SlIs.left (strs_sl o')
      · have hyk : keepS cat own[i].1 := ⟨p, hp, hpk, hbb.1 rfl⟩
        exact WL.le (t' := [(5, .ptr ⟨false, p5, 0⟩), (7, .map m), (8, w8), (16, vo), (17, .int .i64 (.ofNat own.length)), (18, .int .i64 (.ofNat (i + 1)))]) (Sub1.cons rfl (Sub1.cons rfl (Sub1.cons rfl (Sub1.cons rfl (Sub1.cons rfl (Sub1.cons rfl Sub1.nil)))))) (WL.sub ((List.sublist_cons_self _ _).trans (List.sublist_cons_self _ _)) (ih _ (by omega) (i + 1) w8 hw ps G o8 (by rw [(layS_take hlt).2 hyk]; exact hpm) hps (by omega) rfl))
  · have hge : i = own.length := by
      have h0 := eq_of_ff ‹false = true ↔ cmpP BinOp.lss (Int.ofNat i) (Int.ofNat own.length)›
      simp [cmpP] at h0; omega
    subst hge
    rw [List.take_length] at hpm
    refine ⟨trivial, [_], ⟨_, [], rfl, rfl, rfl⟩, _, ⟨hw, G, ps, hpm, o8, hps, rfl⟩, ?_⟩
    rw [hX]
    exact subF (by intro f; simp only [AV.cells, List.append_eq, List.map_cons, List.map_nil, List.sum_nil, List.map_append, List.sum_cons, List.sum_append, List.cons_append, List.nil_append, List.append_assoc, List.append_nil]; omega)
theorem kinds15_ok {H : HL} {node : Int} : WF B tab (.func 18) [.int .i64 node] H fun r H' => ∃ c, r = .agg [.fn (.func 27) [] [], .fn (.func 28) [] [], .fn (.func 30) [] [.ptr ⟨false, c, 0⟩], .fn (.func 31) [] [.ptr ⟨false, c, 0⟩]] ∧ H' = (c, .row [.int .i64 node]) :: H := by
  refine WF.lessP ?_
  refine WF.fn g18 rfl ?_
  repeat' (first
    | apply WOps.nil | apply WC.seq | apply WC.reg | apply WC.skip | apply WC.ret | (apply WOps.st; rfl; rfl; (first | exact tk0 | exact tk1 | exact tk2); rfl; (first | rfl | ((repeat' (first | exact ac0 | apply ac1)) <;> (first | rfl | assumption))); rfl) | (apply WOps.alc; rfl; intro _) | (apply WOps.bx; rfl; rfl; (first | rfl | ((repeat' (first | exact ac0 | apply ac1)) <;> (first | rfl | assumption))); intro _) | (apply WOps.purG; rfl; (intro _; rfl)))
  exact ⟨trivial, [_], ⟨_, _, rfl, ⟨_, _, rfl, ld0 rfl, rfl⟩, rfl⟩, _, ⟨_, rfl, rfl⟩, subF (by intro f; simp only [AV.cells, List.append_eq, List.map_cons, List.map_nil, List.sum_nil, List.map_append, List.sum_cons, List.sum_append, List.cons_append, List.nil_append, List.append_assoc, List.append_nil]; omega)⟩
theorem kinds16_ok {H : HL} {node : Int} : WF B tab (.func 19) [.int .i64 node] H fun r H' => ∃ c, r = .agg [.fn (.func 33) [] [], .fn (.func 34) [] [], .fn (.func 35) [] [.ptr ⟨false, c, 0⟩], .fn (.func 36) [] [.ptr ⟨false, c, 0⟩]] ∧ H' = (c, .row [.int .i64 node]) :: H := by
  refine WF.lessP ?_
  refine WF.fn g19 rfl ?_
  repeat' (first
    | apply WOps.nil | apply WC.seq | apply WC.reg | apply WC.skip | apply WC.ret | (apply WOps.st; rfl; rfl; (first | exact tk0 | exact tk1 | exact tk2); rfl; (first | rfl | ((repeat' (first | exact ac0 | apply ac1)) <;> (first | rfl | assumption))); rfl) | (apply WOps.alc; rfl; intro _) | (apply WOps.bx; rfl; rfl; (first | rfl | ((repeat' (first | exact ac0 | apply ac1)) <;> (first | rfl | assumption))); intro _) | (apply WOps.purG; rfl; (intro _; rfl)))
  exact ⟨trivial, [_], ⟨_, _, rfl, ⟨_, _, rfl, ld0 rfl, rfl⟩, rfl⟩, _, ⟨_, rfl, rfl⟩, subF (by intro f; simp only [AV.cells, List.append_eq, List.map_cons, List.map_nil, List.sum_nil, List.map_append, List.sum_cons, List.sum_append, List.cons_append, List.nil_append, List.append_assoc, List.append_nil]; omega)⟩
theorem cms_app2 {ps qs : List (Cm × AV)} : cmsC (ps ++ qs) = cmsC ps ++ cmsC qs := by simp [cmsC]
/-- One list behind another. -/
theorem app_cms {t : EL} {Q : EL → HL → Prop} {os : List AOper} {k : Nat} {x y : AO} {w5 u : AV} {H hw hw1 G R : HL} {ps qs : List (Cm × AV)} (hx : gl t x = some w5) (hy : gl t y = some u) (o5 : OwnSl w5 (cmsC ps) ps.length 17 hw) (pm : H.Perm (hw ++ R))
    (cps : ∀ p, p ∈ ps → p.2.isCell = true) (o1 : OwnSl u (cmsC qs) qs.length 17 hw1) (cqs : ∀ p, p ∈ qs → p.2.isCell = true) (hl : ps.length ≤ 100000) (hl2 : qs.length ≤ 100000)
    (w : ∀ v2 h2, OwnSl v2 (cmsC (ps ++ qs)) (ps ++ qs).length 17 h2 → WOps B tab os ((k, v2) :: t) (h2 ++ (hw1 ++ (G ++ R))) Q) : WOps B tab (⟨some k, .append 17 232 x y, none⟩ :: os) t (hw1 ++ (G ++ H)) Q := by
  refine WOps.app (n := ps.length) (m := qs.length) rfl hx hy o5 (R := hw1 ++ (G ++ R)) ?_ (SrcIs.left o1.src) (cms_cell cps) (cms_cell cqs) (cms_len qs) (by omega) ?_
  · refine (List.Perm.append_left hw1 (List.Perm.append_left G pm)).trans ?_
    exact permF (by intro f; simp only [AV.cells, List.append_eq, List.map_cons, List.map_nil, List.sum_nil, List.map_append, List.sum_cons, List.sum_append, List.cons_append, List.nil_append, List.append_assoc, List.append_nil]; omega)
  · intro v2 h2 o2
    refine w v2 h2 ?_
    rw [cms_app2, List.length_append]; exact o2
theorem mem_both {α : Type} {P : α → Prop} {a b : List α} (ha : ∀ p, p ∈ a → P p) (hb : ∀ p, p ∈ b → P p) : ∀ p, p ∈ a ++ b → P p := by
  intro p hp
  rcases List.mem_append.1 hp with hp | hp
  · exact ha p hp
  · exact hb p hp
theorem SubP.perm {A H X : HL} (h : H.Perm X) (s : SubP A X) : SubP A H := by
  obtain ⟨G, g⟩ := s
  exact ⟨G, h.trans g⟩
structure Ow where
  there : Bool
  node : Int
  addr : List Nat
  svs : List (Sv × AV)
  cks : List Ck
def owC (o : Ow) (sv cv : AV) : List AV := [.bool o.there, .int .i64 o.node, .str o.addr, sv, cv]
structure OwIs (B : Nat → List AV) (o : Ow) (sv cv : AV) : Prop where
  s : SlIs B [] sv 7 (o.svs.map fun p => svC p.1 p.2)
  c : SlIs B [] cv 7 (o.cks.map fun p => ckC p)
  ls : o.svs.length ≤ 30
  lc : o.cks.length ≤ 30
  os : Once (o.svs.map fun p => p.1.id)
  oc : Once (o.cks.map fun p => p.id)
  tg : TagsIn B o.svs
def svsOf (o : Ow) : List (Sv × AV) := if o.there = true then o.svs else []
def cksOf (o : Ow) : List Ck := if o.there = true then o.cks else []
def nodeCm (own : Ow) : Cm := ⟨Int.ofNat 1, own.node, Int.ofNat 0, Int.ofNat 0, [], [], [], own.addr, []⟩
open Classical in
noncomputable def headL (own cat : Ow) : List Cm := if cat.there = true ∧ own.addr = cat.addr then [] else [nodeCm own]
noncomputable def diffL (own cat : Ow) : List Cm :=
  headL own cat ++ ((dropIds (own.cks.map (·.id)) ((cksOf cat).map (·.id))).map (dropCm (Int.ofNat 6) own.node) ++
    ((dropIds (own.svs.map (·.1.id)) ((svsOf cat).map (·.1.id))).map (dropCm (Int.ofNat 4) own.node) ++
      (layL own.node (svsOf cat) own.svs ++ (layPs own.node (cksOf cat) own.cks).map (·.1))))
theorem WOps.lessP {T : Tr FnI} {t : EL} {H H1 : HL} {Q : EL → HL → Prop} {os : List AOper} (p : SubP H1 H) (w : WOps B T os t H1 Q) : WOps B T os t H Q := by
  obtain ⟨G, p⟩ := p
  exact fun env h F le s => w env h F le ((s.perm (p.append_right F)).sub ((List.sublist_append_left H1 G).append (List.Sublist.refl _)))
structure Cs (B : Nat → List AV) (R : HL) (p2 p3 p6 p7 c5 c6 : Nat) (own : Ow) (sv cv s2 c2 : AV) (th : Bool) (n2 : Int) (ad : List Nat) : Prop where
  a2 : Ld B R ⟨false, p2, 0⟩ 5 (owC own sv cv)
  a3 : Ld B R ⟨false, p3, 0⟩ 5 [.bool th, .int .i64 n2, .str ad, s2, c2]
  a6 : Ld B R ⟨false, p6, 0⟩ 4 [.fn (.func 27) [] [], .fn (.func 28) [] [], .fn (.func 30) [] [.ptr ⟨false, c5, 0⟩], .fn (.func 31) [] [.ptr ⟨false, c5, 0⟩]]
  a7 : Ld B R ⟨false, p7, 0⟩ 4 [.fn (.func 33) [] [], .fn (.func 34) [] [], .fn (.func 35) [] [.ptr ⟨false, c6, 0⟩], .fn (.func 36) [] [.ptr ⟨false, c6, 0⟩]]
  n5 : Ld B R ⟨false, c5, 0⟩ 1 [.int .i64 own.node]
  n6 : Ld B R ⟨false, c6, 0⟩ 1 [.int .i64 own.node]
theorem Cs.up {R X : HL} {p2 p3 p6 p7 c5 c6 : Nat} {own : Ow} {sv cv s2 c2 : AV} {th : Bool} {n2 : Int} {ad : List Nat} (h : Cs B R p2 p3 p6 p7 c5 c6 own sv cv s2 c2 th n2 ad) : Cs B (X ++ R) p2 p3 p6 p7 c5 c6 own sv cv s2 c2 th n2 ad :=
  ⟨Ld.right h.a2, Ld.right h.a3, Ld.right h.a6, Ld.right h.a7, Ld.right h.n5, Ld.right h.n6⟩
theorem dropPs_len {kind node : Int} {own cat : List (List Nat)} : (dropPs kind node (dropIds own cat)).length ≤ cat.length := by
  unfold dropPs dropIds
  rw [List.length_map]
  exact List.length_filter_le _ _
theorem dropPs_sl {kind node : Int} {ids : List (List Nat)} {R : HL} : ∀ p, p ∈ dropPs kind node ids → SlIs B R p.2 1 (p.1.tags.map strC) := by
  intro p hp
  obtain ⟨x, _, rfl⟩ := List.mem_map.1 hp
  exact .inl ⟨rfl, rfl⟩
theorem layPs_sl {node : Int} {cat own : List Ck} {R : HL} : ∀ p, p ∈ layPs node cat own → SlIs B R p.2 1 (p.1.tags.map strC) := by
  intro p hp
  obtain ⟨x, _, rfl⟩ := List.mem_map.1 hp
  exact .inl ⟨rfl, rfl⟩
theorem dropPs_map {kind node : Int} {ids : List (List Nat)} : (dropPs kind node ids).map (·.1) = ids.map (dropCm kind node) := by simp [dropPs, Function.comp_def]
set_option maxHeartbeats 4000000 in
theorem diff9_ok {H : HL} {own cat : Ow} {sv cv sv2 cv2 : AV} (ho : OwIs B own sv cv) (hc : OwIs B cat sv2 cv2) :
    WF B tab (.func 10) [.agg (owC own sv cv), .agg (owC cat sv2 cv2)] H fun r H' => ∃ hw G ps, ps.map (·.1) = diffL own cat ∧ OwnSl r (cmsC ps) ps.length 17 hw ∧ (∀ p, p ∈ ps → SlIs B G p.2 1 (p.1.tags.map strC)) ∧ H' = hw ++ (G ++ H) := by
  refine WF.lessP ?_
  refine WF.fn g10 rfl ?_
  have e1 := ho.s.cell
  have e2 := ho.c.cell
  have e3 := hc.s.cell
  have e4 := hc.c.cell
  obtain ⟨s2, hs2⟩ : ∃ v, v = if cat.there = true then sv2 else AV.nilsl := ⟨_, rfl⟩
  obtain ⟨c2, hc2⟩ : ∃ v, v = if cat.there = true then cv2 else AV.nilsl := ⟨_, rfl⟩
  have qs2 : SlIs B [] s2 7 ((svsOf cat).map fun p => svC p.1 p.2) := by
    subst hs2; unfold svsOf; split
    · exact hc.s
    · exact .inl ⟨rfl, rfl⟩
  have qc2 : SlIs B [] c2 7 ((cksOf cat).map fun p => ckC p) := by
    subst hc2; unfold cksOf; split
    · exact hc.c
    · exact .inl ⟨rfl, rfl⟩
  have ls2 : (svsOf cat).length ≤ 30 := by unfold svsOf; split; exact hc.ls; simp
  have lc2 : (cksOf cat).length ≤ 30 := by unfold cksOf; split; exact hc.lc; simp
  have os2 : Once ((svsOf cat).map fun p => p.1.id) := by unfold svsOf; split; exact hc.os; intro i j hi; simp at hi
  have oc2 : Once ((cksOf cat).map fun p => p.id) := by unfold cksOf; split; exact hc.oc; intro i j hi; simp at hi
  have tg2 : TagsIn B (svsOf cat) := by unfold svsOf; split; exact hc.tg; intro p hp; cases hp
  have f3 := qs2.cell
  have f4 := qc2.cell
  have hhead : ∃ p : List (Cm × AV), p.map (·.1) = headL own cat ∧ (∀ x, x ∈ p → x.2 = .nilsl ∧ x.1.tags = []) ∧ ((cat.there = true ∧ own.addr = cat.addr ∧ p = []) ∨ (¬ (cat.there = true ∧ own.addr = cat.addr) ∧ p = [(nodeCm own, .nilsl)])) := by
    unfold headL
    split
    · rename_i h; exact ⟨[], rfl, (fun x hx => by cases hx), .inl ⟨h.1, h.2, rfl⟩⟩
    · rename_i h; exact ⟨[(nodeCm own, .nilsl)], rfl, (fun x hx => by rw [List.mem_singleton] at hx; subst hx; exact ⟨rfl, rfl⟩), .inr ⟨h, rfl⟩⟩
  obtain ⟨ps0, hp1, hp2, hp3⟩ := hhead
  have hdl : ps0.length ≤ 1 := by rcases hp3 with ⟨_, _, rfl⟩ | ⟨_, rfl⟩ <;> simp
  have hdiff : ∀ qs : List (Cm × AV), qs.map (·.1) = layL own.node (svsOf cat) own.svs → (ps0 ++ dropPs (Int.ofNat 6) own.node (dropIds (own.cks.map (·.id)) ((cksOf cat).map (·.id))) ++ dropPs (Int.ofNat 4) own.node (dropIds (own.svs.map (·.1.id)) ((svsOf cat).map (·.1.id))) ++ qs ++ layPs own.node (cksOf cat) own.cks).map (·.1) = diffL own cat := by
    intro qs hq
    unfold diffL
    simp only [List.map_append, hp1, hq, dropPs_map, List.append_assoc]
  obtain ⟨there, node2, addr2, svs2, cks2⟩ := cat
  generalize svsOf ⟨there, node2, addr2, svs2, cks2⟩ = S2 at *
  generalize cksOf ⟨there, node2, addr2, svs2, cks2⟩ = C2 at *
  cases there
  · simp only [Bool.false_eq_true, if_false] at hs2 hc2
    subst hs2 hc2
    obtain rfl : ps0 = [(nodeCm own, .nilsl)] := by
      rcases hp3 with ⟨h, _⟩ | ⟨_, h⟩
      · cases h
      · exact h
    repeat' (first
      | apply WOps.nil | apply WC.seq | apply WC.reg | apply WC.skip | apply WC.ret | (apply WC.condT; rfl) | (apply WC.condF; rfl) | apply WC.dreg | apply WD.nil | (apply WOps.ldG; rfl; rfl; (first | exact ld0 rfl | exact ld1 rfl | exact ld2 rfl); rfl) | (apply WOps.st; rfl; rfl; (first | exact tk0 | exact tk1 | exact tk2); rfl; (first | rfl | ((repeat' (first | exact ac0 | apply ac1)) <;> (first | rfl | assumption))); rfl) | (apply WOps.alc; rfl; intro _) | (apply WOps.bx; rfl; rfl; (first | rfl | ((repeat' (first | exact ac0 | apply ac1)) <;> (first | rfl | assumption))); intro _) | (apply WOps.bsl; rfl; (first | rfl | ((repeat' (first | exact ac0 | apply ac1)) <;> (first | rfl | assumption))); intro _) | (apply WD.st; rfl; rfl; rfl; (first | exact tk0 | exact tk1 | exact tk2); rfl; (first | rfl | ((repeat' (first | exact ac0 | apply ac1)) <;> (first | rfl | assumption))); rfl) | (apply WD.alc; rfl; rfl; intro _) | (apply WD.bsl; rfl; rfl; (first | rfl | ((repeat' (first | exact ac0 | apply ac1)) <;> (first | rfl | assumption))); intro _) | (apply WOps.cmp; rfl; rfl; rfl; rfl; intro _ _) | (apply WOps.cmpT; rfl; rfl; rfl; rfl; intro _ _) | (apply WOps.purG; rfl; (intro _; rfl)) | (apply WOps.skp; rfl) | (apply WD.load; rfl; (first | (apply at1; (first | exact rd0 rfl rfl rfl | exact rd1 rfl rfl rfl | exact rd2 rfl rfl rfl); rfl) | (apply at2; (first | exact rd0 rfl rfl rfl | exact rd1 rfl rfl rfl | exact rd2 rfl rfl rfl); repeat' (first | exact same0 | (apply same1; (first | exact rd0 rfl rfl rfl | exact rd1 rfl rfl rfl | exact rd2 rfl rfl rfl); rfl) | (apply same2; (first | exact rd0 rfl rfl rfl | exact rd1 rfl rfl rfl | exact rd2 rfl rfl rfl)))))) | (apply WD.cmp; rfl; rfl; rfl; rfl; intro _ _) | (apply WD.cmpT; rfl; rfl; rfl; rfl; intro _ _) | (apply WD.pur; rfl; (intro _; rfl)) | (apply WD.skp; rfl) | (apply WD.skpL; rfl) | (apply WD.skpX; rfl) | (apply WOps.ask; rfl; all_goals (intro hb; first | subst hb | fail_if_success (cases hb))) | (apply WC.condA; rfl; all_goals (intro hb; try subst hb)) | (apply WD.ask; rfl; all_goals (intro hb; first | subst hb | fail_if_success (cases hb))))
    rename_i p2 p3 p29
    refine WOps.app (n := 0) (m := 1) (h := []) (cells := cmsC []) rfl rfl rfl (.inl ⟨rfl, rfl, rfl, rfl⟩) (List.Perm.refl _) (src_one Tk.head rfl) rfl rfl rfl (by omega) ?_
    intro w5 hw5 o5
    have cp5 : ∀ p, p ∈ [(nodeCm own, AV.nilsl)] → p.2.isCell = true := by
      intro p hp; rw [List.mem_singleton] at hp; subst hp; rfl
    replace o5 : OwnSl w5 (cmsC [(nodeCm own, AV.nilsl)]) [(nodeCm own, AV.nilsl)].length 17 hw5 := o5
    refine WOps.lessP (H1 := (p3, .row [.bool false, .int .i64 node2, .str addr2, .nilsl, .nilsl]) :: (p2, .row (owC own sv cv)) :: (hw5 ++ H)) (subF (by intro f; simp only [AV.cells, List.append_eq, List.map_cons, List.map_nil, List.sum_nil, List.map_append, List.sum_cons, List.sum_append, List.cons_append, List.nil_append, List.append_assoc, List.append_nil]; omega)) ?_
    repeat' (first
      | apply WOps.nil | apply WC.seq | apply WC.reg | apply WC.skip | apply WC.ret | (apply WC.condT; rfl) | (apply WC.condF; rfl) | apply WC.dreg | apply WD.nil | (apply WOps.ldG; rfl; rfl; (first | exact ld0 rfl | exact ld1 rfl | exact ld2 rfl); rfl) | (apply WOps.st; rfl; rfl; (first | exact tk0 | exact tk1 | exact tk2); rfl; (first | rfl | ((repeat' (first | exact ac0 | apply ac1)) <;> (first | rfl | assumption))); rfl) | (apply WOps.alc; rfl; intro _) | (apply WOps.bx; rfl; rfl; (first | rfl | ((repeat' (first | exact ac0 | apply ac1)) <;> (first | rfl | assumption))); intro _) | (apply WOps.bsl; rfl; (first | rfl | ((repeat' (first | exact ac0 | apply ac1)) <;> (first | rfl | assumption))); intro _) | (apply WD.st; rfl; rfl; rfl; (first | exact tk0 | exact tk1 | exact tk2); rfl; (first | rfl | ((repeat' (first | exact ac0 | apply ac1)) <;> (first | rfl | assumption))); rfl) | (apply WD.alc; rfl; rfl; intro _) | (apply WD.bsl; rfl; rfl; (first | rfl | ((repeat' (first | exact ac0 | apply ac1)) <;> (first | rfl | assumption))); intro _) | (apply WD.clA; rfl; rfl; exact kinds15_ok; rintro _ _ ⟨c5, rfl, rfl⟩) | (apply WD.clA; rfl; rfl; exact kinds16_ok; rintro _ _ ⟨c6, rfl, rfl⟩) | (apply WOps.cmp; rfl; rfl; rfl; rfl; intro _ _) | (apply WOps.cmpT; rfl; rfl; rfl; rfl; intro _ _) | (apply WOps.purG; rfl; (intro _; rfl)) | (apply WOps.skp; rfl) | (apply WD.load; rfl; (first | (apply at1; (first | exact rd0 rfl rfl rfl | exact rd1 rfl rfl rfl | exact rd2 rfl rfl rfl); rfl) | (apply at2; (first | exact rd0 rfl rfl rfl | exact rd1 rfl rfl rfl | exact rd2 rfl rfl rfl); repeat' (first | exact same0 | (apply same1; (first | exact rd0 rfl rfl rfl | exact rd1 rfl rfl rfl | exact rd2 rfl rfl rfl); rfl) | (apply same2; (first | exact rd0 rfl rfl rfl | exact rd1 rfl rfl rfl | exact rd2 rfl rfl rfl)))))) | (apply WD.cmp; rfl; rfl; rfl; rfl; intro _ _) | (apply WD.cmpT; rfl; rfl; rfl; rfl; intro _ _) | (apply WD.pur; rfl; (intro _; rfl)) | (apply WD.skp; rfl) | (apply WD.skpL; rfl) | (apply WD.skpX; rfl) | (apply WOps.ask; rfl; all_goals (intro hb; first | subst hb | fail_if_success (cases hb))) | (apply WC.condA; rfl; all_goals (intro hb; try subst hb)) | (apply WD.ask; rfl; all_goals (intro hb; first | subst hb | fail_if_success (cases hb))))
    rename_i p6 p7
    refine WOps.sub (t' := [(2, .ptr ⟨false, p2, 0⟩), (3, .ptr ⟨false, p3, 0⟩), (5, w5), (6, .ptr ⟨false, p6, 0⟩), (7, .ptr ⟨false, p7, 0⟩), (37, w5), (38, .ptr ⟨false, p2, 4⟩)]) (Sub1.cons rfl (Sub1.cons rfl (Sub1.cons rfl (Sub1.cons rfl (Sub1.cons rfl (Sub1.cons rfl (Sub1.cons rfl Sub1.nil))))))) ?_
    have cs : Cs B ((p2, AObj.row (owC own sv cv)) :: (p3, .row [.bool false, .int .i64 node2, .str addr2, .nilsl, .nilsl]) :: (p6, .row [.fn (.func 27) [] [], .fn (.func 28) [] [], .fn (.func 30) [] [.ptr ⟨false, c5, 0⟩], .fn (.func 31) [] [.ptr ⟨false, c5, 0⟩]]) :: (p7, .row [.fn (.func 33) [] [], .fn (.func 34) [] [], .fn (.func 35) [] [.ptr ⟨false, c6, 0⟩], .fn (.func 36) [] [.ptr ⟨false, c6, 0⟩]]) :: (c5, .row [.int .i64 own.node]) :: (c6, .row [.int .i64 own.node]) :: H) p2 p3 p6 p7 c5 c6 own sv cv .nilsl .nilsl false node2 addr2 := ⟨ld0 rfl, ld1 rfl, ld2 rfl, (ld2 rfl).cons, (ld2 rfl).cons.cons, (ld2 rfl).cons.cons.cons⟩
    refine WOps.lessP (H1 := hw5 ++ ((p2, AObj.row (owC own sv cv)) :: (p3, .row [.bool false, .int .i64 node2, .str addr2, .nilsl, .nilsl]) :: (p6, .row [.fn (.func 27) [] [], .fn (.func 28) [] [], .fn (.func 30) [] [.ptr ⟨false, c5, 0⟩], .fn (.func 31) [] [.ptr ⟨false, c5, 0⟩]]) :: (p7, .row [.fn (.func 33) [] [], .fn (.func 34) [] [], .fn (.func 35) [] [.ptr ⟨false, c6, 0⟩], .fn (.func 36) [] [.ptr ⟨false, c6, 0⟩]]) :: (c5, .row [.int .i64 own.node]) :: (c6, .row [.int .i64 own.node]) :: H)) (subF (by intro f; simp only [AV.cells, List.append_eq, List.map_cons, List.map_nil, List.sum_nil, List.map_append, List.sum_cons, List.sum_append, List.cons_append, List.nil_append, List.append_assoc, List.append_nil]; omega)) ?_
    have sr : SubP H ((p2, AObj.row (owC own sv cv)) :: (p3, .row [.bool false, .int .i64 node2, .str addr2, .nilsl, .nilsl]) :: (p6, .row [.fn (.func 27) [] [], .fn (.func 28) [] [], .fn (.func 30) [] [.ptr ⟨false, c5, 0⟩], .fn (.func 31) [] [.ptr ⟨false, c5, 0⟩]]) :: (p7, .row [.fn (.func 33) [] [], .fn (.func 34) [] [], .fn (.func 35) [] [.ptr ⟨false, c6, 0⟩], .fn (.func 36) [] [.ptr ⟨false, c6, 0⟩]]) :: (c5, .row [.int .i64 own.node]) :: (c6, .row [.int .i64 own.node]) :: H) := subF (by intro f; simp only [AV.cells, List.append_eq, List.map_cons, List.map_nil, List.sum_nil, List.map_append, List.sum_cons, List.sum_append, List.cons_append, List.nil_append, List.append_assoc, List.append_nil]; omega)
    generalize ((p2, AObj.row (owC own sv cv)) :: (p3, .row [.bool false, .int .i64 node2, .str addr2, .nilsl, .nilsl]) :: (p6, .row [.fn (.func 27) [] [], .fn (.func 28) [] [], .fn (.func 30) [] [.ptr ⟨false, c5, 0⟩], .fn (.func 31) [] [.ptr ⟨false, c5, 0⟩]]) :: (p7, .row [.fn (.func 33) [] [], .fn (.func 34) [] [], .fn (.func 35) [] [.ptr ⟨false, c6, 0⟩], .fn (.func 36) [] [.ptr ⟨false, c6, 0⟩]]) :: (c5, .row [.int .i64 own.node]) :: (c6, .row [.int .i64 own.node]) :: H) = R at cs sr ⊢
    repeat' (first
      | apply WOps.nil | apply WC.seq | apply WC.reg | apply WC.skip | apply WC.ret | (apply WC.condT; rfl) | (apply WC.condF; rfl) | apply WC.dreg | apply WD.nil | (apply WOps.ldG; rfl; rfl; (first | exact ld0 rfl | exact ld1 rfl | exact ld2 rfl); rfl) | (apply WOps.st; rfl; rfl; (first | exact tk0 | exact tk1 | exact tk2); rfl; (first | rfl | ((repeat' (first | exact ac0 | apply ac1)) <;> (first | rfl | assumption))); rfl) | (apply WOps.alc; rfl; intro _) | (apply WOps.bx; rfl; rfl; (first | rfl | ((repeat' (first | exact ac0 | apply ac1)) <;> (first | rfl | assumption))); intro _) | (apply WOps.bsl; rfl; (first | rfl | ((repeat' (first | exact ac0 | apply ac1)) <;> (first | rfl | assumption))); intro _) | (apply WD.st; rfl; rfl; rfl; (first | exact tk0 | exact tk1 | exact tk2); rfl; (first | rfl | ((repeat' (first | exact ac0 | apply ac1)) <;> (first | rfl | assumption))); rfl) | (apply WD.alc; rfl; rfl; intro _) | (apply WD.bsl; rfl; rfl; (first | rfl | ((repeat' (first | exact ac0 | apply ac1)) <;> (first | rfl | assumption))); intro _) | (apply WOps.ldG; rfl; rfl; exact Ld.right (Ld.part cs.a2 4 1 (by omega)); rfl) | (apply WOps.ldG; rfl; rfl; exact Ld.right (Ld.part cs.a3 4 1 (by omega)); rfl) | (apply WOps.ldG; rfl; rfl; exact Ld.right (Ld.part cs.a2 3 1 (by omega)); rfl) | (apply WOps.ldG; rfl; rfl; exact Ld.right (Ld.part cs.a3 3 1 (by omega)); rfl) | (apply WOps.ldG; rfl; rfl; exact Ld.right cs.a7; rfl) | (apply WOps.ldG; rfl; rfl; exact Ld.right cs.a6; rfl) | (apply WOps.clA; rfl; rfl; exact drops17_ok ho.c.any qc2.any (by have := ho.lc; omega) (by omega) ho.oc rfl rfl rfl rfl (Ld.right cs.n6); rintro _ _ ⟨hw1, o1, rfl⟩) | (apply WOps.cmp; rfl; rfl; rfl; rfl; intro _ _) | (apply WOps.cmpT; rfl; rfl; rfl; rfl; intro _ _) | (apply WOps.purG; rfl; (intro _; rfl)) | (apply WOps.skp; rfl) | (apply WD.load; rfl; (first | (apply at1; (first | exact rd0 rfl rfl rfl | exact rd1 rfl rfl rfl | exact rd2 rfl rfl rfl); rfl) | (apply at2; (first | exact rd0 rfl rfl rfl | exact rd1 rfl rfl rfl | exact rd2 rfl rfl rfl); repeat' (first | exact same0 | (apply same1; (first | exact rd0 rfl rfl rfl | exact rd1 rfl rfl rfl | exact rd2 rfl rfl rfl); rfl) | (apply same2; (first | exact rd0 rfl rfl rfl | exact rd1 rfl rfl rfl | exact rd2 rfl rfl rfl)))))) | (apply WD.cmp; rfl; rfl; rfl; rfl; intro _ _) | (apply WD.cmpT; rfl; rfl; rfl; rfl; intro _ _) | (apply WD.pur; rfl; (intro _; rfl)) | (apply WD.skp; rfl) | (apply WD.skpL; rfl) | (apply WD.skpX; rfl) | (apply WOps.ask; rfl; all_goals (intro hb; first | subst hb | fail_if_success (cases hb))) | (apply WC.condA; rfl; all_goals (intro hb; try subst hb)) | (apply WD.ask; rfl; all_goals (intro hb; first | subst hb | fail_if_success (cases hb))))
    refine app_cms (G := []) rfl rfl o5 (List.Perm.refl _) cp5 o1 dropPs_cell (by omega) (by have := dropPs_len (kind := Int.ofNat 6) (node := own.node) (own := own.cks.map (·.id)) (cat := C2.map (·.id)); rw [List.length_map] at this; omega) ?_
    intro w6 hw6 o6
    repeat' (first
      | apply WOps.nil | apply WC.seq | apply WC.reg | apply WC.skip | apply WC.ret | (apply WC.condT; rfl) | (apply WC.condF; rfl) | apply WC.dreg | apply WD.nil | (apply WOps.ldG; rfl; rfl; (first | exact ld0 rfl | exact ld1 rfl | exact ld2 rfl); rfl) | (apply WOps.st; rfl; rfl; (first | exact tk0 | exact tk1 | exact tk2); rfl; (first | rfl | ((repeat' (first | exact ac0 | apply ac1)) <;> (first | rfl | assumption))); rfl) | (apply WOps.alc; rfl; intro _) | (apply WOps.bx; rfl; rfl; (first | rfl | ((repeat' (first | exact ac0 | apply ac1)) <;> (first | rfl | assumption))); intro _) | (apply WOps.bsl; rfl; (first | rfl | ((repeat' (first | exact ac0 | apply ac1)) <;> (first | rfl | assumption))); intro _) | (apply WD.st; rfl; rfl; rfl; (first | exact tk0 | exact tk1 | exact tk2); rfl; (first | rfl | ((repeat' (first | exact ac0 | apply ac1)) <;> (first | rfl | assumption))); rfl) | (apply WD.alc; rfl; rfl; intro _) | (apply WD.bsl; rfl; rfl; (first | rfl | ((repeat' (first | exact ac0 | apply ac1)) <;> (first | rfl | assumption))); intro _) | (apply WOps.ldG; rfl; rfl; exact Ld.right (Ld.part cs.up.up.a2 4 1 (by omega)); rfl) | (apply WOps.ldG; rfl; rfl; exact Ld.right (Ld.part cs.up.up.a3 4 1 (by omega)); rfl) | (apply WOps.ldG; rfl; rfl; exact Ld.right (Ld.part cs.up.up.a2 3 1 (by omega)); rfl) | (apply WOps.ldG; rfl; rfl; exact Ld.right (Ld.part cs.up.up.a3 3 1 (by omega)); rfl) | (apply WOps.ldG; rfl; rfl; exact Ld.right cs.up.up.a7; rfl) | (apply WOps.ldG; rfl; rfl; exact Ld.right cs.up.up.a6; rfl) | (apply WOps.clA; rfl; rfl; exact drops18_ok ho.s.any qs2.any (by have := ho.ls; omega) (by omega) ho.os (fun p hp => (ho.tg p hp).1.cell) (fun p hp => (tg2 p hp).1.cell) rfl rfl rfl rfl (Ld.right cs.up.up.n5); rintro _ _ ⟨hw2, o2, rfl⟩) | (apply WOps.cmp; rfl; rfl; rfl; rfl; intro _ _) | (apply WOps.cmpT; rfl; rfl; rfl; rfl; intro _ _) | (apply WOps.purG; rfl; (intro _; rfl)) | (apply WOps.skp; rfl) | (apply WD.load; rfl; (first | (apply at1; (first | exact rd0 rfl rfl rfl | exact rd1 rfl rfl rfl | exact rd2 rfl rfl rfl); rfl) | (apply at2; (first | exact rd0 rfl rfl rfl | exact rd1 rfl rfl rfl | exact rd2 rfl rfl rfl); repeat' (first | exact same0 | (apply same1; (first | exact rd0 rfl rfl rfl | exact rd1 rfl rfl rfl | exact rd2 rfl rfl rfl); rfl) | (apply same2; (first | exact rd0 rfl rfl rfl | exact rd1 rfl rfl rfl | exact rd2 rfl rfl rfl)))))) | (apply WD.cmp; rfl; rfl; rfl; rfl; intro _ _) | (apply WD.cmpT; rfl; rfl; rfl; rfl; intro _ _) | (apply WD.pur; rfl; (intro _; rfl)) | (apply WD.skp; rfl) | (apply WD.skpL; rfl) | (apply WD.skpX; rfl) | (apply WOps.ask; rfl; all_goals (intro hb; first | subst hb | fail_if_success (cases hb))) | (apply WC.condA; rfl; all_goals (intro hb; try subst hb)) | (apply WD.ask; rfl; all_goals (intro hb; first | subst hb | fail_if_success (cases hb))))
    have cp6 := mem_both cp5 (dropPs_cell (kind := Int.ofNat 6) (node := own.node) (ids := dropIds (own.cks.map (·.id)) (C2.map (·.id))))
    have l4 := dropPs_len (kind := Int.ofNat 4) (node := own.node) (own := own.svs.map (·.1.id)) (cat := S2.map (·.1.id))
    have l6 := dropPs_len (kind := Int.ofNat 6) (node := own.node) (own := own.cks.map (·.id)) (cat := C2.map (·.id))
    rw [List.length_map] at l4 l6
    refine app_cms (G := []) rfl rfl o6 (List.Perm.refl _) cp6 o2 dropPs_cell (by rw [List.length_append]; omega) (by omega) ?_
    intro w7 hw7 o7
    repeat' (first
      | apply WOps.nil | apply WC.seq | apply WC.reg | apply WC.skip | apply WC.ret | (apply WC.condT; rfl) | (apply WC.condF; rfl) | apply WC.dreg | apply WD.nil | (apply WOps.ldG; rfl; rfl; (first | exact ld0 rfl | exact ld1 rfl | exact ld2 rfl); rfl) | (apply WOps.st; rfl; rfl; (first | exact tk0 | exact tk1 | exact tk2); rfl; (first | rfl | ((repeat' (first | exact ac0 | apply ac1)) <;> (first | rfl | assumption))); rfl) | (apply WOps.alc; rfl; intro _) | (apply WOps.bx; rfl; rfl; (first | rfl | ((repeat' (first | exact ac0 | apply ac1)) <;> (first | rfl | assumption))); intro _) | (apply WOps.bsl; rfl; (first | rfl | ((repeat' (first | exact ac0 | apply ac1)) <;> (first | rfl | assumption))); intro _) | (apply WD.st; rfl; rfl; rfl; (first | exact tk0 | exact tk1 | exact tk2); rfl; (first | rfl | ((repeat' (first | exact ac0 | apply ac1)) <;> (first | rfl | assumption))); rfl) | (apply WD.alc; rfl; rfl; intro _) | (apply WD.bsl; rfl; rfl; (first | rfl | ((repeat' (first | exact ac0 | apply ac1)) <;> (first | rfl | assumption))); intro _) | (apply WOps.ldG; rfl; rfl; exact Ld.right (Ld.part cs.up.up.up.up.a2 4 1 (by omega)); rfl) | (apply WOps.ldG; rfl; rfl; exact Ld.right (Ld.part cs.up.up.up.up.a3 4 1 (by omega)); rfl) | (apply WOps.ldG; rfl; rfl; exact Ld.right (Ld.part cs.up.up.up.up.a2 3 1 (by omega)); rfl) | (apply WOps.ldG; rfl; rfl; exact Ld.right (Ld.part cs.up.up.up.up.a3 3 1 (by omega)); rfl) | (apply WOps.ldG; rfl; rfl; exact Ld.right cs.up.up.up.up.a7; rfl) | (apply WOps.ldG; rfl; rfl; exact Ld.right cs.up.up.up.up.a6; rfl) | (apply WOps.clA; rfl; rfl; exact lays19_ok ho.s.any qs2.any (by have := ho.ls; omega) (by omega) os2 ho.tg tg2 rfl rfl (Ld.right cs.up.up.up.up.n5); rintro _ _ ⟨hw3, G, qs, hq, o3, ht, rfl⟩) | (apply WOps.cmp; rfl; rfl; rfl; rfl; intro _ _) | (apply WOps.cmpT; rfl; rfl; rfl; rfl; intro _ _) | (apply WOps.purG; rfl; (intro _; rfl)) | (apply WOps.skp; rfl) | (apply WD.load; rfl; (first | (apply at1; (first | exact rd0 rfl rfl rfl | exact rd1 rfl rfl rfl | exact rd2 rfl rfl rfl); rfl) | (apply at2; (first | exact rd0 rfl rfl rfl | exact rd1 rfl rfl rfl | exact rd2 rfl rfl rfl); repeat' (first | exact same0 | (apply same1; (first | exact rd0 rfl rfl rfl | exact rd1 rfl rfl rfl | exact rd2 rfl rfl rfl); rfl) | (apply same2; (first | exact rd0 rfl rfl rfl | exact rd1 rfl rfl rfl | exact rd2 rfl rfl rfl)))))) | (apply WD.cmp; rfl; rfl; rfl; rfl; intro _ _) | (apply WD.cmpT; rfl; rfl; rfl; rfl; intro _ _) | (apply WD.pur; rfl; (intro _; rfl)) | (apply WD.skp; rfl) | (apply WD.skpL; rfl) | (apply WD.skpX; rfl) | (apply WOps.ask; rfl; all_goals (intro hb; first | subst hb | fail_if_success (cases hb))) | (apply WC.condA; rfl; all_goals (intro hb; try subst hb)) | (apply WD.ask; rfl; all_goals (intro hb; first | subst hb | fail_if_success (cases hb))))
    have l3 := congrArg List.length hq
    rw [List.length_map] at l3
    have l3' := layL_len (node := own.node) (cat := S2) (own := own.svs)
    have l5 := ho.ls
    have l5' := ho.lc
    have cp7 := mem_both cp6 (dropPs_cell (kind := Int.ofNat 4) (node := own.node) (ids := dropIds (own.svs.map (·.1.id)) (S2.map (·.1.id))))
    have cq : ∀ p, p ∈ qs → p.2.isCell = true := fun p hp => (ht p hp).cell
    refine app_cms (G := G) rfl rfl o7 (List.Perm.refl _) cp7 o3 cq (by rw [List.length_append, List.length_append]; omega) (by omega) ?_
    intro w8 hw8 o8
    repeat' (first
      | apply WOps.nil | apply WC.seq | apply WC.reg | apply WC.skip | apply WC.ret | (apply WC.condT; rfl) | (apply WC.condF; rfl) | apply WC.dreg | apply WD.nil | (apply WOps.ldG; rfl; rfl; (first | exact ld0 rfl | exact ld1 rfl | exact ld2 rfl); rfl) | (apply WOps.st; rfl; rfl; (first | exact tk0 | exact tk1 | exact tk2); rfl; (first | rfl | ((repeat' (first | exact ac0 | apply ac1)) <;> (first | rfl | assumption))); rfl) | (apply WOps.alc; rfl; intro _) | (apply WOps.bx; rfl; rfl; (first | rfl | ((repeat' (first | exact ac0 | apply ac1)) <;> (first | rfl | assumption))); intro _) | (apply WOps.bsl; rfl; (first | rfl | ((repeat' (first | exact ac0 | apply ac1)) <;> (first | rfl | assumption))); intro _) | (apply WD.st; rfl; rfl; rfl; (first | exact tk0 | exact tk1 | exact tk2); rfl; (first | rfl | ((repeat' (first | exact ac0 | apply ac1)) <;> (first | rfl | assumption))); rfl) | (apply WD.alc; rfl; rfl; intro _) | (apply WD.bsl; rfl; rfl; (first | rfl | ((repeat' (first | exact ac0 | apply ac1)) <;> (first | rfl | assumption))); intro _) | (apply WOps.ldG; rfl; rfl; exact Ld.right (Ld.part cs.up.up.up.up.up.up.a2 4 1 (by omega)); rfl) | (apply WOps.ldG; rfl; rfl; exact Ld.right (Ld.part cs.up.up.up.up.up.up.a3 4 1 (by omega)); rfl) | (apply WOps.ldG; rfl; rfl; exact Ld.right (Ld.part cs.up.up.up.up.up.up.a2 3 1 (by omega)); rfl) | (apply WOps.ldG; rfl; rfl; exact Ld.right (Ld.part cs.up.up.up.up.up.up.a3 3 1 (by omega)); rfl) | (apply WOps.ldG; rfl; rfl; exact Ld.right cs.up.up.up.up.up.up.a7; rfl) | (apply WOps.ldG; rfl; rfl; exact Ld.right cs.up.up.up.up.up.up.a6; rfl) | (apply WOps.clA; rfl; rfl; exact lays20_ok ho.c.any qc2.any (by have := ho.lc; omega) (by omega) oc2 rfl rfl (Ld.right cs.up.up.up.up.up.up.n6); rintro _ _ ⟨hw4, o4, rfl⟩) | (apply WOps.cmp; rfl; rfl; rfl; rfl; intro _ _) | (apply WOps.cmpT; rfl; rfl; rfl; rfl; intro _ _) | (apply WOps.purG; rfl; (intro _; rfl)) | (apply WOps.skp; rfl) | (apply WD.load; rfl; (first | (apply at1; (first | exact rd0 rfl rfl rfl | exact rd1 rfl rfl rfl | exact rd2 rfl rfl rfl); rfl) | (apply at2; (first | exact rd0 rfl rfl rfl | exact rd1 rfl rfl rfl | exact rd2 rfl rfl rfl); repeat' (first | exact same0 | (apply same1; (first | exact rd0 rfl rfl rfl | exact rd1 rfl rfl rfl | exact rd2 rfl rfl rfl); rfl) | (apply same2; (first | exact rd0 rfl rfl rfl | exact rd1 rfl rfl rfl | exact rd2 rfl rfl rfl)))))) | (apply WD.cmp; rfl; rfl; rfl; rfl; intro _ _) | (apply WD.cmpT; rfl; rfl; rfl; rfl; intro _ _) | (apply WD.pur; rfl; (intro _; rfl)) | (apply WD.skp; rfl) | (apply WD.skpL; rfl) | (apply WD.skpX; rfl) | (apply WOps.ask; rfl; all_goals (intro hb; first | subst hb | fail_if_success (cases hb))) | (apply WC.condA; rfl; all_goals (intro hb; try subst hb)) | (apply WD.ask; rfl; all_goals (intro hb; first | subst hb | fail_if_success (cases hb))))
    have l9 := lay_len (node := own.node) (cat := C2) (own := own.cks)
    refine app_cms (G := []) rfl rfl o8 (List.Perm.refl _) (mem_both cp7 cq) o4 layPs_cell (by simp only [List.length_append]; omega) (by omega) ?_
    intro w9 hw9 o9
    repeat' (first
      | apply WOps.nil | apply WC.seq | apply WC.reg | apply WC.skip | apply WC.ret | (apply WC.condT; rfl) | (apply WC.condF; rfl) | apply WC.dreg | apply WD.nil | (apply WOps.ldG; rfl; rfl; (first | exact ld0 rfl | exact ld1 rfl | exact ld2 rfl); rfl) | (apply WOps.st; rfl; rfl; (first | exact tk0 | exact tk1 | exact tk2); rfl; (first | rfl | ((repeat' (first | exact ac0 | apply ac1)) <;> (first | rfl | assumption))); rfl) | (apply WOps.alc; rfl; intro _) | (apply WOps.bx; rfl; rfl; (first | rfl | ((repeat' (first | exact ac0 | apply ac1)) <;> (first | rfl | assumption))); intro _) | (apply WOps.bsl; rfl; (first | rfl | ((repeat' (first | exact ac0 | apply ac1)) <;> (first | rfl | assumption))); intro _) | (apply WD.st; rfl; rfl; rfl; (first | exact tk0 | exact tk1 | exact tk2); rfl; (first | rfl | ((repeat' (first | exact ac0 | apply ac1)) <;> (first | rfl | assumption))); rfl) | (apply WD.alc; rfl; rfl; intro _) | (apply WD.bsl; rfl; rfl; (first | rfl | ((repeat' (first | exact ac0 | apply ac1)) <;> (first | rfl | assumption))); intro _) | (apply WOps.cmp; rfl; rfl; rfl; rfl; intro _ _) | (apply WOps.cmpT; rfl; rfl; rfl; rfl; intro _ _) | (apply WOps.purG; rfl; (intro _; rfl)) | (apply WOps.skp; rfl) | (apply WD.load; rfl; (first | (apply at1; (first | exact rd0 rfl rfl rfl | exact rd1 rfl rfl rfl | exact rd2 rfl rfl rfl); rfl) | (apply at2; (first | exact rd0 rfl rfl rfl | exact rd1 rfl rfl rfl | exact rd2 rfl rfl rfl); repeat' (first | exact same0 | (apply same1; (first | exact rd0 rfl rfl rfl | exact rd1 rfl rfl rfl | exact rd2 rfl rfl rfl); rfl) | (apply same2; (first | exact rd0 rfl rfl rfl | exact rd1 rfl rfl rfl | exact rd2 rfl rfl rfl)))))) | (apply WD.cmp; rfl; rfl; rfl; rfl; intro _ _) | (apply WD.cmpT; rfl; rfl; rfl; rfl; intro _ _) | (apply WD.pur; rfl; (intro _; rfl)) | (apply WD.skp; rfl) | (apply WD.skpL; rfl) | (apply WD.skpX; rfl) | (apply WOps.ask; rfl; all_goals (intro hb; first | subst hb | fail_if_success (cases hb))) | (apply WC.condA; rfl; all_goals (intro hb; try subst hb)) | (apply WD.ask; rfl; all_goals (intro hb; first | subst hb | fail_if_success (cases hb))))
    refine ⟨trivial, [_], ⟨_, [], rfl, rfl, rfl⟩, _, ⟨hw9, G, _, hdiff qs hq, o9, ?_, rfl⟩, ?_⟩
    · refine mem_both (mem_both (mem_both (mem_both ?_ dropPs_sl) dropPs_sl) ht) layPs_sl
      intro p hp
      obtain ⟨e5, e6⟩ := hp2 p hp
      rw [e5, e6]; exact .inl ⟨rfl, rfl⟩
    · obtain ⟨RG, hr⟩ := sr
      refine (SubP.perm (X := hw9 ++ (hw4 ++ ([] ++ (hw3 ++ (G ++ (hw2 ++ ([] ++ (hw1 ++ ([] ++ (H ++ RG)))))))))) ?_ (subF (by intro f; simp only [AV.cells, List.append_eq, List.map_cons, List.map_nil, List.sum_nil, List.map_append, List.sum_cons, List.sum_append, List.cons_append, List.nil_append, List.append_assoc, List.append_nil]; omega)))
      exact .append_left _ (.append_left _ (.append_left _ (.append_left _ (.append_left _ (.append_left _ (.append_left _ (.append_left _ (.append_left _ hr))))))))
  · simp only [if_true] at hs2 hc2
    subst hs2 hc2
    repeat' (first
      | apply WOps.nil | apply WC.seq | apply WC.reg | apply WC.skip | apply WC.ret | (apply WC.condT; rfl) | (apply WC.condF; rfl) | apply WC.dreg | apply WD.nil | (apply WOps.ldG; rfl; rfl; (first | exact ld0 rfl | exact ld1 rfl | exact ld2 rfl); rfl) | (apply WOps.st; rfl; rfl; (first | exact tk0 | exact tk1 | exact tk2); rfl; (first | rfl | ((repeat' (first | exact ac0 | apply ac1)) <;> (first | rfl | assumption))); rfl) | (apply WOps.alc; rfl; intro _) | (apply WOps.bx; rfl; rfl; (first | rfl | ((repeat' (first | exact ac0 | apply ac1)) <;> (first | rfl | assumption))); intro _) | (apply WOps.bsl; rfl; (first | rfl | ((repeat' (first | exact ac0 | apply ac1)) <;> (first | rfl | assumption))); intro _) | (apply WD.st; rfl; rfl; rfl; (first | exact tk0 | exact tk1 | exact tk2); rfl; (first | rfl | ((repeat' (first | exact ac0 | apply ac1)) <;> (first | rfl | assumption))); rfl) | (apply WD.alc; rfl; rfl; intro _) | (apply WD.bsl; rfl; rfl; (first | rfl | ((repeat' (first | exact ac0 | apply ac1)) <;> (first | rfl | assumption))); intro _) | (apply WD.clA; rfl; rfl; exact kinds15_ok; rintro _ _ ⟨c5, rfl, rfl⟩) | (apply WD.clA; rfl; rfl; exact kinds16_ok; rintro _ _ ⟨c6, rfl, rfl⟩) | (apply WOps.cmp; rfl; rfl; rfl; rfl; intro _ _) | (apply WOps.cmpT; rfl; rfl; rfl; rfl; intro _ _) | (apply WOps.purG; rfl; (intro _; rfl)) | (apply WOps.skp; rfl) | (apply WD.load; rfl; (first | (apply at1; (first | exact rd0 rfl rfl rfl | exact rd1 rfl rfl rfl | exact rd2 rfl rfl rfl); rfl) | (apply at2; (first | exact rd0 rfl rfl rfl | exact rd1 rfl rfl rfl | exact rd2 rfl rfl rfl); repeat' (first | exact same0 | (apply same1; (first | exact rd0 rfl rfl rfl | exact rd1 rfl rfl rfl | exact rd2 rfl rfl rfl); rfl) | (apply same2; (first | exact rd0 rfl rfl rfl | exact rd1 rfl rfl rfl | exact rd2 rfl rfl rfl)))))) | (apply WD.cmp; rfl; rfl; rfl; rfl; intro _ _) | (apply WD.cmpT; rfl; rfl; rfl; rfl; intro _ _) | (apply WD.pur; rfl; (intro _; rfl)) | (apply WD.skp; rfl) | (apply WD.skpL; rfl) | (apply WD.skpX; rfl) | (apply WOps.ask; rfl; all_goals (intro hb; first | subst hb | fail_if_success (cases hb))) | (apply WC.condA; rfl; all_goals (intro hb; try subst hb)) | (apply WD.ask; rfl; all_goals (intro hb; first | subst hb | fail_if_success (cases hb))))
    · obtain rfl : ps0 = [(nodeCm own, .nilsl)] := by
        rcases hp3 with ⟨_, h, _⟩ | ⟨_, h⟩
        · exact absurd h (‹true = true ↔ cmpS BinOp.neq _ _›.1 rfl)
        · exact h
      rename_i p2 p3 hcmp p29
      refine WOps.app (n := 0) (m := 1) (h := []) (cells := cmsC []) rfl rfl rfl (.inl ⟨rfl, rfl, rfl, rfl⟩) (List.Perm.refl _) (src_one Tk.head rfl) rfl rfl rfl (by omega) ?_
      intro w5 hw5 o5
      have cp5 : ∀ p, p ∈ [(nodeCm own, AV.nilsl)] → p.2.isCell = true := by
        intro p hp; rw [List.mem_singleton] at hp; subst hp; rfl
      replace o5 : OwnSl w5 (cmsC [(nodeCm own, AV.nilsl)]) [(nodeCm own, AV.nilsl)].length 17 hw5 := o5
      refine WOps.lessP (H1 := (p3, .row (owC ⟨true, node2, addr2, svs2, cks2⟩ s2 c2)) :: (p2, .row (owC own sv cv)) :: (hw5 ++ H)) (subF (by intro f; simp only [AV.cells, List.append_eq, List.map_cons, List.map_nil, List.sum_nil, List.map_append, List.sum_cons, List.sum_append, List.cons_append, List.nil_append, List.append_assoc, List.append_nil]; omega)) ?_
      repeat' (first
        | apply WOps.nil | apply WC.seq | apply WC.reg | apply WC.skip | apply WC.ret | (apply WC.condT; rfl) | (apply WC.condF; rfl) | apply WC.dreg | apply WD.nil | (apply WOps.ldG; rfl; rfl; (first | exact ld0 rfl | exact ld1 rfl | exact ld2 rfl); rfl) | (apply WOps.st; rfl; rfl; (first | exact tk0 | exact tk1 | exact tk2); rfl; (first | rfl | ((repeat' (first | exact ac0 | apply ac1)) <;> (first | rfl | assumption))); rfl) | (apply WOps.alc; rfl; intro _) | (apply WOps.bx; rfl; rfl; (first | rfl | ((repeat' (first | exact ac0 | apply ac1)) <;> (first | rfl | assumption))); intro _) | (apply WOps.bsl; rfl; (first | rfl | ((repeat' (first | exact ac0 | apply ac1)) <;> (first | rfl | assumption))); intro _) | (apply WD.st; rfl; rfl; rfl; (first | exact tk0 | exact tk1 | exact tk2); rfl; (first | rfl | ((repeat' (first | exact ac0 | apply ac1)) <;> (first | rfl | assumption))); rfl) | (apply WD.alc; rfl; rfl; intro _) | (apply WD.bsl; rfl; rfl; (first | rfl | ((repeat' (first | exact ac0 | apply ac1)) <;> (first | rfl | assumption))); intro _) | (apply WD.clA; rfl; rfl; exact kinds15_ok; rintro _ _ ⟨c5, rfl, rfl⟩) | (apply WD.clA; rfl; rfl; exact kinds16_ok; rintro _ _ ⟨c6, rfl, rfl⟩) | (apply WOps.cmp; rfl; rfl; rfl; rfl; intro _ _) | (apply WOps.cmpT; rfl; rfl; rfl; rfl; intro _ _) | (apply WOps.purG; rfl; (intro _; rfl)) | (apply WOps.skp; rfl) | (apply WD.load; rfl; (first | (apply at1; (first | exact rd0 rfl rfl rfl | exact rd1 rfl rfl rfl | exact rd2 rfl rfl rfl); rfl) | (apply at2; (first | exact rd0 rfl rfl rfl | exact rd1 rfl rfl rfl | exact rd2 rfl rfl rfl); repeat' (first | exact same0 | (apply same1; (first | exact rd0 rfl rfl rfl | exact rd1 rfl rfl rfl | exact rd2 rfl rfl rfl); rfl) | (apply same2; (first | exact rd0 rfl rfl rfl | exact rd1 rfl rfl rfl | exact rd2 rfl rfl rfl)))))) | (apply WD.cmp; rfl; rfl; rfl; rfl; intro _ _) | (apply WD.cmpT; rfl; rfl; rfl; rfl; intro _ _) | (apply WD.pur; rfl; (intro _; rfl)) | (apply WD.skp; rfl) | (apply WD.skpL; rfl) | (apply WD.skpX; rfl) | (apply WOps.ask; rfl; all_goals (intro hb; first | subst hb | fail_if_success (cases hb))) | (apply WC.condA; rfl; all_goals (intro hb; try subst hb)) | (apply WD.ask; rfl; all_goals (intro hb; first | subst hb | fail_if_success (cases hb))))
      rename_i p6 p7
      refine WOps.sub (t' := [(2, .ptr ⟨false, p2, 0⟩), (3, .ptr ⟨false, p3, 0⟩), (5, w5), (6, .ptr ⟨false, p6, 0⟩), (7, .ptr ⟨false, p7, 0⟩), (37, w5), (38, .ptr ⟨false, p2, 4⟩)]) (Sub1.cons rfl (Sub1.cons rfl (Sub1.cons rfl (Sub1.cons rfl (Sub1.cons rfl (Sub1.cons rfl (Sub1.cons rfl Sub1.nil))))))) ?_
      have cs : Cs B ((p2, AObj.row (owC own sv cv)) :: (p3, .row (owC ⟨true, node2, addr2, svs2, cks2⟩ s2 c2)) :: (p6, .row [.fn (.func 27) [] [], .fn (.func 28) [] [], .fn (.func 30) [] [.ptr ⟨false, c5, 0⟩], .fn (.func 31) [] [.ptr ⟨false, c5, 0⟩]]) :: (p7, .row [.fn (.func 33) [] [], .fn (.func 34) [] [], .fn (.func 35) [] [.ptr ⟨false, c6, 0⟩], .fn (.func 36) [] [.ptr ⟨false, c6, 0⟩]]) :: (c5, .row [.int .i64 own.node]) :: (c6, .row [.int .i64 own.node]) :: H) p2 p3 p6 p7 c5 c6 own sv cv s2 c2 true node2 addr2 := ⟨ld0 rfl, ld1 rfl, ld2 rfl, (ld2 rfl).cons, (ld2 rfl).cons.cons, (ld2 rfl).cons.cons.cons⟩
      refine WOps.lessP (H1 := hw5 ++ ((p2, AObj.row (owC own sv cv)) :: (p3, .row (owC ⟨true, node2, addr2, svs2, cks2⟩ s2 c2)) :: (p6, .row [.fn (.func 27) [] [], .fn (.func 28) [] [], .fn (.func 30) [] [.ptr ⟨false, c5, 0⟩], .fn (.func 31) [] [.ptr ⟨false, c5, 0⟩]]) :: (p7, .row [.fn (.func 33) [] [], .fn (.func 34) [] [], .fn (.func 35) [] [.ptr ⟨false, c6, 0⟩], .fn (.func 36) [] [.ptr ⟨false, c6, 0⟩]]) :: (c5, .row [.int .i64 own.node]) :: (c6, .row [.int .i64 own.node]) :: H)) (subF (by intro f; simp only [AV.cells, List.append_eq, List.map_cons, List.map_nil, List.sum_nil, List.map_append, List.sum_cons, List.sum_append, List.cons_append, List.nil_append, List.append_assoc, List.append_nil]; omega)) ?_
      have sr : SubP H ((p2, AObj.row (owC own sv cv)) :: (p3, .row (owC ⟨true, node2, addr2, svs2, cks2⟩ s2 c2)) :: (p6, .row [.fn (.func 27) [] [], .fn (.func 28) [] [], .fn (.func 30) [] [.ptr ⟨false, c5, 0⟩], .fn (.func 31) [] [.ptr ⟨false, c5, 0⟩]]) :: (p7, .row [.fn (.func 33) [] [], .fn (.func 34) [] [], .fn (.func 35) [] [.ptr ⟨false, c6, 0⟩], .fn (.func 36) [] [.ptr ⟨false, c6, 0⟩]]) :: (c5, .row [.int .i64 own.node]) :: (c6, .row [.int .i64 own.node]) :: H) := subF (by intro f; simp only [AV.cells, List.append_eq, List.map_cons, List.map_nil, List.sum_nil, List.map_append, List.sum_cons, List.sum_append, List.cons_append, List.nil_append, List.append_assoc, List.append_nil]; omega)
      generalize ((p2, AObj.row (owC own sv cv)) :: (p3, .row (owC ⟨true, node2, addr2, svs2, cks2⟩ s2 c2)) :: (p6, .row [.fn (.func 27) [] [], .fn (.func 28) [] [], .fn (.func 30) [] [.ptr ⟨false, c5, 0⟩], .fn (.func 31) [] [.ptr ⟨false, c5, 0⟩]]) :: (p7, .row [.fn (.func 33) [] [], .fn (.func 34) [] [], .fn (.func 35) [] [.ptr ⟨false, c6, 0⟩], .fn (.func 36) [] [.ptr ⟨false, c6, 0⟩]]) :: (c5, .row [.int .i64 own.node]) :: (c6, .row [.int .i64 own.node]) :: H) = R at cs sr ⊢
      repeat' (first
        | apply WOps.nil | apply WC.seq | apply WC.reg | apply WC.skip | apply WC.ret | (apply WC.condT; rfl) | (apply WC.condF; rfl) | apply WC.dreg | apply WD.nil | (apply WOps.ldG; rfl; rfl; (first | exact ld0 rfl | exact ld1 rfl | exact ld2 rfl); rfl) | (apply WOps.st; rfl; rfl; (first | exact tk0 | exact tk1 | exact tk2); rfl; (first | rfl | ((repeat' (first | exact ac0 | apply ac1)) <;> (first | rfl | assumption))); rfl) | (apply WOps.alc; rfl; intro _) | (apply WOps.bx; rfl; rfl; (first | rfl | ((repeat' (first | exact ac0 | apply ac1)) <;> (first | rfl | assumption))); intro _) | (apply WOps.bsl; rfl; (first | rfl | ((repeat' (first | exact ac0 | apply ac1)) <;> (first | rfl | assumption))); intro _) | (apply WD.st; rfl; rfl; rfl; (first | exact tk0 | exact tk1 | exact tk2); rfl; (first | rfl | ((repeat' (first | exact ac0 | apply ac1)) <;> (first | rfl | assumption))); rfl) | (apply WD.alc; rfl; rfl; intro _) | (apply WD.bsl; rfl; rfl; (first | rfl | ((repeat' (first | exact ac0 | apply ac1)) <;> (first | rfl | assumption))); intro _) | (apply WOps.ldG; rfl; rfl; exact Ld.right (Ld.part cs.a2 4 1 (by omega)); rfl) | (apply WOps.ldG; rfl; rfl; exact Ld.right (Ld.part cs.a3 4 1 (by omega)); rfl) | (apply WOps.ldG; rfl; rfl; exact Ld.right (Ld.part cs.a2 3 1 (by omega)); rfl) | (apply WOps.ldG; rfl; rfl; exact Ld.right (Ld.part cs.a3 3 1 (by omega)); rfl) | (apply WOps.ldG; rfl; rfl; exact Ld.right cs.a7; rfl) | (apply WOps.ldG; rfl; rfl; exact Ld.right cs.a6; rfl) | (apply WOps.clA; rfl; rfl; exact drops17_ok ho.c.any qc2.any (by have := ho.lc; omega) (by omega) ho.oc rfl rfl rfl rfl (Ld.right cs.n6); rintro _ _ ⟨hw1, o1, rfl⟩) | (apply WOps.cmp; rfl; rfl; rfl; rfl; intro _ _) | (apply WOps.cmpT; rfl; rfl; rfl; rfl; intro _ _) | (apply WOps.purG; rfl; (intro _; rfl)) | (apply WOps.skp; rfl) | (apply WD.load; rfl; (first | (apply at1; (first | exact rd0 rfl rfl rfl | exact rd1 rfl rfl rfl | exact rd2 rfl rfl rfl); rfl) | (apply at2; (first | exact rd0 rfl rfl rfl | exact rd1 rfl rfl rfl | exact rd2 rfl rfl rfl); repeat' (first | exact same0 | (apply same1; (first | exact rd0 rfl rfl rfl | exact rd1 rfl rfl rfl | exact rd2 rfl rfl rfl); rfl) | (apply same2; (first | exact rd0 rfl rfl rfl | exact rd1 rfl rfl rfl | exact rd2 rfl rfl rfl)))))) | (apply WD.cmp; rfl; rfl; rfl; rfl; intro _ _) | (apply WD.cmpT; rfl; rfl; rfl; rfl; intro _ _) | (apply WD.pur; rfl; (intro _; rfl)) | (apply WD.skp; rfl) | (apply WD.skpL; rfl) | (apply WD.skpX; rfl) | (apply WOps.ask; rfl; all_goals (intro hb; first | subst hb | fail_if_success (cases hb))) | (apply WC.condA; rfl; all_goals (intro hb; try subst hb)) | (apply WD.ask; rfl; all_goals (intro hb; first | subst hb | fail_if_success (cases hb))))
      refine app_cms (G := []) rfl rfl o5 (List.Perm.refl _) cp5 o1 dropPs_cell (by omega) (by have := dropPs_len (kind := Int.ofNat 6) (node := own.node) (own := own.cks.map (·.id)) (cat := C2.map (·.id)); rw [List.length_map] at this; omega) ?_
      intro w6 hw6 o6
      repeat' (first
        | apply WOps.nil | apply WC.seq | apply WC.reg | apply WC.skip | apply WC.ret | (apply WC.condT; rfl) | (apply WC.condF; rfl) | apply WC.dreg | apply WD.nil | (apply WOps.ldG; rfl; rfl; (first | exact ld0 rfl | exact ld1 rfl | exact ld2 rfl); rfl) | (apply WOps.st; rfl; rfl; (first | exact tk0 | exact tk1 | exact tk2); rfl; (first | rfl | ((repeat' (first | exact ac0 | apply ac1)) <;> (first | rfl | assumption))); rfl) | (apply WOps.alc; rfl; intro _) | (apply WOps.bx; rfl; rfl; (first | rfl | ((repeat' (first | exact ac0 | apply ac1)) <;> (first | rfl | assumption))); intro _) | (apply WOps.bsl; rfl; (first | rfl | ((repeat' (first | exact ac0 | apply ac1)) <;> (first | rfl | assumption))); intro _) | (apply WD.st; rfl; rfl; rfl; (first | exact tk0 | exact tk1 | exact tk2); rfl; (first | rfl | ((repeat' (first | exact ac0 | apply ac1)) <;> (first | rfl | assumption))); rfl) | (apply WD.alc; rfl; rfl; intro _) | (apply WD.bsl; rfl; rfl; (first | rfl | ((repeat' (first | exact ac0 | apply ac1)) <;> (first | rfl | assumption))); intro _) | (apply WOps.ldG; rfl; rfl; exact Ld.right (Ld.part cs.up.up.a2 4 1 (by omega)); rfl) | (apply WOps.ldG; rfl; rfl; exact Ld.right (Ld.part cs.up.up.a3 4 1 (by omega)); rfl) | (apply WOps.ldG; rfl; rfl; exact Ld.right (Ld.part cs.up.up.a2 3 1 (by omega)); rfl) | (apply WOps.ldG; rfl; rfl; exact Ld.right (Ld.part cs.up.up.a3 3 1 (by omega)); rfl) | (apply WOps.ldG; rfl; rfl; exact Ld.right cs.up.up.a7; rfl) | (apply WOps.ldG; rfl; rfl; exact Ld.right cs.up.up.a6; rfl) | (apply WOps.clA; rfl; rfl; exact drops18_ok ho.s.any qs2.any (by have := ho.ls; omega) (by omega) ho.os (fun p hp => (ho.tg p hp).1.cell) (fun p hp => (tg2 p hp).1.cell) rfl rfl rfl rfl (Ld.right cs.up.up.n5); rintro _ _ ⟨hw2, o2, rfl⟩) | (apply WOps.cmp; rfl; rfl; rfl; rfl; intro _ _) | (apply WOps.cmpT; rfl; rfl; rfl; rfl; intro _ _) | (apply WOps.purG; rfl; (intro _; rfl)) | (apply WOps.skp; rfl) | (apply WD.load; rfl; (first | (apply at1; (first | exact rd0 rfl rfl rfl | exact rd1 rfl rfl rfl | exact rd2 rfl rfl rfl); rfl) | (apply at2; (first | exact rd0 rfl rfl rfl | exact rd1 rfl rfl rfl | exact rd2 rfl rfl rfl); repeat' (first | exact same0 | (apply same1; (first | exact rd0 rfl rfl rfl | exact rd1 rfl rfl rfl | exact rd2 rfl rfl rfl); rfl) | (apply same2; (first | exact rd0 rfl rfl rfl | exact rd1 rfl rfl rfl | exact rd2 rfl rfl rfl)))))) | (apply WD.cmp; rfl; rfl; rfl; rfl; intro _ _) | (apply WD.cmpT; rfl; rfl; rfl; rfl; intro _ _) | (apply WD.pur; rfl; (intro _; rfl)) | (apply WD.skp; rfl) | (apply WD.skpL; rfl) | (apply WD.skpX; rfl) | (apply WOps.ask; rfl; all_goals (intro hb; first | subst hb | fail_if_success (cases hb))) | (apply WC.condA; rfl; all_goals (intro hb; try subst hb)) | (apply WD.ask; rfl; all_goals (intro hb; first | subst hb | fail_if_success (cases hb))))
      have cp6 := mem_both cp5 (dropPs_cell (kind := Int.ofNat 6) (node := own.node) (ids := dropIds (own.cks.map (·.id)) (C2.map (·.id))))
      have l4 := dropPs_len (kind := Int.ofNat 4) (node := own.node) (own := own.svs.map (·.1.id)) (cat := S2.map (·.1.id))
      have l6 := dropPs_len (kind := Int.ofNat 6) (node := own.node) (own := own.cks.map (·.id)) (cat := C2.map (·.id))
      rw [List.length_map] at l4 l6
      refine app_cms (G := []) rfl rfl o6 (List.Perm.refl _) cp6 o2 dropPs_cell (by rw [List.length_append]; omega) (by omega) ?_
      intro w7 hw7 o7
      repeat' (first
        | apply WOps.nil | apply WC.seq | apply WC.reg | apply WC.skip | apply WC.ret | (apply WC.condT; rfl) | (apply WC.condF; rfl) | apply WC.dreg | apply WD.nil | (apply WOps.ldG; rfl; rfl; (first | exact ld0 rfl | exact ld1 rfl | exact ld2 rfl); rfl) | (apply WOps.st; rfl; rfl; (first | exact tk0 | exact tk1 | exact tk2); rfl; (first | rfl | ((repeat' (first | exact ac0 | apply ac1)) <;> (first | rfl | assumption))); rfl) | (apply WOps.alc; rfl; intro _) | (apply WOps.bx; rfl; rfl; (first | rfl | ((repeat' (first | exact ac0 | apply ac1)) <;> (first | rfl | assumption))); intro _) | (apply WOps.bsl; rfl; (first | rfl | ((repeat' (first | exact ac0 | apply ac1)) <;> (first | rfl | assumption))); intro _) | (apply WD.st; rfl; rfl; rfl; (first | exact tk0 | exact tk1 | exact tk2); rfl; (first | rfl | ((repeat' (first | exact ac0 | apply ac1)) <;> (first | rfl | assumption))); rfl) | (apply WD.alc; rfl; rfl; intro _) | (apply WD.bsl; rfl; rfl; (first | rfl | ((repeat' (first | exact ac0 | apply ac1)) <;> (first | rfl | assumption))); intro _) | (apply WOps.ldG; rfl; rfl; exact Ld.right (Ld.part cs.up.up.up.up.a2 4 1 (by omega)); rfl) | (apply WOps.ldG; rfl; rfl; exact Ld.right (Ld.part cs.up.up.up.up.a3 4 1 (by omega)); rfl) | (apply WOps.ldG; rfl; rfl; exact Ld.right (Ld.part cs.up.up.up.up.a2 3 1 (by omega)); rfl) | (apply WOps.ldG; rfl; rfl; exact Ld.right (Ld.part cs.up.up.up.up.a3 3 1 (by omega)); rfl) | (apply WOps.ldG; rfl; rfl; exact Ld.right cs.up.up.up.up.a7; rfl) | (apply WOps.ldG; rfl; rfl; exact Ld.right cs.up.up.up.up.a6; rfl) | (apply WOps.clA; rfl; rfl; exact lays19_ok ho.s.any qs2.any (by have := ho.ls; omega) (by omega) os2 ho.tg tg2 rfl rfl (Ld.right cs.up.up.up.up.n5); rintro _ _ ⟨hw3, G, qs, hq, o3, ht, rfl⟩) | (apply WOps.cmp; rfl; rfl; rfl; rfl; intro _ _) | (apply WOps.cmpT; rfl; rfl; rfl; rfl; intro _ _) | (apply WOps.purG; rfl; (intro _; rfl)) | (apply WOps.skp; rfl) | (apply WD.load; rfl; (first | (apply at1; (first | exact rd0 rfl rfl rfl | exact rd1 rfl rfl rfl | exact rd2 rfl rfl rfl); rfl) | (apply at2; (first | exact rd0 rfl rfl rfl | exact rd1 rfl rfl rfl | exact rd2 rfl rfl rfl); repeat' (first | exact same0 | (apply same1; (first | exact rd0 rfl rfl rfl | exact rd1 rfl rfl rfl | exact rd2 rfl rfl rfl); rfl) | (apply same2; (first | exact rd0 rfl rfl rfl | exact rd1 rfl rfl rfl | exact rd2 rfl rfl rfl)))))) | (apply WD.cmp; rfl; rfl; rfl; rfl; intro _ _) | (apply WD.cmpT; rfl; rfl; rfl; rfl; intro _ _) | (apply WD.pur; rfl; (intro _; rfl)) | (apply WD.skp; rfl) | (apply WD.skpL; rfl) | (apply WD.skpX; rfl) | (apply WOps.ask; rfl; all_goals (intro hb; first | subst hb | fail_if_success (cases hb))) | (apply WC.condA; rfl; all_goals (intro hb; try subst hb)) | (apply WD.ask; rfl; all_goals (intro hb; first | subst hb | fail_if_success (cases hb))))
      have l3 := congrArg List.length hq
      rw [List.length_map] at l3
      have l3' := layL_len (node := own.node) (cat := S2) (own := own.svs)
      have l5 := ho.ls
      have l5' := ho.lc
      have cp7 := mem_both cp6 (dropPs_cell (kind := Int.ofNat 4) (node := own.node) (ids := dropIds (own.svs.map (·.1.id)) (S2.map (·.1.id))))
      have cq : ∀ p, p ∈ qs → p.2.isCell = true := fun p hp => (ht p hp).cell
      refine app_cms (G := G) rfl rfl o7 (List.Perm.refl _) cp7 o3 cq (by rw [List.length_append, List.length_append]; omega) (by omega) ?_
      intro w8 hw8 o8
      repeat' (first
        | apply WOps.nil | apply WC.seq | apply WC.reg | apply WC.skip | apply WC.ret | (apply WC.condT; rfl) | (apply WC.condF; rfl) | apply WC.dreg | apply WD.nil | (apply WOps.ldG; rfl; rfl; (first | exact ld0 rfl | exact ld1 rfl | exact ld2 rfl); rfl) | (apply WOps.st; rfl; rfl; (first | exact tk0 | exact tk1 | exact tk2); rfl; (first | rfl | ((repeat' (first | exact ac0 | apply ac1)) <;> (first | rfl | assumption))); rfl) | (apply WOps.alc; rfl; intro _) | (apply WOps.bx; rfl; rfl; (first | rfl | ((repeat' (first | exact ac0 | apply ac1)) <;> (first | rfl | assumption))); intro _) | (apply WOps.bsl; rfl; (first | rfl | ((repeat' (first | exact ac0 | apply ac1)) <;> (first | rfl | assumption))); intro _) | (apply WD.st; rfl; rfl; rfl; (first | exact tk0 | exact tk1 | exact tk2); rfl; (first | rfl | ((repeat' (first | exact ac0 | apply ac1)) <;> (first | rfl | assumption))); rfl) | (apply WD.alc; rfl; rfl; intro _) | (apply WD.bsl; rfl; rfl; (first | rfl | ((repeat' (first | exact ac0 | apply ac1)) <;> (first | rfl | assumption))); intro _) | (apply WOps.ldG; rfl; rfl; exact Ld.right (Ld.part cs.up.up.up.up.up.up.a2 4 1 (by omega)); rfl) | (apply WOps.ldG; rfl; rfl; exact Ld.right (Ld.part cs.up.up.up.up.up.up.a3 4 1 (by omega)); rfl) | (apply WOps.ldG; rfl; rfl; exact Ld.right (Ld.part cs.up.up.up.up.up.up.a2 3 1 (by omega)); rfl) | (apply WOps.ldG; rfl; rfl; exact Ld.right (Ld.part cs.up.up.up.up.up.up.a3 3 1 (by omega)); rfl) | (apply WOps.ldG; rfl; rfl; exact Ld.right cs.up.up.up.up.up.up.a7; rfl) | (apply WOps.ldG; rfl; rfl; exact Ld.right cs.up.up.up.up.up.up.a6; rfl) | (apply WOps.clA; rfl; rfl; exact lays20_ok ho.c.any qc2.any (by have := ho.lc; omega) (by omega) oc2 rfl rfl (Ld.right cs.up.up.up.up.up.up.n6); rintro _ _ ⟨hw4, o4, rfl⟩) | (apply WOps.cmp; rfl; rfl; rfl; rfl; intro _ _) | (apply WOps.cmpT; rfl; rfl; rfl; rfl; intro _ _) | (apply WOps.purG; rfl; (intro _; rfl)) | (apply WOps.skp; rfl) | (apply WD.load; rfl; (first | (apply at1; (first | exact rd0 rfl rfl rfl | exact rd1 rfl rfl rfl | exact rd2 rfl rfl rfl); rfl) | (apply at2; (first | exact rd0 rfl rfl rfl | exact rd1 rfl rfl rfl | exact rd2 rfl rfl rfl); repeat' (first | exact same0 | (apply same1; (first | exact rd0 rfl rfl rfl | exact rd1 rfl rfl rfl | exact rd2 rfl rfl rfl); rfl) | (apply same2; (first | exact rd0 rfl rfl rfl | exact rd1 rfl rfl rfl | exact rd2 rfl rfl rfl)))))) | (apply WD.cmp; rfl; rfl; rfl; rfl; intro _ _) | (apply WD.cmpT; rfl; rfl; rfl; rfl; intro _ _) | (apply WD.pur; rfl; (intro _; rfl)) | (apply WD.skp; rfl) | (apply WD.skpL; rfl) | (apply WD.skpX; rfl) | (apply WOps.ask; rfl; all_goals (intro hb; first | subst hb | fail_if_success (cases hb))) | (apply WC.condA; rfl; all_goals (intro hb; try subst hb)) | (apply WD.ask; rfl; all_goals (intro hb; first | subst hb | fail_if_success (cases hb))))
      have l9 := lay_len (node := own.node) (cat := C2) (own := own.cks)
      refine app_cms (G := []) rfl rfl o8 (List.Perm.refl _) (mem_both cp7 cq) o4 layPs_cell (by simp only [List.length_append]; omega) (by omega) ?_
      intro w9 hw9 o9
      repeat' (first
        | apply WOps.nil | apply WC.seq | apply WC.reg | apply WC.skip | apply WC.ret | (apply WC.condT; rfl) | (apply WC.condF; rfl) | apply WC.dreg | apply WD.nil | (apply WOps.ldG; rfl; rfl; (first | exact ld0 rfl | exact ld1 rfl | exact ld2 rfl); rfl) | (apply WOps.st; rfl; rfl; (first | exact tk0 | exact tk1 | exact tk2); rfl; (first | rfl | ((repeat' (first | exact ac0 | apply ac1)) <;> (first | rfl | assumption))); rfl) | (apply WOps.alc; rfl; intro _) | (apply WOps.bx; rfl; rfl; (first | rfl | ((repeat' (first | exact ac0 | apply ac1)) <;> (first | rfl | assumption))); intro _) | (apply WOps.bsl; rfl; (first | rfl | ((repeat' (first | exact ac0 | apply ac1)) <;> (first | rfl | assumption))); intro _) | (apply WD.st; rfl; rfl; rfl; (first | exact tk0 | exact tk1 | exact tk2); rfl; (first | rfl | ((repeat' (first | exact ac0 | apply ac1)) <;> (first | rfl | assumption))); rfl) | (apply WD.alc; rfl; rfl; intro _) | (apply WD.bsl; rfl; rfl; (first | rfl | ((repeat' (first | exact ac0 | apply ac1)) <;> (first | rfl | assumption))); intro _) | (apply WOps.cmp; rfl; rfl; rfl; rfl; intro _ _) | (apply WOps.cmpT; rfl; rfl; rfl; rfl; intro _ _) | (apply WOps.purG; rfl; (intro _; rfl)) | (apply WOps.skp; rfl) | (apply WD.load; rfl; (first | (apply at1; (first | exact rd0 rfl rfl rfl | exact rd1 rfl rfl rfl | exact rd2 rfl rfl rfl); rfl) | (apply at2; (first | exact rd0 rfl rfl rfl | exact rd1 rfl rfl rfl | exact rd2 rfl rfl rfl); repeat' (first | exact same0 | (apply same1; (first | exact rd0 rfl rfl rfl | exact rd1 rfl rfl rfl | exact rd2 rfl rfl rfl); rfl) | (apply same2; (first | exact rd0 rfl rfl rfl | exact rd1 rfl rfl rfl | exact rd2 rfl rfl rfl)))))) | (apply WD.cmp; rfl; rfl; rfl; rfl; intro _ _) | (apply WD.cmpT; rfl; rfl; rfl; rfl; intro _ _) | (apply WD.pur; rfl; (intro _; rfl)) | (apply WD.skp; rfl) | (apply WD.skpL; rfl) | (apply WD.skpX; rfl) | (apply WOps.ask; rfl; all_goals (intro hb; first | subst hb | fail_if_success (cases hb))) | (apply WC.condA; rfl; all_goals (intro hb; try subst hb)) | (apply WD.ask; rfl; all_goals (intro hb; first | subst hb | fail_if_success (cases hb))))
      refine ⟨trivial, [_], ⟨_, [], rfl, rfl, rfl⟩, _, ⟨hw9, G, _, hdiff qs hq, o9, ?_, rfl⟩, ?_⟩
      · refine mem_both (mem_both (mem_both (mem_both ?_ dropPs_sl) dropPs_sl) ht) layPs_sl
        intro p hp
        obtain ⟨e5, e6⟩ := hp2 p hp
        rw [e5, e6]; exact .inl ⟨rfl, rfl⟩
      · obtain ⟨RG, hr⟩ := sr
        refine (SubP.perm (X := hw9 ++ (hw4 ++ ([] ++ (hw3 ++ (G ++ (hw2 ++ ([] ++ (hw1 ++ ([] ++ (H ++ RG)))))))))) ?_ (subF (by intro f; simp only [AV.cells, List.append_eq, List.map_cons, List.map_nil, List.sum_nil, List.map_append, List.sum_cons, List.sum_append, List.cons_append, List.nil_append, List.append_assoc, List.append_nil]; omega)))
        exact .append_left _ (.append_left _ (.append_left _ (.append_left _ (.append_left _ (.append_left _ (.append_left _ (.append_left _ (.append_left _ hr))))))))
    · obtain rfl : ps0 = [] := by
        rcases hp3 with ⟨_, _, h⟩ | ⟨h, _⟩
        · exact h
        · exact absurd ⟨rfl, Classical.byContradiction fun hne => eq_of_ff ‹false = true ↔ cmpS BinOp.neq _ _› hne⟩ h
      rename_i p2 p3 hcmp p6 p7
      have o5 : OwnSl AV.nilsl (cmsC []) ([] : List (Cm × AV)).length 17 [] := .inl ⟨rfl, rfl, rfl, rfl⟩
      have cp5 : ∀ p, p ∈ ([] : List (Cm × AV)) → p.2.isCell = true := fun p hp => by cases hp
      refine WOps.sub (t' := [(2, .ptr ⟨false, p2, 0⟩), (3, .ptr ⟨false, p3, 0⟩), (5, .nilsl), (6, .ptr ⟨false, p6, 0⟩), (7, .ptr ⟨false, p7, 0⟩), (37, .nilsl), (38, .ptr ⟨false, p2, 4⟩)]) (Sub1.cons rfl (Sub1.cons rfl (Sub1.cons rfl (Sub1.cons rfl (Sub1.cons rfl (Sub1.cons rfl (Sub1.cons rfl Sub1.nil))))))) ?_
      have cs : Cs B ((p2, AObj.row (owC own sv cv)) :: (p3, .row (owC ⟨true, node2, addr2, svs2, cks2⟩ s2 c2)) :: (p6, .row [.fn (.func 27) [] [], .fn (.func 28) [] [], .fn (.func 30) [] [.ptr ⟨false, c5, 0⟩], .fn (.func 31) [] [.ptr ⟨false, c5, 0⟩]]) :: (p7, .row [.fn (.func 33) [] [], .fn (.func 34) [] [], .fn (.func 35) [] [.ptr ⟨false, c6, 0⟩], .fn (.func 36) [] [.ptr ⟨false, c6, 0⟩]]) :: (c5, .row [.int .i64 own.node]) :: (c6, .row [.int .i64 own.node]) :: H) p2 p3 p6 p7 c5 c6 own sv cv s2 c2 true node2 addr2 := ⟨ld0 rfl, ld1 rfl, ld2 rfl, (ld2 rfl).cons, (ld2 rfl).cons.cons, (ld2 rfl).cons.cons.cons⟩
      refine WOps.lessP (H1 := [] ++ ((p2, AObj.row (owC own sv cv)) :: (p3, .row (owC ⟨true, node2, addr2, svs2, cks2⟩ s2 c2)) :: (p6, .row [.fn (.func 27) [] [], .fn (.func 28) [] [], .fn (.func 30) [] [.ptr ⟨false, c5, 0⟩], .fn (.func 31) [] [.ptr ⟨false, c5, 0⟩]]) :: (p7, .row [.fn (.func 33) [] [], .fn (.func 34) [] [], .fn (.func 35) [] [.ptr ⟨false, c6, 0⟩], .fn (.func 36) [] [.ptr ⟨false, c6, 0⟩]]) :: (c5, .row [.int .i64 own.node]) :: (c6, .row [.int .i64 own.node]) :: H)) (subF (by intro f; simp only [AV.cells, List.append_eq, List.map_cons, List.map_nil, List.sum_nil, List.map_append, List.sum_cons, List.sum_append, List.cons_append, List.nil_append, List.append_assoc, List.append_nil]; omega)) ?_
      have sr : SubP H ((p2, AObj.row (owC own sv cv)) :: (p3, .row (owC ⟨true, node2, addr2, svs2, cks2⟩ s2 c2)) :: (p6, .row [.fn (.func 27) [] [], .fn (.func 28) [] [], .fn (.func 30) [] [.ptr ⟨false, c5, 0⟩], .fn (.func 31) [] [.ptr ⟨false, c5, 0⟩]]) :: (p7, .row [.fn (.func 33) [] [], .fn (.func 34) [] [], .fn (.func 35) [] [.ptr ⟨false, c6, 0⟩], .fn (.func 36) [] [.ptr ⟨false, c6, 0⟩]]) :: (c5, .row [.int .i64 own.node]) :: (c6, .row [.int .i64 own.node]) :: H) := subF (by intro f; simp only [AV.cells, List.append_eq, List.map_cons, List.map_nil, List.sum_nil, List.map_append, List.sum_cons, List.sum_append, List.cons_append, List.nil_append, List.append_assoc, List.append_nil]; omega)
      generalize ((p2, AObj.row (owC own sv cv)) :: (p3, .row (owC ⟨true, node2, addr2, svs2, cks2⟩ s2 c2)) :: (p6, .row [.fn (.func 27) [] [], .fn (.func 28) [] [], .fn (.func 30) [] [.ptr ⟨false, c5, 0⟩], .fn (.func 31) [] [.ptr ⟨false, c5, 0⟩]]) :: (p7, .row [.fn (.func 33) [] [], .fn (.func 34) [] [], .fn (.func 35) [] [.ptr ⟨false, c6, 0⟩], .fn (.func 36) [] [.ptr ⟨false, c6, 0⟩]]) :: (c5, .row [.int .i64 own.node]) :: (c6, .row [.int .i64 own.node]) :: H) = R at cs sr ⊢
      repeat' (first
        | apply WOps.nil | apply WC.seq | apply WC.reg | apply WC.skip | apply WC.ret | (apply WC.condT; rfl) | (apply WC.condF; rfl) | apply WC.dreg | apply WD.nil | (apply WOps.ldG; rfl; rfl; (first | exact ld0 rfl | exact ld1 rfl | exact ld2 rfl); rfl) | (apply WOps.st; rfl; rfl; (first | exact tk0 | exact tk1 | exact tk2); rfl; (first | rfl | ((repeat' (first | exact ac0 | apply ac1)) <;> (first | rfl | assumption))); rfl) | (apply WOps.alc; rfl; intro _) | (apply WOps.bx; rfl; rfl; (first | rfl | ((repeat' (first | exact ac0 | apply ac1)) <;> (first | rfl | assumption))); intro _) | (apply WOps.bsl; rfl; (first | rfl | ((repeat' (first | exact ac0 | apply ac1)) <;> (first | rfl | assumption))); intro _) | (apply WD.st; rfl; rfl; rfl; (first | exact tk0 | exact tk1 | exact tk2); rfl; (first | rfl | ((repeat' (first | exact ac0 | apply ac1)) <;> (first | rfl | assumption))); rfl) | (apply WD.alc; rfl; rfl; intro _) | (apply WD.bsl; rfl; rfl; (first | rfl | ((repeat' (first | exact ac0 | apply ac1)) <;> (first | rfl | assumption))); intro _) | (apply WOps.ldG; rfl; rfl; exact Ld.right (Ld.part cs.a2 4 1 (by omega)); rfl) | (apply WOps.ldG; rfl; rfl; exact Ld.right (Ld.part cs.a3 4 1 (by omega)); rfl) | (apply WOps.ldG; rfl; rfl; exact Ld.right (Ld.part cs.a2 3 1 (by omega)); rfl) | (apply WOps.ldG; rfl; rfl; exact Ld.right (Ld.part cs.a3 3 1 (by omega)); rfl) | (apply WOps.ldG; rfl; rfl; exact Ld.right cs.a7; rfl) | (apply WOps.ldG; rfl; rfl; exact Ld.right cs.a6; rfl) | (apply WOps.clA; rfl; rfl; exact drops17_ok ho.c.any qc2.any (by have := ho.lc; omega) (by omega) ho.oc rfl rfl rfl rfl (Ld.right cs.n6); rintro _ _ ⟨hw1, o1, rfl⟩) | (apply WOps.cmp; rfl; rfl; rfl; rfl; intro _ _) | (apply WOps.cmpT; rfl; rfl; rfl; rfl; intro _ _) | (apply WOps.purG; rfl; (intro _; rfl)) | (apply WOps.skp; rfl) | (apply WD.load; rfl; (first | (apply at1; (first | exact rd0 rfl rfl rfl | exact rd1 rfl rfl rfl | exact rd2 rfl rfl rfl); rfl) | (apply at2; (first | exact rd0 rfl rfl rfl | exact rd1 rfl rfl rfl | exact rd2 rfl rfl rfl); repeat' (first | exact same0 | (apply same1; (first | exact rd0 rfl rfl rfl | exact rd1 rfl rfl rfl | exact rd2 rfl rfl rfl); rfl) | (apply same2; (first | exact rd0 rfl rfl rfl | exact rd1 rfl rfl rfl | exact rd2 rfl rfl rfl)))))) | (apply WD.cmp; rfl; rfl; rfl; rfl; intro _ _) | (apply WD.cmpT; rfl; rfl; rfl; rfl; intro _ _) | (apply WD.pur; rfl; (intro _; rfl)) | (apply WD.skp; rfl) | (apply WD.skpL; rfl) | (apply WD.skpX; rfl) | (apply WOps.ask; rfl; all_goals (intro hb; first | subst hb | fail_if_success (cases hb))) | (apply WC.condA; rfl; all_goals (intro hb; try subst hb)) | (apply WD.ask; rfl; all_goals (intro hb; first | subst hb | fail_if_success (cases hb))))
      refine app_cms (G := []) rfl rfl o5 (List.Perm.refl _) cp5 o1 dropPs_cell (by omega) (by have := dropPs_len (kind := Int.ofNat 6) (node := own.node) (own := own.cks.map (·.id)) (cat := C2.map (·.id)); rw [List.length_map] at this; omega) ?_
      intro w6 hw6 o6
      repeat' (first
        | apply WOps.nil | apply WC.seq | apply WC.reg | apply WC.skip | apply WC.ret | (apply WC.condT; rfl) | (apply WC.condF; rfl) | apply WC.dreg | apply WD.nil | (apply WOps.ldG; rfl; rfl; (first | exact ld0 rfl | exact ld1 rfl | exact ld2 rfl); rfl) | (apply WOps.st; rfl; rfl; (first | exact tk0 | exact tk1 | exact tk2); rfl; (first | rfl | ((repeat' (first | exact ac0 | apply ac1)) <;> (first | rfl | assumption))); rfl) | (apply WOps.alc; rfl; intro _) | (apply WOps.bx; rfl; rfl; (first | rfl | ((repeat' (first | exact ac0 | apply ac1)) <;> (first | rfl | assumption))); intro _) | (apply WOps.bsl; rfl; (first | rfl | ((repeat' (first | exact ac0 | apply ac1)) <;> (first | rfl | assumption))); intro _) | (apply WD.st; rfl; rfl; rfl; (first | exact tk0 | exact tk1 | exact tk2); rfl; (first | rfl | ((repeat' (first | exact ac0 | apply ac1)) <;> (first | rfl | assumption))); rfl) | (apply WD.alc; rfl; rfl; intro _) | (apply WD.bsl; rfl; rfl; (first | rfl | ((repeat' (first | exact ac0 | apply ac1)) <;> (first | rfl | assumption))); intro _) | (apply WOps.ldG; rfl; rfl; exact Ld.right (Ld.part cs.up.up.a2 4 1 (by omega)); rfl) | (apply WOps.ldG; rfl; rfl; exact Ld.right (Ld.part cs.up.up.a3 4 1 (by omega)); rfl) | (apply WOps.ldG; rfl; rfl; exact Ld.right (Ld.part cs.up.up.a2 3 1 (by omega)); rfl) | (apply WOps.ldG; rfl; rfl; exact Ld.right (Ld.part cs.up.up.a3 3 1 (by omega)); rfl) | (apply WOps.ldG; rfl; rfl; exact Ld.right cs.up.up.a7; rfl) | (apply WOps.ldG; rfl; rfl; exact Ld.right cs.up.up.a6; rfl) | (apply WOps.clA; rfl; rfl; exact drops18_ok ho.s.any qs2.any (by have := ho.ls; omega) (by omega) ho.os (fun p hp => (ho.tg p hp).1.cell) (fun p hp => (tg2 p hp).1.cell) rfl rfl rfl rfl (Ld.right cs.up.up.n5); rintro _ _ ⟨hw2, o2, rfl⟩) | (apply WOps.cmp; rfl; rfl; rfl; rfl; intro _ _) | (apply WOps.cmpT; rfl; rfl; rfl; rfl; intro _ _) | (apply WOps.purG; rfl; (intro _; rfl)) | (apply WOps.skp; rfl) | (apply WD.load; rfl; (first | (apply at1; (first | exact rd0 rfl rfl rfl | exact rd1 rfl rfl rfl | exact rd2 rfl rfl rfl); rfl) | (apply at2; (first | exact rd0 rfl rfl rfl | exact rd1 rfl rfl rfl | exact rd2 rfl rfl rfl); repeat' (first | exact same0 | (apply same1; (first | exact rd0 rfl rfl rfl | exact rd1 rfl rfl rfl | exact rd2 rfl rfl rfl); rfl) | (apply same2; (first | exact rd0 rfl rfl rfl | exact rd1 rfl rfl rfl | exact rd2 rfl rfl rfl)))))) | (apply WD.cmp; rfl; rfl; rfl; rfl; intro _ _) | (apply WD.cmpT; rfl; rfl; rfl; rfl; intro _ _) | (apply WD.pur; rfl; (intro _; rfl)) | (apply WD.skp; rfl) | (apply WD.skpL; rfl) | (apply WD.skpX; rfl) | (apply WOps.ask; rfl; all_goals (intro hb; first | subst hb | fail_if_success (cases hb))) | (apply WC.condA; rfl; all_goals (intro hb; try subst hb)) | (apply WD.ask; rfl; all_goals (intro hb; first | subst hb | fail_if_success (cases hb))))
      have cp6 := mem_both cp5 (dropPs_cell (kind := Int.ofNat 6) (node := own.node) (ids := dropIds (own.cks.map (·.id)) (C2.map (·.id))))
      have l4 := dropPs_len (kind := Int.ofNat 4) (node := own.node) (own := own.svs.map (·.1.id)) (cat := S2.map (·.1.id))
      have l6 := dropPs_len (kind := Int.ofNat 6) (node := own.node) (own := own.cks.map (·.id)) (cat := C2.map (·.id))
      rw [List.length_map] at l4 l6
      refine app_cms (G := []) rfl rfl o6 (List.Perm.refl _) cp6 o2 dropPs_cell (by rw [List.length_append]; omega) (by omega) ?_
      intro w7 hw7 o7
      repeat' (first
        | apply WOps.nil | apply WC.seq | apply WC.reg | apply WC.skip | apply WC.ret | (apply WC.condT; rfl) | (apply WC.condF; rfl) | apply WC.dreg | apply WD.nil | (apply WOps.ldG; rfl; rfl; (first | exact ld0 rfl | exact ld1 rfl | exact ld2 rfl); rfl) | (apply WOps.st; rfl; rfl; (first | exact tk0 | exact tk1 | exact tk2); rfl; (first | rfl | ((repeat' (first | exact ac0 | apply ac1)) <;> (first | rfl | assumption))); rfl) | (apply WOps.alc; rfl; intro _) | (apply WOps.bx; rfl; rfl; (first | rfl | ((repeat' (first | exact ac0 | apply ac1)) <;> (first | rfl | assumption))); intro _) | (apply WOps.bsl; rfl; (first | rfl | ((repeat' (first | exact ac0 | apply ac1)) <;> (first | rfl | assumption))); intro _) | (apply WD.st; rfl; rfl; rfl; (first | exact tk0 | exact tk1 | exact tk2); rfl; (first | rfl | ((repeat' (first | exact ac0 | apply ac1)) <;> (first | rfl | assumption))); rfl) | (apply WD.alc; rfl; rfl; intro _) | (apply WD.bsl; rfl; rfl; (first | rfl | ((repeat' (first | exact ac0 | apply ac1)) <;> (first | rfl | assumption))); intro _) | (apply WOps.ldG; rfl; rfl; exact Ld.right (Ld.part cs.up.up.up.up.a2 4 1 (by omega)); rfl) | (apply WOps.ldG; rfl; rfl; exact Ld.right (Ld.part cs.up.up.up.up.a3 4 1 (by omega)); rfl) | (apply WOps.ldG; rfl; rfl; exact Ld.right (Ld.part cs.up.up.up.up.a2 3 1 (by omega)); rfl) | (apply WOps.ldG; rfl; rfl; exact Ld.right (Ld.part cs.up.up.up.up.a3 3 1 (by omega)); rfl) | (apply WOps.ldG; rfl; rfl; exact Ld.right cs.up.up.up.up.a7; rfl) | (apply WOps.ldG; rfl; rfl; exact Ld.right cs.up.up.up.up.a6; rfl) | (apply WOps.clA; rfl; rfl; exact lays19_ok ho.s.any qs2.any (by have := ho.ls; omega) (by omega) os2 ho.tg tg2 rfl rfl (Ld.right cs.up.up.up.up.n5); rintro _ _ ⟨hw3, G, qs, hq, o3, ht, rfl⟩) | (apply WOps.cmp; rfl; rfl; rfl; rfl; intro _ _) | (apply WOps.cmpT; rfl; rfl; rfl; rfl; intro _ _) | (apply WOps.purG; rfl; (intro _; rfl)) | (apply WOps.skp; rfl) | (apply WD.load; rfl; (first | (apply at1; (first | exact rd0 rfl rfl rfl | exact rd1 rfl rfl rfl | exact rd2 rfl rfl rfl); rfl) | (apply at2; (first | exact rd0 rfl rfl rfl | exact rd1 rfl rfl rfl | exact rd2 rfl rfl rfl); repeat' (first | exact same0 | (apply same1; (first | exact rd0 rfl rfl rfl | exact rd1 rfl rfl rfl | exact rd2 rfl rfl rfl); rfl) | (apply same2; (first | exact rd0 rfl rfl rfl | exact rd1 rfl rfl rfl | exact rd2 rfl rfl rfl)))))) | (apply WD.cmp; rfl; rfl; rfl; rfl; intro _ _) | (apply WD.cmpT; rfl; rfl; rfl; rfl; intro _ _) | (apply WD.pur; rfl; (intro _; rfl)) | (apply WD.skp; rfl) | (apply WD.skpL; rfl) | (apply WD.skpX; rfl) | (apply WOps.ask; rfl; all_goals (intro hb; first | subst hb | fail_if_success (cases hb))) | (apply WC.condA; rfl; all_goals (intro hb; try subst hb)) | (apply WD.ask; rfl; all_goals (intro hb; first | subst hb | fail_if_success (cases hb))))
      have l3 := congrArg List.length hq
      rw [List.length_map] at l3
      have l3' := layL_len (node := own.node) (cat := S2) (own := own.svs)
      have l5 := ho.ls
      have l5' := ho.lc
      have cp7 := mem_both cp6 (dropPs_cell (kind := Int.ofNat 4) (node := own.node) (ids := dropIds (own.svs.map (·.1.id)) (S2.map (·.1.id))))
      have cq : ∀ p, p ∈ qs → p.2.isCell = true := fun p hp => (ht p hp).cell
      refine app_cms (G := G) rfl rfl o7 (List.Perm.refl _) cp7 o3 cq (by rw [List.length_append, List.length_append]; omega) (by omega) ?_
      intro w8 hw8 o8
      repeat' (first
        | apply WOps.nil | apply WC.seq | apply WC.reg | apply WC.skip | apply WC.ret | (apply WC.condT; rfl) | (apply WC.condF; rfl) | apply WC.dreg | apply WD.nil | (apply WOps.ldG; rfl; rfl; (first | exact ld0 rfl | exact ld1 rfl | exact ld2 rfl); rfl) | (apply WOps.st; rfl; rfl; (first | exact tk0 | exact tk1 | exact tk2); rfl; (first | rfl | ((repeat' (first | exact ac0 | apply ac1)) <;> (first | rfl | assumption))); rfl) | (apply WOps.alc; rfl; intro _) | (apply WOps.bx; rfl; rfl; (first | rfl | ((repeat' (first | exact ac0 | apply ac1)) <;> (first | rfl | assumption))); intro _) | (apply WOps.bsl; rfl; (first | rfl | ((repeat' (first | exact ac0 | apply ac1)) <;> (first | rfl | assumption))); intro _) | (apply WD.st; rfl; rfl; rfl; (first | exact tk0 | exact tk1 | exact tk2); rfl; (first | rfl | ((repeat' (first | exact ac0 | apply ac1)) <;> (first | rfl | assumption))); rfl) | (apply WD.alc; rfl; rfl; intro _) | (apply WD.bsl; rfl; rfl; (first | rfl | ((repeat' (first | exact ac0 | apply ac1)) <;> (first | rfl | assumption))); intro _) | (apply WOps.ldG; rfl; rfl; exact Ld.right (Ld.part cs.up.up.up.up.up.up.a2 4 1 (by omega)); rfl) | (apply WOps.ldG; rfl; rfl; exact Ld.right (Ld.part cs.up.up.up.up.up.up.a3 4 1 (by omega)); rfl) | (apply WOps.ldG; rfl; rfl; exact Ld.right (Ld.part cs.up.up.up.up.up.up.a2 3 1 (by omega)); rfl) | (apply WOps.ldG; rfl; rfl; exact Ld.right (Ld.part cs.up.up.up.up.up.up.a3 3 1 (by omega)); rfl) | (apply WOps.ldG; rfl; rfl; exact Ld.right cs.up.up.up.up.up.up.a7; rfl) | (apply WOps.ldG; rfl; rfl; exact Ld.right cs.up.up.up.up.up.up.a6; rfl) | (apply WOps.clA; rfl; rfl; exact lays20_ok ho.c.any qc2.any (by have := ho.lc; omega) (by omega) oc2 rfl rfl (Ld.right cs.up.up.up.up.up.up.n6); rintro _ _ ⟨hw4, o4, rfl⟩) | (apply WOps.cmp; rfl; rfl; rfl; rfl; intro _ _) | (apply WOps.cmpT; rfl; rfl; rfl; rfl; intro _ _) | (apply WOps.purG; rfl; (intro _; rfl)) | (apply WOps.skp; rfl) | (apply WD.load; rfl; (first | (apply at1; (first | exact rd0 rfl rfl rfl | exact rd1 rfl rfl rfl | exact rd2 rfl rfl rfl); rfl) | (apply at2; (first | exact rd0 rfl rfl rfl | exact rd1 rfl rfl rfl | exact rd2 rfl rfl rfl); repeat' (first | exact same0 | (apply same1; (first | exact rd0 rfl rfl rfl | exact rd1 rfl rfl rfl | exact rd2 rfl rfl rfl); rfl) | (apply same2; (first | exact rd0 rfl rfl rfl | exact rd1 rfl rfl rfl | exact rd2 rfl rfl rfl)))))) | (apply WD.cmp; rfl; rfl; rfl; rfl; intro _ _) | (apply WD.cmpT; rfl; rfl; rfl; rfl; intro _ _) | (apply WD.pur; rfl; (intro _; rfl)) | (apply WD.skp; rfl) | (apply WD.skpL; rfl) | (apply WD.skpX; rfl) | (apply WOps.ask; rfl; all_goals (intro hb; first | subst hb | fail_if_success (cases hb))) | (apply WC.condA; rfl; all_goals (intro hb; try subst hb)) | (apply WD.ask; rfl; all_goals (intro hb; first | subst hb | fail_if_success (cases hb))))
      have l9 := lay_len (node := own.node) (cat := C2) (own := own.cks)
      refine app_cms (G := []) rfl rfl o8 (List.Perm.refl _) (mem_both cp7 cq) o4 layPs_cell (by simp only [List.length_append]; omega) (by omega) ?_
      intro w9 hw9 o9
      repeat' (first
        | apply WOps.nil | apply WC.seq | apply WC.reg | apply WC.skip | apply WC.ret | (apply WC.condT; rfl) | (apply WC.condF; rfl) | apply WC.dreg | apply WD.nil | (apply WOps.ldG; rfl; rfl; (first | exact ld0 rfl | exact ld1 rfl | exact ld2 rfl); rfl) | (apply WOps.st; rfl; rfl; (first | exact tk0 | exact tk1 | exact tk2); rfl; (first | rfl | ((repeat' (first | exact ac0 | apply ac1)) <;> (first | rfl | assumption))); rfl) | (apply WOps.alc; rfl; intro _) | (apply WOps.bx; rfl; rfl; (first | rfl | ((repeat' (first | exact ac0 | apply ac1)) <;> (first | rfl | assumption))); intro _) | (apply WOps.bsl; rfl; (first | rfl | ((repeat' (first | exact ac0 | apply ac1)) <;> (first | rfl | assumption))); intro _) | (apply WD.st; rfl; rfl; rfl; (first | exact tk0 | exact tk1 | exact tk2); rfl; (first | rfl | ((repeat' (first | exact ac0 | apply ac1)) <;> (first | rfl | assumption))); rfl) | (apply WD.alc; rfl; rfl; intro _) | (apply WD.bsl; rfl; rfl; (first | rfl | ((repeat' (first | exact ac0 | apply ac1)) <;> (first | rfl | assumption))); intro _) | (apply WOps.cmp; rfl; rfl; rfl; rfl; intro _ _) | (apply WOps.cmpT; rfl; rfl; rfl; rfl; intro _ _) | (apply WOps.purG; rfl; (intro _; rfl)) | (apply WOps.skp; rfl) | (apply WD.load; rfl; (first | (apply at1; (first | exact rd0 rfl rfl rfl | exact rd1 rfl rfl rfl | exact rd2 rfl rfl rfl); rfl) | (apply at2; (first | exact rd0 rfl rfl rfl | exact rd1 rfl rfl rfl | exact rd2 rfl rfl rfl); repeat' (first | exact same0 | (apply same1; (first | exact rd0 rfl rfl rfl | exact rd1 rfl rfl rfl | exact rd2 rfl rfl rfl); rfl) | (apply same2; (first | exact rd0 rfl rfl rfl | exact rd1 rfl rfl rfl | exact rd2 rfl rfl rfl)))))) | (apply WD.cmp; rfl; rfl; rfl; rfl; intro _ _) | (apply WD.cmpT; rfl; rfl; rfl; rfl; intro _ _) | (apply WD.pur; rfl; (intro _; rfl)) | (apply WD.skp; rfl) | (apply WD.skpL; rfl) | (apply WD.skpX; rfl) | (apply WOps.ask; rfl; all_goals (intro hb; first | subst hb | fail_if_success (cases hb))) | (apply WC.condA; rfl; all_goals (intro hb; try subst hb)) | (apply WD.ask; rfl; all_goals (intro hb; first | subst hb | fail_if_success (cases hb))))
      refine ⟨trivial, [_], ⟨_, [], rfl, rfl, rfl⟩, _, ⟨hw9, G, _, hdiff qs hq, o9, ?_, rfl⟩, ?_⟩
      · refine mem_both (mem_both (mem_both (mem_both ?_ dropPs_sl) dropPs_sl) ht) layPs_sl
        intro p hp
        obtain ⟨e5, e6⟩ := hp2 p hp
        rw [e5, e6]; exact .inl ⟨rfl, rfl⟩
      · obtain ⟨RG, hr⟩ := sr
        refine (SubP.perm (X := hw9 ++ (hw4 ++ ([] ++ (hw3 ++ (G ++ (hw2 ++ ([] ++ (hw1 ++ ([] ++ (H ++ RG)))))))))) ?_ (subF (by intro f; simp only [AV.cells, List.append_eq, List.map_cons, List.map_nil, List.sum_nil, List.map_append, List.sum_cons, List.sum_append, List.cons_append, List.nil_append, List.append_assoc, List.append_nil]; omega)))
        exact .append_left _ (.append_left _ (.append_left _ (.append_left _ (.append_left _ (.append_left _ (.append_left _ (.append_left _ (.append_left _ hr))))))))
theorem check11_ok {H : HL} {v : AV} {l : List Ck} {id : List Nat} (hv : SlIs B H v 7 (l.map fun p => ckC p)) (ll : l.length ≤ 1000) :
    WF B tab (.func 14) [v, .str id] H fun r H' => H' = H ∧ ((∃ (i : Nat) (h : i < l.length), r = .int .i64 (.ofNat i) ∧ l[i].id = id) ∨ (r = .int .i64 (.negSucc 0) ∧ ∀ x, x ∈ l → x.id ≠ id)) := by
  refine WF.fnR g14 rfl ?_
  repeat' (first
    | apply WOps.nil | apply WC.seq | apply WC.reg | apply WC.skip | apply WC.ret | apply WC.exit | (apply WC.condT; rfl) | (apply WC.condF; rfl) | apply WC.block | (apply WOps.ldG; rfl; rfl; (first | exact ld0 rfl | exact ld1 rfl | exact ld2 rfl); rfl) | (apply WOps.cmp; rfl; rfl; rfl; rfl; intro _ _) | (apply WOps.cmpT; rfl; rfl; rfl; rfl; intro _ _) | (apply WOps.purG; rfl; (intro _; rfl)) | (apply WC.condA; rfl; all_goals (intro hb; try subst hb)))
  refine WC.loop ?_
  obtain ⟨i, hi⟩ : ∃ i : Nat, i = 0 := ⟨0, rfl⟩
  refine WL.le (t' := [(0, v), (1, .str id), (5, .int .i64 (.ofNat i))]) (by subst hi; exact Sub1.cons rfl (Sub1.cons rfl (Sub1.cons rfl Sub1.nil))) ?_
  have hle : i ≤ l.length := by omega
  have hpre : ∀ (j : Nat) (h : j < l.length), j < i → l[j].id ≠ id := by intro j _ hj; omega
  clear hi
  induction hk : l.length - i using Nat.strongRecOn generalizing i with | _ k ih => ?_
  apply WL.step
  repeat' (first
    | apply WOps.nil | apply WC.seq | apply WC.reg | apply WC.skip | apply WC.ret | apply WC.exit | (apply WC.condT; rfl) | (apply WC.condF; rfl) | apply WC.block | (apply WOps.ldG; rfl; rfl; (first | exact ld0 rfl | exact ld1 rfl | exact ld2 rfl); rfl) | (apply WOps.lenS; rfl; rfl; exact hv) | (apply WOps.cmp; rfl; rfl; rfl; rfl; intro _ _) | (apply WOps.cmpT; rfl; rfl; rfl; rfl; intro _ _) | (apply WOps.purG; rfl; (intro _; rfl)) | (apply WC.condA; rfl; all_goals (intro hb; try subst hb)))
  all_goals rw [List.length_map] at *
  · have hlt : i < l.length := by
      have h0 := ‹true = true ↔ cmpP BinOp.lss (Int.ofNat i) (Int.ofNat l.length)›.1 rfl
      simp [cmpP] at h0; omega
    have hcm : (l.map fun p => ckC p)[i]? = some (ckC l[i]) := by rw [List.getElem?_map, List.getElem?_eq_getElem hlt]; rfl
    skip
    repeat' (first
      | apply WOps.nil | apply WC.seq | apply WC.reg | apply WC.skip | apply WC.ret | apply WC.exit | (apply WC.condT; rfl) | (apply WC.condF; rfl) | apply WC.block | (apply WOps.ldG; rfl; rfl; (first | exact ld0 rfl | exact ld1 rfl | exact ld2 rfl); rfl) | (apply WOps.ixSl; rfl; rfl; rfl; exact hv; exact hcm; intro ax hax) | (apply WOps.ldG; rfl; rfl; exact Ld.part hax 1 1 (by omega); rfl) | (apply WOps.addN; rfl; rfl; rfl; omega) | (apply WOps.cmp; rfl; rfl; rfl; rfl; intro _ _) | (apply WOps.cmpT; rfl; rfl; rfl; rfl; intro _ _) | (apply WOps.purG; rfl; (intro _; rfl)) | (apply WC.condA; rfl; all_goals (intro hb; try subst hb)))
    · have he := ‹true = true ↔ cmpS BinOp.eql _ _›.1 rfl
      exact ⟨trivial, List.Sublist.refl _, [_], ⟨_, [], rfl, rfl, rfl⟩, .inl ⟨i, hlt, rfl, he⟩⟩
    · have he := eq_of_ff ‹false = true ↔ cmpS BinOp.eql _ _›
      refine WL.le (t' := [(0, v), (1, .str id), (5, .int .i64 (.ofNat (i + 1)))]) (Sub1.cons rfl (Sub1.cons rfl (Sub1.cons rfl Sub1.nil))) (ih _ (by omega) (i + 1) (by omega) ?_ rfl)
      intro j h hj
      rcases Nat.lt_or_ge j i with h1 | h1
      · exact hpre j h h1
      · obtain rfl : j = i := by omega
        exact he
  · have hge : l.length ≤ i := by
      have h0 := eq_of_ff ‹false = true ↔ cmpP BinOp.lss (Int.ofNat i) (Int.ofNat l.length)›
      simp [cmpP] at h0; omega
    refine ⟨trivial, List.Sublist.refl _, [_], ⟨_, [], rfl, rfl, rfl⟩, .inr ⟨rfl, ?_⟩⟩
    intro x hx
    obtain ⟨j, h, rfl⟩ := List.getElem_of_mem hx
    exact hpre j h (by omega)
theorem service12_ok {H : HL} {v : AV} {l : List (Sv × AV)} {id : List Nat} (hv : SlIs B H v 7 (l.map fun p => svC p.1 p.2)) (ll : l.length ≤ 1000) (tv : ∀ p, p ∈ l → p.2.isCell = true) :
    WF B tab (.func 15) [v, .str id] H fun r H' => H' = H ∧ ((∃ (i : Nat) (h : i < l.length), r = .int .i64 (.ofNat i) ∧ l[i].1.id = id) ∨ (r = .int .i64 (.negSucc 0) ∧ ∀ x, x ∈ l → x.1.id ≠ id)) := by
  refine WF.fnR g15 rfl ?_
  repeat' (first
    | apply WOps.nil | apply WC.seq | apply WC.reg | apply WC.skip | apply WC.ret | apply WC.exit | (apply WC.condT; rfl) | (apply WC.condF; rfl) | apply WC.block | (apply WOps.ldG; rfl; rfl; (first | exact ld0 rfl | exact ld1 rfl | exact ld2 rfl); rfl) | (apply WOps.cmp; rfl; rfl; rfl; rfl; intro _ _) | (apply WOps.cmpT; rfl; rfl; rfl; rfl; intro _ _) | (apply WOps.purG; rfl; (intro _; rfl)) | (apply WC.condA; rfl; all_goals (intro hb; try subst hb)))
  refine WC.loop ?_
  obtain ⟨i, hi⟩ : ∃ i : Nat, i = 0 := ⟨0, rfl⟩
  refine WL.le (t' := [(0, v), (1, .str id), (5, .int .i64 (.ofNat i))]) (by subst hi; exact Sub1.cons rfl (Sub1.cons rfl (Sub1.cons rfl Sub1.nil))) ?_
  have hle : i ≤ l.length := by omega
  have hpre : ∀ (j : Nat) (h : j < l.length), j < i → l[j].1.id ≠ id := by intro j _ hj; omega
  clear hi
  induction hk : l.length - i using Nat.strongRecOn generalizing i with | _ k ih => ?_
  apply WL.step
  repeat' (first
    | apply WOps.nil | apply WC.seq | apply WC.reg | apply WC.skip | apply WC.ret | apply WC.exit | (apply WC.condT; rfl) | (apply WC.condF; rfl) | apply WC.block | (apply WOps.ldG; rfl; rfl; (first | exact ld0 rfl | exact ld1 rfl | exact ld2 rfl); rfl) | (apply WOps.lenS; rfl; rfl; exact hv) | (apply WOps.cmp; rfl; rfl; rfl; rfl; intro _ _) | (apply WOps.cmpT; rfl; rfl; rfl; rfl; intro _ _) | (apply WOps.purG; rfl; (intro _; rfl)) | (apply WC.condA; rfl; all_goals (intro hb; try subst hb)))
  all_goals rw [List.length_map] at *
  · have hlt : i < l.length := by
      have h0 := ‹true = true ↔ cmpP BinOp.lss (Int.ofNat i) (Int.ofNat l.length)›.1 rfl
      simp [cmpP] at h0; omega
    have hcm : (l.map fun p => svC p.1 p.2)[i]? = some (svC l[i].1 l[i].2) := by rw [List.getElem?_map, List.getElem?_eq_getElem hlt]; rfl
    have hcell := tv _ (List.getElem_mem hlt)
    repeat' (first
      | apply WOps.nil | apply WC.seq | apply WC.reg | apply WC.skip | apply WC.ret | apply WC.exit | (apply WC.condT; rfl) | (apply WC.condF; rfl) | apply WC.block | (apply WOps.ldG; rfl; rfl; (first | exact ld0 rfl | exact ld1 rfl | exact ld2 rfl); rfl) | (apply WOps.ixSl; rfl; rfl; rfl; exact hv; exact hcm; intro ax hax) | (apply WOps.ldG; rfl; rfl; exact Ld.part hax 1 1 (by omega); rfl) | (apply WOps.addN; rfl; rfl; rfl; omega) | (apply WOps.cmp; rfl; rfl; rfl; rfl; intro _ _) | (apply WOps.cmpT; rfl; rfl; rfl; rfl; intro _ _) | (apply WOps.purG; rfl; (intro _; rfl)) | (apply WC.condA; rfl; all_goals (intro hb; try subst hb)))
    · have he := ‹true = true ↔ cmpS BinOp.eql _ _›.1 rfl
      exact ⟨trivial, List.Sublist.refl _, [_], ⟨_, [], rfl, rfl, rfl⟩, .inl ⟨i, hlt, rfl, he⟩⟩
    · have he := eq_of_ff ‹false = true ↔ cmpS BinOp.eql _ _›
      refine WL.le (t' := [(0, v), (1, .str id), (5, .int .i64 (.ofNat (i + 1)))]) (Sub1.cons rfl (Sub1.cons rfl (Sub1.cons rfl Sub1.nil))) (ih _ (by omega) (i + 1) (by omega) ?_ rfl)
      intro j h hj
      rcases Nat.lt_or_ge j i with h1 | h1
      · exact hpre j h h1
      · obtain rfl : j = i := by omega
        exact he
  · have hge : l.length ≤ i := by
      have h0 := eq_of_ff ‹false = true ↔ cmpP BinOp.lss (Int.ofNat i) (Int.ofNat l.length)›
      simp [cmpP] at h0; omega
    refine ⟨trivial, List.Sublist.refl _, [_], ⟨_, [], rfl, rfl, rfl⟩, .inr ⟨rfl, ?_⟩⟩
    intro x hx
    obtain ⟨j, h, rfl⟩ := List.getElem_of_mem hx
    exact hpre j h (by omega)

theorem dif_zero {own cat : Ow} : (diffL own cat).length = 0 ↔ diffL own cat = [] := List.length_eq_zero_iff
theorem same10_ok {H : HL} {own cat : Ow} {sv cv sv2 cv2 : AV} (ho : OwIs B own sv cv) (hc : OwIs B cat sv2 cv2) :
    WF B tab (.func 11) [.agg (owC own sv cv), .agg (owC cat sv2 cv2)] H fun r H' => (∃ b : Bool, r = .bool b ∧ (b = true ↔ diffL own cat = [])) ∧ H' = H := by
  refine WF.lessP ?_
  refine WF.fn g11 rfl ?_
  have e1 := ho.s.cell
  have e2 := ho.c.cell
  have e3 := hc.s.cell
  have e4 := hc.c.cell
  repeat' (first
    | apply WOps.nil | apply WC.seq | apply WC.reg | apply WC.skip | apply WC.ret | (apply WOps.ldG; rfl; rfl; (first | exact ld0 rfl | exact ld1 rfl | exact ld2 rfl); rfl) | (apply WOps.bx; rfl; rfl; (first | rfl | ((repeat' (first | exact ac0 | apply ac1)) <;> (first | rfl | assumption))); intro _) | (apply WOps.clA; rfl; rfl; exact diff9_ok ho hc; rintro _ _ ⟨hw, G, ps, hp, o, ht, rfl⟩) | (apply WOps.lenO; rfl; rfl; exact o) | (apply WOps.cmp; rfl; rfl; rfl; rfl; intro _ _) | (apply WOps.cmpT; rfl; rfl; rfl; rfl; intro _ _) | (apply WOps.purG; rfl; (intro _; rfl)))
  all_goals refine ⟨trivial, [_], ⟨_, [], rfl, rfl, rfl⟩, _, ⟨⟨_, rfl, ?_⟩, rfl⟩, subF (by intro f; simp only [AV.cells, List.append_eq, List.map_cons, List.map_nil, List.sum_nil, List.map_append, List.sum_cons, List.sum_append, List.cons_append, List.nil_append, List.append_assoc, List.append_nil]; omega)⟩
  all_goals rw [← dif_zero, ← hp, List.length_map]
  all_goals (rename_i hb; simp [cmpP] at hb; simp [hb])
end Go.Proofs.Ytfahfccbiolheaa.DT
