/- What the functions do, shown by the logic. -/
import Derived.Test.YtlfhlkndccjejaaKVTab
import Derived.Test.YtlfhlkndccjejaaAbsN5
set_option linter.unusedSimpArgs false
set_option linter.unusedVariables false
set_option maxRecDepth 20000
namespace Go.Proofs.Ytlfhlkndccjejaa.KV
open Go.Proofs.Ytlfhlkndccjejaa.Abs
variable {B : Nat → List AV}

def plainC (c : Nat) : Prop := (97 ≤ c ∧ c ≤ 122) ∨ (48 ≤ c ∧ c ≤ 57)
def charC (c : Nat) : Prop := plainC c ∨ c = 45 ∨ c = 95 ∨ c = 46

theorem plain144_ok {H : HL} (c : Nat) : WF B tab (.func 144) [.int .u8 (.ofNat c)] H fun r H' => H' = H ∧ ∃ b : Bool, r = .bool b ∧ (b = true ↔ plainC c) := by
  refine WF.fnR g144 rfl ?_
  repeat' (first
    | apply WOps.nil | apply WC.seq | apply WC.reg | apply WC.skip | apply WC.ret | (apply WOps.cmp; rfl; rfl; rfl; rfl; intro _ _) | (apply WOps.cmpT; rfl; rfl; rfl; rfl; intro _ _) | (apply WOps.purG; rfl; (intro _; rfl)) | (apply WOps.skp; rfl) | (apply WOps.ask; rfl; all_goals (intro hb; first | subst hb | fail_if_success (cases hb))))
  all_goals refine ⟨trivial, List.Sublist.refl _, [_], ⟨_, [], rfl, rfl, rfl⟩, _, rfl, ?_⟩
  all_goals simp [cmpP, cmpS, plainC, charC] at *
  all_goals first | omega | (apply Iff.trans; assumption; omega)

theorem plain145_ok {H : HL} (c : Nat) : WF B tab (.func 145) [.int .u8 (.ofNat c)] H fun r H' => H' = H ∧ ∃ b : Bool, r = .bool b ∧ (b = true ↔ plainC c) := by
  refine WF.fnR g145 rfl ?_
  repeat' (first
    | apply WOps.nil | apply WC.seq | apply WC.reg | apply WC.skip | apply WC.ret | (apply WOps.cmp; rfl; rfl; rfl; rfl; intro _ _) | (apply WOps.cmpT; rfl; rfl; rfl; rfl; intro _ _) | (apply WOps.purG; rfl; (intro _; rfl)) | (apply WOps.skp; rfl) | (apply WOps.ask; rfl; all_goals (intro hb; first | subst hb | fail_if_success (cases hb))))
  all_goals refine ⟨trivial, List.Sublist.refl _, [_], ⟨_, [], rfl, rfl, rfl⟩, _, rfl, ?_⟩
  all_goals simp [cmpP, cmpS, plainC, charC] at *
  all_goals first | omega | (apply Iff.trans; assumption; omega)

theorem key143_ok {H : HL} (c : Nat) : WF B tab (.func 143) [.int .u8 (.ofNat c)] H fun r H' => H' = H ∧ ∃ b : Bool, r = .bool b ∧ (b = true ↔ charC c) := by
  refine WF.fnR g143 rfl ?_
  repeat' (first
    | apply WOps.nil | apply WC.seq | apply WC.reg | apply WC.skip | apply WC.ret | (apply WOps.clR; rfl; rfl; exact plain144_ok _; rintro _ ⟨_, rfl, _⟩) | (apply WOps.cmp; rfl; rfl; rfl; rfl; intro _ _) | (apply WOps.cmpT; rfl; rfl; rfl; rfl; intro _ _) | (apply WOps.purG; rfl; (intro _; rfl)) | (apply WOps.skp; rfl) | (apply WOps.ask; rfl; all_goals (intro hb; first | subst hb | fail_if_success (cases hb))))
  all_goals refine ⟨trivial, List.Sublist.refl _, [_], ⟨_, [], rfl, rfl, rfl⟩, _, rfl, ?_⟩
  all_goals simp only [cmpP, cmpS, plainC, charC, true_iff, false_iff, Bool.false_eq_true, Int.ofNat_eq_natCast] at *
  all_goals first | omega | (apply Iff.trans; assumption; omega)

theorem all142_ok {H : HL} (s : List Nat) (hs : s.length ≤ 9223372036854775807) (g : Nat) (p : Nat → Prop) (hy : ∀ c H, WF B tab (.func g) [.int .u8 (.ofNat c)] H fun r H' => H' = H ∧ ∃ b : Bool, r = .bool b ∧ (b = true ↔ p c)) :
    WF B tab (.func 142) [.str s, .fn (.func g) [] []] H fun r H' => H' = H ∧ ∃ b : Bool, r = .bool b ∧ (b = true ↔ ∀ c, c ∈ s → p c) := by
  refine WF.fnR g142 rfl ?_
  repeat' (first
    | apply WOps.nil | apply WC.seq | apply WC.reg | apply WC.skip | apply WC.ret | apply WC.exit | (apply WC.condT; rfl) | (apply WC.condF; rfl) | apply WC.block | (apply WOps.lenT; rfl; rfl) | (apply WOps.cmp; rfl; rfl; rfl; rfl; intro _ _) | (apply WOps.cmpT; rfl; rfl; rfl; rfl; intro _ _) | (apply WOps.purG; rfl; (intro _; rfl)) | (apply WC.condA; rfl; all_goals (intro hb; try subst hb)))
  refine WC.loop ?_
  obtain ⟨i, hi⟩ : ∃ i : Nat, i = 0 := ⟨0, rfl⟩
  refine WL.le (t' := [(0, .str s), (1, .fn (.func g) [] []), (7, .int .i64 (.ofNat s.length)), (8, .int .i64 (.ofNat i))]) (by subst hi; exact Sub1.cons rfl (Sub1.cons rfl (Sub1.cons rfl (Sub1.cons rfl Sub1.nil)))) ?_
  have hle : i ≤ s.length := by omega
  have hpre : ∀ (j c : Nat), j < i → s[j]? = some c → p c := by intro j c hj; omega
  clear hi
  induction hk : s.length - i using Nat.strongRecOn generalizing i with | _ k ih => ?_
  apply WL.step
  repeat' (first
    | apply WOps.nil | apply WC.seq | apply WC.reg | apply WC.skip | apply WC.ret | apply WC.exit | (apply WC.condT; rfl) | (apply WC.condF; rfl) | apply WC.block | (apply WOps.cmp; rfl; rfl; rfl; rfl; intro _ _) | (apply WOps.cmpT; rfl; rfl; rfl; rfl; intro _ _) | (apply WOps.purG; rfl; (intro _; rfl)) | (apply WC.condA; rfl; all_goals (intro hb; try subst hb)))
  · rename_i hlt
    have hlt : i < s.length := by have h0 := hlt; simp [cmpP] at h0; omega
    obtain ⟨c, hc⟩ : ∃ c, s[i]? = some c := ⟨s[i], List.getElem?_eq_getElem hlt⟩
    repeat' (first
      | apply WOps.nil | apply WC.seq | apply WC.reg | apply WC.skip | apply WC.ret | apply WC.exit | (apply WC.condT; rfl) | (apply WC.condF; rfl) | apply WC.block | (apply WOps.ixT; rfl; rfl; rfl; exact hc) | (apply WOps.cvR; rfl; rfl; rfl; exact hy _ _; rintro _ ⟨bb, rfl, hbb⟩) | (apply WOps.addN; rfl; rfl; rfl; omega) | (apply WOps.cmp; rfl; rfl; rfl; rfl; intro _ _) | (apply WOps.cmpT; rfl; rfl; rfl; rfl; intro _ _) | (apply WOps.purG; rfl; (intro _; rfl)) | (apply WC.condA; rfl; all_goals (intro hb; try subst hb)))
    · refine ⟨trivial, List.Sublist.refl _, [_], ⟨_, [], rfl, rfl, rfl⟩, false, rfl, ?_⟩
      simp only [Bool.false_eq_true, false_iff]
      intro h
      have := hbb.2 (h c (List.mem_of_getElem? hc))
      simp_all
    · refine WL.le (t' := [(0, .str s), (1, .fn (.func g) [] []), (7, .int .i64 (.ofNat s.length)), (8, .int .i64 (.ofNat (i + 1)))]) (Sub1.cons rfl (Sub1.cons rfl (Sub1.cons rfl (Sub1.cons rfl Sub1.nil)))) (ih _ (by omega) (i + 1) (by omega) ?_ rfl)
      intro j d hj hd
      rcases Nat.lt_or_ge j i with h1 | h1
      · exact hpre j d h1 hd
      · obtain rfl : j = i := by omega
        rw [hc] at hd
        cases hd
        exact hbb.1 (by simpa using hb)
  · rename_i hge
    have hge : s.length ≤ i := by have h0 := hge; simp [cmpP] at h0; omega
    refine ⟨trivial, List.Sublist.refl _, [_], ⟨_, [], rfl, rfl, rfl⟩, true, rfl, ?_⟩
    simp only [true_iff]
    intro c hc
    obtain ⟨j, hj, e⟩ := List.getElem_of_mem hc
    exact hpre j c (by omega) (by rw [← e]; exact List.getElem?_eq_getElem hj)

theorem ixb162_ok {H : HL} (s : List Nat) (b : Nat) (hb : b < 256) : WF B tab (.func 162) [.str s, .int .u8 (.ofNat b)] H fun r H' => H' = H ∧ r = .int .i64 (idxV s b) := by
  refine WF.fnR g162 rfl ?_
  repeat' (first
    | apply WOps.nil | apply WC.seq | apply WC.reg | apply WC.skip | apply WC.ret | (apply WOps.ixB; rfl; rfl; exact hb) | (apply WOps.purG; rfl; (intro _; rfl)))
  exact ⟨trivial, List.Sublist.refl _, [_], ⟨_, [], rfl, rfl, rfl⟩, rfl⟩
theorem ix161_ok {H : HL} (s : List Nat) : WF B tab (.func 161) [.str s, .str [47]] H fun r H' => H' = H ∧ r = .int .i64 (idxV s 47) := by
  refine WF.fnR g161 rfl ?_
  repeat' (first
    | apply WOps.nil | apply WC.seq | apply WC.reg | apply WC.skip | apply WC.ret | apply WC.exit | (apply WC.condT; rfl) | (apply WC.condF; rfl) | apply WC.block | (apply WOps.clR; rfl; rfl; exact ixb162_ok _ _ (by decide); rintro _ rfl) | (apply WOps.cmp; rfl; rfl; rfl; rfl; intro _ _) | (apply WOps.cmpT; rfl; rfl; rfl; rfl; intro _ _) | (apply WOps.purG; rfl; (intro _; rfl)) | (apply WOps.skp; rfl) | (apply WOps.ask; rfl; all_goals (intro hb; first | subst hb | fail_if_success (cases hb))) | (apply WC.condA; rfl; all_goals (intro hb; try subst hb)))
  all_goals first
    | (exfalso; have h0 := ‹true = true ↔ cmpP BinOp.eql (Int.ofNat 1) (Int.ofNat 0)›; simp [cmpP] at h0; done)
    | (exfalso; have h0 := ‹false = true ↔ cmpP BinOp.eql (Int.ofNat 1) (Int.ofNat 1)›; simp [cmpP] at h0; done)
    | skip
  · have h0 := ‹true = true ↔ cmpS BinOp.eql [47] s›
    simp only [cmpS, true_iff] at h0
    subst h0
    exact ⟨trivial, List.Sublist.refl _, [_], ⟨_, [], rfl, rfl, rfl⟩, rfl⟩
  · exact ⟨trivial, List.Sublist.refl _, [_], ⟨_, [], rfl, rfl, rfl⟩, rfl⟩

theorem idxV_some {s : List Nat} {b i : Nat} (h : idxB s b = some i) : idxV s b = .ofNat i := by simp [idxV, h]
theorem idxV_none {s : List Nat} {b : Nat} (h : idxB s b = none) : idxV s b = .negSucc 0 := by simp [idxV, h]
def cutS (s : List Nat) : List Nat × List Nat × Bool := match idxB s 47 with
  | some i => (s.take i, s.drop (i + 1), true)
  | none => (s, [], false)
theorem cut159_ok {H : HL} (s : List Nat) (hs : s.length ≤ 9223372036854775807) : WF B tab (.func 159) [.str s, .str [47]] H fun r H' => H' = H ∧ r = .tup [.str (cutS s).1, .str (cutS s).2.1, .bool (cutS s).2.2] := by
  refine WF.fnR g159 rfl ?_
  repeat' (first
    | apply WOps.nil | apply WC.seq | apply WC.reg | apply WC.skip | apply WC.ret | (apply WC.condT; rfl) | (apply WC.condF; rfl) | apply WC.dreg | apply WD.nil | (apply WOps.clR; rfl; rfl; exact ix161_ok _; rintro _ rfl) | (apply WOps.cmp; rfl; rfl; rfl; rfl; intro _ _) | (apply WOps.cmpT; rfl; rfl; rfl; rfl; intro _ _) | (apply WOps.purG; rfl; (intro _; rfl)) | (apply WD.cmp; rfl; rfl; rfl; rfl; intro _ _) | (apply WD.cmpT; rfl; rfl; rfl; rfl; intro _ _) | (apply WD.pur; rfl; (intro _; rfl)))
  cases hi : idxB s 47 with
  | none =>
    rw [idxV_none hi]
    repeat' (first
      | apply WOps.nil | apply WC.seq | apply WC.reg | apply WC.skip | apply WC.ret | (apply WC.condT; rfl) | (apply WC.condF; rfl) | apply WC.dreg | apply WD.nil | (apply WOps.cmp; rfl; rfl; rfl; rfl; intro _ _) | (apply WOps.cmpT; rfl; rfl; rfl; rfl; intro _ _) | (apply WOps.purG; rfl; (intro _; rfl)) | (apply WD.cmp; rfl; rfl; rfl; rfl; intro _ _) | (apply WD.cmpT; rfl; rfl; rfl; rfl; intro _ _) | (apply WD.pur; rfl; (intro _; rfl)) | (apply WC.condA; rfl; all_goals (intro hb; try subst hb)))
    · exfalso
      have h0 := ‹true = true ↔ cmpP BinOp.geq (idxV s 47) (Int.ofNat 0)›
      rw [idxV_none hi] at h0
      simp [cmpP] at h0
    · exact ⟨trivial, List.Sublist.refl _, [_, _, _], ⟨_, _, rfl, rfl, _, _, rfl, rfl, _, _, rfl, rfl, rfl⟩, by simp [tupOf, cutS, hi]⟩
  | some i =>
    rw [idxV_some hi]
    have hlt := idxB_lt hi
    repeat' (first
      | apply WOps.nil | apply WC.seq | apply WC.reg | apply WC.skip | apply WC.ret | (apply WC.condT; rfl) | (apply WC.condF; rfl) | apply WC.dreg | apply WD.nil | (apply WD.frT; rfl; rfl; rfl; omega) | (apply WD.lenT; rfl; rfl) | (apply WD.addN; rfl; rfl; rfl; (simp only [List.length_cons, List.length_nil]; omega)) | (apply WD.bkT; rfl; rfl; rfl; (simp only [List.length_cons, List.length_nil]; omega)) | (apply WOps.cmp; rfl; rfl; rfl; rfl; intro _ _) | (apply WOps.cmpT; rfl; rfl; rfl; rfl; intro _ _) | (apply WOps.purG; rfl; (intro _; rfl)) | (apply WD.cmp; rfl; rfl; rfl; rfl; intro _ _) | (apply WD.cmpT; rfl; rfl; rfl; rfl; intro _ _) | (apply WD.pur; rfl; (intro _; rfl)) | (apply WC.condA; rfl; all_goals (intro hb; try subst hb)))
    · exact ⟨trivial, List.Sublist.refl _, [_, _, _], ⟨_, _, rfl, rfl, _, _, rfl, rfl, _, _, rfl, rfl, rfl⟩, by simp [tupOf, cutS, hi]⟩
    · exfalso
      have h0 := ‹false = true ↔ cmpP BinOp.geq (idxV s 47) (Int.ofNat 0)›
      rw [idxV_some hi] at h0
      simp [cmpP] at h0
theorem cut157_ok {H : HL} (s : List Nat) (hs : s.length ≤ 9223372036854775807) : WF B tab (.func 157) [.str s, .str [47]] H fun r H' => H' = H ∧ r = .tup [.str (cutS s).1, .str (cutS s).2.1, .bool (cutS s).2.2] := by
  refine WF.fnR g157 rfl ?_
  repeat' (first
    | apply WOps.nil | apply WC.seq | apply WC.reg | apply WC.skip | apply WC.ret | (apply WOps.clR; rfl; rfl; exact cut159_ok _ hs; rintro _ rfl) | (apply WOps.purG; rfl; (intro _; rfl)))
  exact ⟨trivial, List.Sublist.refl _, [_, _, _], ⟨_, _, rfl, rfl, _, _, rfl, rfl, _, _, rfl, rfl, rfl⟩, rfl⟩

/-- A cutter gives its next part. -/
theorem next141_ok {H : HL} (id : Nat) (s : List Nat) (hs : s.length ≤ 9223372036854775807) : WF B tab (.func 141) [.ptr ⟨false, id, 0⟩] ((id, .row [.str s]) :: H) fun r H' => H' = (id, .row [.str (cutS s).2.1]) :: H ∧ r = .tup [.str (cutS s).1, .bool (cutS s).2.2] := by
  refine WF.fn g141 rfl ?_
  repeat' (first
    | apply WOps.nil | apply WC.seq | apply WC.reg | apply WC.skip | apply WC.ret | (apply WOps.ldG; rfl; rfl; (first | exact ld0 rfl | exact ld1 rfl | exact ld2 rfl); rfl) | (apply WOps.st; rfl; rfl; (first | exact tk0 | exact tk1 | exact tk2); rfl; (first | rfl | ((repeat' (first | exact ac0 | apply ac1)) <;> (first | rfl | assumption))); rfl) | (apply WOps.clR; rfl; rfl; exact cut157_ok _ hs; rintro _ rfl) | (apply WOps.purG; rfl; (intro _; rfl)))
  exact ⟨trivial, [_, _], ⟨_, _, rfl, rfl, _, _, rfl, rfl, rfl⟩, rfl, rfl⟩

/-- The parts of a key. -/
inductive PartsOk : List Nat → Prop
  | mk {s : List Nat} (h1 : (cutS s).1 ≠ []) (h2 : ∀ c, c ∈ (cutS s).1 → charC c) (h3 : (cutS s).2.2 = true → PartsOk (cutS s).2.1) : PartsOk s
theorem cutS_le (s : List Nat) : (cutS s).1.length ≤ s.length ∧ ((cutS s).2.2 = true → (cutS s).2.1.length < s.length) := by
  unfold cutS
  cases hi : idxB s 47 with
  | none => simp
  | some i =>
    have := idxB_lt hi
    simp
    omega
theorem PartsOk_iff {s : List Nat} : PartsOk s ↔ (cutS s).1 ≠ [] ∧ (∀ c, c ∈ (cutS s).1 → charC c) ∧ ((cutS s).2.2 = true → PartsOk (cutS s).2.1) :=
  ⟨fun h => by cases h with | mk h1 h2 h3 => exact ⟨h1, h2, h3⟩, fun ⟨h1, h2, h3⟩ => .mk h1 h2 h3⟩

theorem WL.heq {T : Tr FnI} {nt : Nat} {rdn : Option Nat} {t : EL} {H H' : HL} {Q : AExit → EL → HL → Prop} {c : AC} (e : H = H') (w : WL B T nt rdn c t H' Q) : WL B T nt rdn c t H Q := by subst e; exact w
theorem key113_ok {H : HL} (s : List Nat) : WF B tab (.func 113) [.str s] H fun r H' => H' = H ∧ ∃ b : Bool, r = .bool b ∧ (b = true ↔ (1 ≤ s.length ∧ s.length ≤ 32 ∧ PartsOk s)) := by
  refine WF.fnR g113 rfl ?_
  repeat' (first
    | apply WOps.nil | apply WC.seq | apply WC.reg | apply WC.skip | apply WC.ret | (apply WC.condT; rfl) | (apply WC.condF; rfl) | apply WC.block | (apply WOps.bx; rfl; rfl; (first | rfl | ((repeat' (first | exact ac0 | apply ac1)) <;> (first | rfl | assumption))); intro _) | (apply WOps.lenT; rfl; rfl) | (apply WOps.cmp; rfl; rfl; rfl; rfl; intro _ _) | (apply WOps.cmpT; rfl; rfl; rfl; rfl; intro _ _) | (apply WOps.purG; rfl; (intro _; rfl)) | (apply WOps.skp; rfl) | (apply WOps.ask; rfl; all_goals (intro hb; first | subst hb | fail_if_success (cases hb))) | (apply WC.condA; rfl; all_goals (intro hb; try subst hb)))
  · refine ⟨trivial, List.Sublist.refl _, [_], ⟨_, [], rfl, rfl, rfl⟩, false, rfl, ?_⟩
    simp [cmpP] at *
    omega
  · refine ⟨trivial, List.Sublist.refl _, [_], ⟨_, [], rfl, rfl, rfl⟩, false, rfl, ?_⟩
    simp [cmpP] at *
    omega
  rename_i h1 h2 id
  have hlen : 1 ≤ s.length ∧ s.length ≤ 32 := by simp [cmpP] at h1 h2; omega
  refine WC.loop ?_
  refine WL.le (t' := [(3, .fn (.func 141) [.ptr ⟨false, id, 0⟩] [])]) (Sub1.cons rfl Sub1.nil) ?_
  obtain ⟨r, hr⟩ : ∃ r, r = s := ⟨s, rfl⟩
  have hinv : PartsOk s ↔ PartsOk r := by rw [hr]
  have hrl : r.length ≤ 32 := by rw [hr]; exact hlen.2
  refine WL.heq (H' := (id, .row [.str r]) :: H) (by rw [hr]; rfl) ?_
  clear hr h1 h2
  induction hk : r.length using Nat.strongRecOn generalizing r with | _ k ih => ?_
  have hcl := cutS_le r
  apply WL.step
  repeat' (first
    | apply WOps.nil | apply WC.seq | apply WC.reg | apply WC.skip | apply WC.ret | (apply WC.condT; rfl) | (apply WC.condF; rfl) | apply WC.block | (apply WOps.bx; rfl; rfl; (first | rfl | ((repeat' (first | exact ac0 | apply ac1)) <;> (first | rfl | assumption))); intro _) | (apply WOps.cvA; rfl; rfl; rfl; exact next141_ok _ _ (by omega); rintro _ _ ⟨rfl, rfl⟩) | (apply WOps.clR; rfl; rfl; exact all142_ok _ (by omega) 143 charC (fun c H => key143_ok c); rintro _ ⟨bb, rfl, hbb⟩) | (apply WOps.cmp; rfl; rfl; rfl; rfl; intro _ _) | (apply WOps.cmpT; rfl; rfl; rfl; rfl; intro _ _) | (apply WOps.purG; rfl; (intro _; rfl)) | (apply WOps.skp; rfl) | (apply WOps.ask; rfl; all_goals (intro hb; first | subst hb | fail_if_success (cases hb))) | (apply WC.condA; rfl; all_goals (intro hb; try subst hb)))
  · refine ⟨trivial, List.sublist_cons_self _ _, [_], ⟨_, [], rfl, rfl, rfl⟩, false, rfl, ?_⟩
    simp only [cmpS, true_iff, Bool.false_eq_true, false_iff] at *
    rintro ⟨_, _, hp⟩
    exact (PartsOk_iff.1 (hinv.1 hp)).1 (by assumption)
  · refine ⟨trivial, List.sublist_cons_self _ _, [_], ⟨_, [], rfl, rfl, rfl⟩, false, rfl, ?_⟩
    simp only [Bool.false_eq_true, false_iff]
    rintro ⟨_, _, hp⟩
    have := hbb.2 (PartsOk_iff.1 (hinv.1 hp)).2.1
    simp [this] at hb
  · rename_i h0 hb1
    have hb2 := hb
    refine ⟨trivial, List.sublist_cons_self _ _, [_], ⟨_, [], rfl, rfl, rfl⟩, true, rfl, ?_⟩
    have hbb1 : bb = true := by simpa using hb1
    have hm : (cutS r).2.2 = false := by simpa using hb2
    simp only [cmpS, Bool.false_eq_true, false_iff] at h0
    exact ⟨fun _ => ⟨hlen.1, hlen.2, hinv.2 (PartsOk_iff.2 ⟨h0, hbb.1 hbb1, fun h => by simp [hm] at h⟩)⟩, fun _ => rfl⟩
  · rename_i h0 hb1
    have hb2 := hb
    have hbb1 : bb = true := by simpa using hb1
    have hm : (cutS r).2.2 = true := by simpa using hb2
    simp only [cmpS, Bool.false_eq_true, false_iff] at h0
    refine WL.le (t' := [(3, .fn (.func 141) [.ptr ⟨false, id, 0⟩] [])]) (Sub1.cons rfl Sub1.nil) (ih _ (by have := hcl.2 hm; omega) (cutS r).2.1 ?_ (by have := hcl.2 hm; omega) rfl)
    refine hinv.trans ?_
    exact ⟨fun h => (PartsOk_iff.1 h).2.2 hm, fun h => PartsOk_iff.2 ⟨h0, hbb.1 hbb1, fun _ => h⟩⟩

/-- A key, as the document says it: no part is empty, and each character may stand there. -/
def chrAt (s : List Nat) (i : Nat) : Prop := ∀ c, s[i]? = some c → (c = 47 → i ≠ 0 ∧ i + 1 ≠ s.length ∧ s[i - 1]? ≠ some 47) ∧ (c ≠ 47 → charC c)
set_option maxHeartbeats 2000000 in
theorem key116_ok {H : HL} (s : List Nat) : WF B tab (.func 116) [.str s] H fun r H' => H' = H ∧ ∃ b : Bool, r = .bool b ∧ (b = true ↔ (1 ≤ s.length ∧ s.length ≤ 32 ∧ ∀ i, chrAt s i)) := by
  refine WF.fnR g116 rfl ?_
  repeat' (first
    | apply WOps.nil | apply WC.seq | apply WC.reg | apply WC.skip | apply WC.ret | apply WC.exit | (apply WC.condT; rfl) | (apply WC.condF; rfl) | apply WC.block | (apply WOps.lenT; rfl; rfl) | (apply WOps.cmp; rfl; rfl; rfl; rfl; intro _ _) | (apply WOps.cmpT; rfl; rfl; rfl; rfl; intro _ _) | (apply WOps.purG; rfl; (intro _; rfl)) | (apply WOps.skp; rfl) | (apply WOps.ask; rfl; all_goals (intro hb; first | subst hb | fail_if_success (cases hb))) | (apply WC.condA; rfl; all_goals (intro hb; try subst hb)))
  · refine ⟨trivial, List.Sublist.refl _, [_], ⟨_, [], rfl, rfl, rfl⟩, false, rfl, ?_⟩
    simp [cmpP] at *
    omega
  · refine ⟨trivial, List.Sublist.refl _, [_], ⟨_, [], rfl, rfl, rfl⟩, false, rfl, ?_⟩
    simp [cmpP] at *
    omega
  rename_i h1 h2
  have hlen : 1 ≤ s.length ∧ s.length ≤ 32 := by simp [cmpP] at h1 h2; omega
  clear h1 h2
  refine WC.loop ?_
  obtain ⟨i, hi⟩ : ∃ i : Nat, i = 0 := ⟨0, rfl⟩
  refine WL.le (t' := [(0, .str s), (3, .int .i64 (.ofNat i))]) (by subst hi; exact Sub1.cons rfl (Sub1.cons rfl Sub1.nil)) ?_
  have hle : i ≤ s.length := by omega
  have hpre : ∀ (j : Nat), j < i → chrAt s j := by intro j hj; omega
  clear hi
  induction hk : s.length - i using Nat.strongRecOn generalizing i with | _ k ih => ?_
  apply WL.step
  repeat' (first
    | apply WOps.nil | apply WC.seq | apply WC.reg | apply WC.skip | apply WC.ret | apply WC.exit | (apply WC.condT; rfl) | (apply WC.condF; rfl) | apply WC.block | (apply WOps.lenT; rfl; rfl) | (apply WOps.cmp; rfl; rfl; rfl; rfl; intro _ _) | (apply WOps.cmpT; rfl; rfl; rfl; rfl; intro _ _) | (apply WOps.purG; rfl; (intro _; rfl)) | (apply WOps.skp; rfl) | (apply WOps.ask; rfl; all_goals (intro hb; first | subst hb | fail_if_success (cases hb))) | (apply WC.condA; rfl; all_goals (intro hb; try subst hb)))
  · rename_i hlt
    have hlt : i < s.length := by have h0 := hlt; simp [cmpP] at h0; omega
    obtain ⟨c, hc⟩ : ∃ c, s[i]? = some c := ⟨s[i], List.getElem?_eq_getElem hlt⟩
    repeat' (first
      | apply WOps.nil | apply WC.seq | apply WC.reg | apply WC.skip | apply WC.ret | apply WC.exit | (apply WC.condT; rfl) | (apply WC.condF; rfl) | apply WC.block | (apply WOps.lenT; rfl; rfl) | (apply WOps.subN; rfl; rfl; rfl; omega; omega) | (apply WOps.subN; rfl; rfl; rfl; (have h0 := ‹false = true ↔ cmpP BinOp.eql (Int.ofNat i) (Int.ofNat 0)›; simp [cmpP] at h0; omega); omega) | (apply WOps.ixT; rfl; rfl; rfl; exact hc) | (apply WOps.ixT; rfl; rfl; rfl; exact get_of (by omega)) | (apply WOps.clR; rfl; rfl; exact plain145_ok _; rintro _ ⟨bb, rfl, hbb⟩) | (apply WOps.addN; rfl; rfl; rfl; omega) | (apply WOps.cmp; rfl; rfl; rfl; rfl; intro _ _) | (apply WOps.cmpT; rfl; rfl; rfl; rfl; intro _ _) | (apply WOps.purG; rfl; (intro _; rfl)) | (apply WOps.skp; rfl) | (apply WOps.ask; rfl; all_goals (intro hb; first | subst hb | fail_if_success (cases hb))) | (apply WC.condA; rfl; all_goals (intro hb; try subst hb)))
    all_goals first
      | (refine ⟨trivial, List.Sublist.refl _, [_], ⟨_, [], rfl, rfl, rfl⟩, false, rfl, ?_⟩
         simp only [Bool.false_eq_true, false_iff]
         rintro ⟨_, _, hp⟩
         have hq := hp i c hc
         clear hp ih hpre
         clear hk hle
         first
           | (obtain ⟨q1, q2, q3⟩ := hq.1 (by clear hq; simp [cmpP] at *; omega)
              clear hq
              first
                | (clear q3; simp [cmpP] at *; omega)
                | (rw [get_of (by omega : i - 1 < s.length)] at q3
                   simp [cmpP] at *; omega))
           | (have q1 := hq.2 (by clear hq; simp [cmpP] at *; omega)
              clear hq
              cases bb <;> (simp [cmpP, charC, plainC] at *; try omega)))
      | (refine WL.le (t' := [(0, .str s), (3, .int .i64 (.ofNat (i + 1)))]) (Sub1.cons rfl (Sub1.cons rfl Sub1.nil)) (ih _ (by omega) (i + 1) (by omega) ?_ rfl)
         intro j hj
         rcases Nat.lt_or_ge j i with h1 | h1
         · exact hpre j h1
         · obtain rfl : j = i := by omega
           intro d hd
           rw [hc] at hd
           cases hd
           clear ih hpre hk hle
           first
             | (have c47 : c = 47 := by simp [cmpP] at *; omega
                refine ⟨fun _ => ⟨?_, ?_, ?_⟩, fun h => absurd c47 h⟩
                · simp [cmpP] at *; omega
                · simp [cmpP] at *; omega
                · rw [get_of (by omega : j - 1 < s.length)]
                  simp [cmpP] at *; omega)
             | (have c47 : c ≠ 47 := by simp [cmpP] at *; omega
                refine ⟨fun h => absurd h c47, fun _ => ?_⟩
                cases bb <;> (simp [cmpP, charC, plainC] at *; try omega)))
  · rename_i hge
    have hge : s.length ≤ i := by have h0 := hge; simp [cmpP] at h0; omega
    refine ⟨trivial, List.Sublist.refl _, [_], ⟨_, [], rfl, rfl, rfl⟩, true, rfl, ?_⟩
    simp only [true_iff]
    refine ⟨hlen.1, hlen.2, fun j => ?_⟩
    rcases Nat.lt_or_ge j s.length with h1 | h1
    · exact hpre j (by omega)
    · intro c hc
      rw [List.getElem?_eq_none h1] at hc
      cases hc
theorem idxB_none {b : Nat} : ∀ {s : List Nat}, idxB s b = none → b ∉ s := by
  intro s
  induction s with
  | nil => simp
  | cons a r ih =>
    intro h
    unfold idxB at h
    cases hb : a.beq b with
    | true => rw [hb] at h; cases h
    | false =>
      rw [hb] at h
      have hne : a ≠ b := by intro e; rw [e, Nat.beq_refl] at hb; cases hb
      cases hi : idxB r b with
      | some i => rw [hi] at h; cases h
      | none => simp [ih hi, Ne.symm hne]
theorem idxB_some {b : Nat} : ∀ {s : List Nat} {i : Nat}, idxB s b = some i → s[i]? = some b ∧ b ∉ s.take i := by
  intro s
  induction s with
  | nil => intro i h; cases h
  | cons a r ih =>
    intro i h
    unfold idxB at h
    cases hb : a.beq b with
    | true =>
      rw [hb] at h
      cases h
      simp [Nat.eq_of_beq_eq_true hb]
    | false =>
      rw [hb] at h
      have hne : a ≠ b := by intro e; rw [e, Nat.beq_refl] at hb; cases hb
      cases hi : idxB r b with
      | none => rw [hi] at h; cases h
      | some j =>
        rw [hi] at h
        cases h
        have := ih hi
        simp [this, Ne.symm hne]
theorem split_at {s : List Nat} {i b : Nat} (h : s[i]? = some b) : s = s.take i ++ b :: s.drop (i + 1) := by
  obtain ⟨hi, rfl⟩ := List.getElem?_eq_some_iff.1 h
  rw [← List.drop_eq_getElem_cons hi, List.take_append_drop]
theorem chrAt_parts {p r : List Nat} (hp : 47 ∉ p) : (∀ i, chrAt (p ++ 47 :: r) i) ↔ p ≠ [] ∧ (∀ c, c ∈ p → charC c) ∧ r ≠ [] ∧ ∀ i, chrAt r i := by
  have g1 : ∀ (i : Nat) (c : Nat), p[i]? = some c → (p ++ 47 :: r)[i]? = some c := by
    intro i c h
    rw [List.getElem?_append_left (List.getElem?_eq_some_iff.1 h).1, h]
  have g2 : (p ++ 47 :: r)[p.length]? = some 47 := by simp
  have g3 : ∀ (i : Nat), (p ++ 47 :: r)[p.length + 1 + i]? = r[i]? := by
    intro i
    rw [List.getElem?_append_right (by omega)]
    rw [show p.length + 1 + i - p.length = i + 1 by omega, List.getElem?_cons_succ]
  have hl : (p ++ 47 :: r).length = p.length + 1 + r.length := by simp; omega
  constructor
  · intro h
    have h0 := (h p.length 47 g2).1 rfl
    have hr : r ≠ [] := by
      rintro rfl
      simp at h0
    refine ⟨fun e => h0.1 (by rw [e]; rfl), ?_, hr, ?_⟩
    · intro c hc
      obtain ⟨i, hi, e⟩ := List.getElem_of_mem hc
      refine (h i c (g1 i c (by rw [← e]; exact List.getElem?_eq_getElem hi))).2 ?_
      intro e2
      exact hp (e2 ▸ hc)
    · intro i c hc
      have h1 := h (p.length + 1 + i) c (by rw [g3]; exact hc)
      refine ⟨fun e => ?_, h1.2⟩
      have h2 := h1.1 e
      have hi : i ≠ 0 := by
        rintro rfl
        exact h2.2.2 (by simp)
      refine ⟨hi, by omega, ?_⟩
      rw [show p.length + 1 + i - 1 = p.length + 1 + (i - 1) by omega, g3] at h2
      exact h2.2.2
  · rintro ⟨h1, h2, h3, h4⟩ i c hc
    have hr : 0 < r.length := List.length_pos_iff.2 h3
    have hpl : 0 < p.length := List.length_pos_iff.2 h1
    rcases Nat.lt_trichotomy i p.length with hi | rfl | hi
    · have hm : c ∈ p := by
        rw [List.getElem?_append_left hi] at hc
        exact List.mem_of_getElem? hc
      exact ⟨fun e => absurd (e ▸ hm) hp, fun _ => h2 c hm⟩
    · refine ⟨fun e => ⟨by omega, by omega, ?_⟩, fun e => ?_⟩
      · intro e2
        rw [List.getElem?_append_left (by omega)] at e2
        exact hp (List.mem_of_getElem? e2)
      · rw [g2] at hc
        cases hc
        exact absurd rfl e
    · obtain ⟨j, rfl⟩ : ∃ j, i = p.length + 1 + j := ⟨i - (p.length + 1), by omega⟩
      rw [g3] at hc
      have h5 := h4 j c hc
      refine ⟨fun e => ?_, h5.2⟩
      have h6 := h5.1 e
      refine ⟨by omega, by omega, ?_⟩
      rw [show p.length + 1 + j - 1 = p.length + 1 + (j - 1) by omega, g3]
      exact h6.2.2
theorem chrAt_plain {s : List Nat} (h : 47 ∉ s) : (∀ i, chrAt s i) ↔ ∀ c, c ∈ s → charC c := by
  constructor
  · intro k c hc
    obtain ⟨i, hi, e⟩ := List.getElem_of_mem hc
    refine (k i c (by rw [← e]; exact List.getElem?_eq_getElem hi)).2 (fun e => h (e ▸ hc))
  · intro k i c hc
    have hm := List.mem_of_getElem? hc
    exact ⟨fun e => absurd (e ▸ hm) h, fun _ => k c hm⟩
theorem parts_key (s : List Nat) : PartsOk s ↔ s ≠ [] ∧ ∀ i, chrAt s i := by
  induction hk : s.length using Nat.strongRecOn generalizing s with | _ k ih => ?_
  rw [PartsOk_iff]
  cases hi : idxB s 47 with
  | none =>
    rw [chrAt_plain (idxB_none hi)]
    simp [cutS, hi]
  | some i =>
    have hs := idxB_some hi
    have hlt := idxB_lt hi
    have h1 : cutS s = (s.take i, s.drop (i + 1), true) := by simp [cutS, hi]
    rw [h1, ih _ (by subst hk; simp; omega) (s.drop (i + 1)) rfl]
    conv => rhs; rw [split_at hs.1]
    rw [chrAt_parts hs.2]
    simp

def preP (s p : List Nat) : Prop := p.length ≤ s.length ∧ s.take p.length = p
theorem pre160_ok {H : HL} (s p : List Nat) : WF B tab (.func 160) [.str s, .str p] H fun r H' => H' = H ∧ ∃ b : Bool, r = .bool b ∧ (b = true ↔ preP s p) := by
  refine WF.fnR g160 rfl ?_
  repeat' (first
    | apply WOps.nil | apply WC.seq | apply WC.reg | apply WC.skip | apply WC.ret | (apply WOps.lenT; rfl; rfl) | (apply WOps.frT; rfl; rfl; rfl; (have h0 := ‹true = true ↔ cmpP BinOp.geq (Int.ofNat s.length) (Int.ofNat p.length)›; simp only [cmpP, Bool.false_eq_true, false_iff, true_iff, Int.ofNat_eq_natCast] at h0; omega)) | (apply WOps.cmp; rfl; rfl; rfl; rfl; intro _ _) | (apply WOps.cmpT; rfl; rfl; rfl; rfl; intro _ _) | (apply WOps.purG; rfl; (intro _; rfl)) | (apply WOps.skp; rfl) | (apply WOps.ask; rfl; all_goals (intro hb; first | subst hb | fail_if_success (cases hb))))
  · refine ⟨trivial, List.Sublist.refl _, [_], ⟨_, [], rfl, rfl, rfl⟩, _, rfl, ?_⟩
    simp [cmpP, cmpS, preP] at *
    simp [*]
  · refine ⟨trivial, List.Sublist.refl _, [_], ⟨_, [], rfl, rfl, rfl⟩, _, rfl, ?_⟩
    simp [cmpP, cmpS, preP] at *
    intro h; omega
theorem cutp158_ok {H : HL} (s p : List Nat) : WF B tab (.func 158) [.str s, .str p] H fun r H' => H' = H ∧ ((preP s p ∧ r = .tup [.str (s.drop p.length), .bool true]) ∨ (¬ preP s p ∧ r = .tup [.str s, .bool false])) := by
  refine WF.fnR g158 rfl ?_
  repeat' (first
    | apply WOps.nil | apply WC.seq | apply WC.reg | apply WC.skip | apply WC.ret | (apply WC.condT; rfl) | (apply WC.condF; rfl) | (apply WOps.lenT; rfl; rfl) | (apply WOps.clR; rfl; rfl; exact pre160_ok _ _; rintro _ ⟨bb, rfl, hbb⟩) | (apply WOps.bkT; rfl; rfl; rfl; (have h0 := hbb.1 (by simpa using hb); exact h0.1)) | (apply WOps.purG; rfl; (intro _; rfl)) | (apply WC.condA; rfl; all_goals (intro hb; try subst hb)))
  · refine ⟨trivial, List.Sublist.refl _, [_, _], ⟨_, _, rfl, rfl, _, _, rfl, rfl, rfl⟩, .inr ⟨?_, rfl⟩⟩
    intro h
    simp [hbb.2 h] at hb
  · refine ⟨trivial, List.Sublist.refl _, [_, _], ⟨_, _, rfl, rfl, _, _, rfl, rfl, rfl⟩, .inl ⟨?_, rfl⟩⟩
    exact hbb.1 (by simpa using hb)
theorem cutp148_ok {H : HL} (s p : List Nat) : WF B tab (.func 148) [.str s, .str p] H fun r H' => H' = H ∧ ((preP s p ∧ r = .tup [.str (s.drop p.length), .bool true]) ∨ (¬ preP s p ∧ r = .tup [.str s, .bool false])) := by
  refine WF.fnR g148 rfl ?_
  repeat' (first
    | apply WOps.nil | apply WC.seq | apply WC.reg | apply WC.skip | apply WC.ret | (apply WOps.clR; rfl; rfl; exact cutp158_ok _ _; rintro _ (⟨h, rfl⟩ | ⟨h, rfl⟩)) | (apply WOps.purG; rfl; (intro _; rfl)))
  · exact ⟨trivial, List.Sublist.refl _, [_, _], ⟨_, _, rfl, rfl, _, _, rfl, rfl, rfl⟩, .inl ⟨h, rfl⟩⟩
  · exact ⟨trivial, List.Sublist.refl _, [_, _], ⟨_, _, rfl, rfl, _, _, rfl, rfl, rfl⟩, .inr ⟨h, rfl⟩⟩
/-- What stands under a name. -/
def underP (s p : List Nat) : Prop := preP s p ∧ (p = [] ∨ p.length = s.length ∨ p[p.length - 1]? = some 47 ∨ s[p.length]? = some 47)
theorem underP_of {s p : List Nat} (h : preP s p) : underP s p ↔ (p = [] ∨ s.drop p.length = [] ∨ p[p.length - 1]? = some 47 ∨ (s.drop p.length)[0]? = some 47) := by
  have h1 := h.1
  have : s.drop p.length = [] ↔ p.length = s.length := by rw [List.drop_eq_nil_iff]; omega
  simp only [underP, h, true_and, this, List.getElem?_drop, Nat.add_zero]
theorem under118_ok {H : HL} (s p : List Nat) (hp : p.length ≤ 9223372036854775807) : WF B tab (.func 118) [.str s, .str p] H fun r H' => H' = H ∧ ∃ b : Bool, r = .bool b ∧ (b = true ↔ underP s p) := by
  refine WF.fnR g118 rfl ?_
  repeat' (first
    | apply WOps.nil | apply WC.seq | apply WC.reg | apply WC.skip | apply WC.ret | (apply WC.condT; rfl) | (apply WC.condF; rfl) | (apply WOps.clR; rfl; rfl; exact cutp148_ok _ _; rintro _ (⟨h, rfl⟩ | ⟨h, rfl⟩)) | (apply WOps.cmp; rfl; rfl; rfl; rfl; intro _ _) | (apply WOps.cmpT; rfl; rfl; rfl; rfl; intro _ _) | (apply WOps.purG; rfl; (intro _; rfl)) | (apply WOps.skp; rfl))
  · repeat' (first
      | apply WOps.nil | apply WC.seq | apply WC.reg | apply WC.skip | apply WC.ret | (apply WC.condT; rfl) | (apply WC.condF; rfl) | (apply WOps.lenT; rfl; rfl) | (apply WOps.subN; rfl; rfl; rfl; (have h0 := ‹false = true ↔ cmpS BinOp.eql p []›; simp [cmpS, ← List.length_pos_iff] at h0; omega); omega) | (apply WOps.ixT; rfl; rfl; rfl; exact get_of (by (have h0 := ‹false = true ↔ cmpS BinOp.eql p []›; simp [cmpS, ← List.length_pos_iff] at h0; omega))) | (apply WOps.ixT; rfl; rfl; rfl; exact get_of (by (have h0 := ‹false = true ↔ cmpS BinOp.eql (s.drop p.length) []›; simp [cmpS] at h0 ⊢; omega))) | (apply WOps.cmp; rfl; rfl; rfl; rfl; intro _ _) | (apply WOps.cmpT; rfl; rfl; rfl; rfl; intro _ _) | (apply WOps.purG; rfl; (intro _; rfl)) | (apply WOps.skp; rfl) | (apply WOps.ask; rfl; all_goals (intro hb; first | subst hb | fail_if_success (cases hb))) | (apply WC.condA; rfl; all_goals (intro hb; try subst hb)))
    · refine ⟨trivial, List.Sublist.refl _, [_], ⟨_, [], rfl, rfl, rfl⟩, _, rfl, ?_⟩
      rw [underP_of h]
      simp only [cmpS, true_iff] at *
      exact .inl (by assumption)
    · refine ⟨trivial, List.Sublist.refl _, [_], ⟨_, [], rfl, rfl, rfl⟩, _, rfl, ?_⟩
      rw [underP_of h]
      simp only [cmpS, true_iff] at *
      exact .inr (.inl (by assumption))
    · refine ⟨trivial, List.Sublist.refl _, [_], ⟨_, [], rfl, rfl, rfl⟩, _, rfl, ?_⟩
      rw [underP_of h]
      rename_i h0 _ h1
      simp only [cmpS, cmpP, true_iff, Bool.false_eq_true, false_iff, Int.ofNat.injEq] at h0 h1
      have hl : p.length - 1 < p.length := by have := List.length_pos_iff.2 h0; omega
      simp only [true_iff]
      refine .inr (.inr (.inl ?_))
      rw [get_of hl]
      rw [h1]
    · refine ⟨trivial, List.Sublist.refl _, [_], ⟨_, [], rfl, rfl, rfl⟩, _, rfl, ?_⟩
      rw [underP_of h]
      rename_i h0 h1 h2 bb h3
      simp only [cmpS, cmpP, Bool.false_eq_true, false_iff, Int.ofNat.injEq] at h0 h1 h2 h3
      have hl : p.length - 1 < p.length := by have := List.length_pos_iff.2 h0; omega
      have hl2 : 0 < (s.drop p.length).length := List.length_pos_iff.2 h1
      rw [get_of hl, get_of hl2, h3]
      simp only [h0, h1, h2, false_or, Option.some.injEq]
  · repeat' (first
      | apply WOps.nil | apply WC.seq | apply WC.reg | apply WC.skip | apply WC.ret | (apply WC.condT; rfl) | (apply WC.condF; rfl) | (apply WOps.cmp; rfl; rfl; rfl; rfl; intro _ _) | (apply WOps.cmpT; rfl; rfl; rfl; rfl; intro _ _) | (apply WOps.purG; rfl; (intro _; rfl)) | (apply WOps.skp; rfl) | (apply WOps.ask; rfl; all_goals (intro hb; first | subst hb | fail_if_success (cases hb))) | (apply WC.condA; rfl; all_goals (intro hb; try subst hb)))
    refine ⟨trivial, List.Sublist.refl _, [_], ⟨_, [], rfl, rfl, rfl⟩, _, rfl, ?_⟩
    simp [underP, h]
theorem under124_ok {H : HL} (s p : List Nat) (hp : p.length ≤ 9223372036854775807) : WF B tab (.func 124) [.str s, .str p] H fun r H' => H' = H ∧ ∃ b : Bool, r = .bool b ∧ (b = true ↔ underP s p) := by
  refine WF.fnR g124 rfl ?_
  repeat' (first
    | apply WOps.nil | apply WC.seq | apply WC.reg | apply WC.skip | apply WC.ret | (apply WC.condT; rfl) | (apply WC.condF; rfl) | (apply WOps.lenT; rfl; rfl) | (apply WOps.subN; rfl; rfl; rfl; (have h0 := ‹false = true ↔ cmpP BinOp.eql (Int.ofNat p.length) (Int.ofNat 0)›; simp only [cmpP, Int.ofNat.injEq, Bool.false_eq_true, false_iff] at h0; omega); omega) | (apply WOps.frT; rfl; rfl; rfl; (have h0 := ‹false = true ↔ cmpP BinOp.gtr (Int.ofNat p.length) (Int.ofNat s.length)›; simp only [cmpP, Bool.false_eq_true, false_iff, true_iff, Int.ofNat_eq_natCast] at h0; omega)) | (apply WOps.ixT; rfl; rfl; rfl; exact get_of (by (have h0 := ‹false = true ↔ cmpP BinOp.eql (Int.ofNat p.length) (Int.ofNat 0)›; simp only [cmpP, Bool.false_eq_true, false_iff, true_iff, Int.ofNat_eq_natCast] at h0; omega))) | (apply WOps.ixT; rfl; rfl; rfl; exact get_of (by (have h0 := ‹false = true ↔ cmpP BinOp.eql (Int.ofNat p.length) (Int.ofNat s.length)›; have h1 := ‹false = true ↔ cmpP BinOp.gtr (Int.ofNat p.length) (Int.ofNat s.length)›; simp only [cmpP, Bool.false_eq_true, false_iff, Int.ofNat_eq_natCast] at h0 h1; omega))) | (apply WOps.cmp; rfl; rfl; rfl; rfl; intro _ _) | (apply WOps.cmpT; rfl; rfl; rfl; rfl; intro _ _) | (apply WOps.purG; rfl; (intro _; rfl)) | (apply WOps.skp; rfl) | (apply WOps.ask; rfl; all_goals (intro hb; first | subst hb | fail_if_success (cases hb))) | (apply WC.condA; rfl; all_goals (intro hb; try subst hb)))
  · refine ⟨trivial, List.Sublist.refl _, [_], ⟨_, [], rfl, rfl, rfl⟩, false, rfl, ?_⟩
    rename_i h0
    simp only [cmpP, true_iff, Int.ofNat_eq_natCast, Bool.false_eq_true, false_iff] at *
    intro h
    have := h.1.1
    omega
  · refine ⟨trivial, List.Sublist.refl _, [_], ⟨_, [], rfl, rfl, rfl⟩, false, rfl, ?_⟩
    rename_i h1 h0
    simp only [cmpS, true_iff, Bool.false_eq_true, false_iff] at h0 ⊢
    exact fun h => h0 h.1.2
  all_goals
    have hpre : preP s p := by
      have h0 := ‹false = true ↔ cmpP BinOp.gtr (Int.ofNat p.length) (Int.ofNat s.length)›
      have h1 := ‹false = true ↔ cmpS BinOp.neq (List.take p.length s) p›
      simp only [cmpP, cmpS, Bool.false_eq_true, false_iff, Int.ofNat_eq_natCast, Decidable.not_not] at h0 h1
      exact ⟨by omega, h1⟩
    refine ⟨trivial, List.Sublist.refl _, [_], ⟨_, [], rfl, rfl, rfl⟩, _, rfl, ?_⟩
    simp only [underP, hpre, true_and]
  · simp [cmpP] at *
    simp [*]
  · rename_i h0
    simp only [cmpP, true_iff, Int.ofNat.injEq] at h0
    simp [h0]
  · rename_i h2 _ h0
    simp only [cmpP, true_iff, Bool.false_eq_true, false_iff, Int.ofNat.injEq] at h0 h2
    rw [get_of (show p.length - 1 < p.length by omega), h0]
    simp
  · rename_i h1 h2 h3 bb h4
    simp only [cmpP, true_iff, Bool.false_eq_true, false_iff, Int.ofNat.injEq] at h1 h2 h3 h4
    have := hpre.1
    have hn : p ≠ [] := by intro e; simp [e] at h1
    rw [get_of (show p.length - 1 < p.length by omega), get_of (show p.length < s.length by omega), h4]
    simp only [hn, h2, h3, false_or, Option.some.injEq]

/-- The least index at which it holds. -/
def isLeast (p : Nat → Prop) (n k : Nat) : Prop := k ≤ n ∧ (∀ m, m < k → ¬ p m) ∧ (∀ m, k ≤ m → m < n → p m)
theorem search149_ok {H : HL} (n : Nat) (hn : n ≤ 4611686018427387903) (g : Nat) (cap : List AV) (p : Nat → Prop) (mono : ∀ i j, i ≤ j → j < n → p i → p j)
    (hy : ∀ m, m < n → WF B tab (.func g) ([] ++ ([.int .i64 (.ofNat m)] ++ cap)) H fun r H' => H' = H ∧ ∃ b : Bool, r = .bool b ∧ (b = true ↔ p m)) :
    WF B tab (.func 149) [.int .i64 (.ofNat n), .fn (.func g) [] cap] H fun r H' => H' = H ∧ ∃ k : Nat, r = .int .i64 (.ofNat k) ∧ isLeast p n k := by
  refine WF.fnR g149 rfl ?_
  repeat' (first
    | apply WOps.nil | apply WC.seq | apply WC.reg | apply WC.skip | apply WC.ret | apply WC.exit | (apply WC.condT; rfl) | (apply WC.condF; rfl) | apply WC.block | (apply WOps.cmp; rfl; rfl; rfl; rfl; intro _ _) | (apply WOps.cmpT; rfl; rfl; rfl; rfl; intro _ _) | (apply WOps.purG; rfl; (intro _; rfl)) | (apply WC.condA; rfl; all_goals (intro hb; try subst hb)))
  refine WC.loop ?_
  obtain ⟨i, hi⟩ : ∃ i : Nat, i = 0 := ⟨0, rfl⟩
  obtain ⟨j, hj⟩ : ∃ j : Nat, j = n := ⟨n, rfl⟩
  refine WL.le (t' := [(1, .fn (.func g) [] cap), (5, .int .i64 (.ofNat i)), (6, .int .i64 (.ofNat j))]) (by subst hi; subst hj; exact Sub1.cons rfl (Sub1.cons rfl (Sub1.cons rfl Sub1.nil))) ?_
  have hij : i ≤ j := by omega
  have hjn : j ≤ n := by omega
  have hlo : ∀ m, m < i → ¬ p m := by intro m hm; omega
  have hhi : ∀ m, j ≤ m → m < n → p m := by intro m hm; omega
  clear hi hj
  induction hk : j - i using Nat.strongRecOn generalizing i j with | _ k ih => ?_
  apply WL.step
  repeat' (first
    | apply WOps.nil | apply WC.seq | apply WC.reg | apply WC.skip | apply WC.ret | apply WC.exit | (apply WC.condT; rfl) | (apply WC.condF; rfl) | apply WC.block | (apply WOps.addN; rfl; rfl; rfl; omega) | (apply WOps.cvU; rfl; rfl; omega) | (apply WOps.half; rfl; rfl; rfl) | (apply WOps.cvI; rfl; rfl; omega) | (apply WOps.cvR; rfl; rfl; rfl; exact hy _ (by have h0 := ‹true = true ↔ cmpP BinOp.lss (Int.ofNat i) (Int.ofNat j)›; simp [cmpP] at h0; omega); rintro _ ⟨bb, rfl, hbb⟩) | (apply WOps.cmp; rfl; rfl; rfl; rfl; intro _ _) | (apply WOps.cmpT; rfl; rfl; rfl; rfl; intro _ _) | (apply WOps.purG; rfl; (intro _; rfl)) | (apply WC.condA; rfl; all_goals (intro hb; try subst hb)))
  · have hlt : i < j := by have h0 := ‹true = true ↔ cmpP BinOp.lss (Int.ofNat i) (Int.ofNat j)›; simp [cmpP] at h0; omega
    have hbf : bb = false := by simpa using hb
    refine WL.le (t' := [(1, .fn (.func g) [] cap), (5, .int .i64 (.ofNat ((i + j) / 2 + 1))), (6, .int .i64 (.ofNat j))]) (Sub1.cons rfl (Sub1.cons rfl (Sub1.cons rfl Sub1.nil))) (ih _ (by omega) _ _ (by omega) (by omega) ?_ hhi rfl)
    intro m hm hp
    have h1 : bb = true := hbb.2 (mono m _ (by omega) (by omega) hp)
    rw [hbf] at h1; cases h1
  · have hlt : i < j := by have h0 := ‹true = true ↔ cmpP BinOp.lss (Int.ofNat i) (Int.ofNat j)›; simp [cmpP] at h0; omega
    have hbt : bb = true := by simpa using hb
    refine WL.le (t' := [(1, .fn (.func g) [] cap), (5, .int .i64 (.ofNat i)), (6, .int .i64 (.ofNat ((i + j) / 2)))]) (Sub1.cons rfl (Sub1.cons rfl (Sub1.cons rfl Sub1.nil))) (ih _ (by omega) _ _ (by omega) (by omega) hlo ?_ rfl)
    intro m hm hmn
    exact mono _ m hm hmn (hbb.1 hbt)
  · rename_i hge
    have hge : j ≤ i := by have h0 := hge; simp [cmpP] at h0; omega
    refine ⟨trivial, List.Sublist.refl _, [_], ⟨_, [], rfl, rfl, rfl⟩, i, rfl, by omega, hlo, fun m h1 h2 => hhi m (by omega) h2⟩

/-- An entry. -/
structure E where
  key : List Nat
  val : List Nat
  ses : Int
  locks : Int
  mke : Int
  ix : Int
def rowC (e : E) : List AV := [.str e.key, .str [], .str e.val, .int .u64 e.ses, .int .u64 e.locks, .int .u64 (.ofNat 0), .int .u64 (.ofNat 0), .int .u64 e.mke, .int .u64 e.ix]
def entC (e : E) : List AV := [.str e.key, .str e.val, .int .u64 e.ses, .int .u64 e.locks, .int .u64 e.mke, .int .u64 e.ix]
theorem rd_ld0 {t : EL} {H : HL} {x : AO} {a : AA} {v : AV} (hx : gl t x = some (.ptr a)) (hl : Ld B H a 1 [v]) : Rd B (.load false 1 x) t H v := rd_ld hx hl rfl

theorem at150_ok {H : HL} {c2 c3 a : Nat} {v : AV} {es : List E} {key : List Nat} {m : Nat} (h2 : Ld B H ⟨false, c2, 0⟩ 1 [.ptr ⟨false, a, 0⟩]) (h3 : Ld B H ⟨false, c3, 0⟩ 1 [.str key]) (ha : Ld B H ⟨false, a, 1⟩ 1 [v])
    (hs : SlIs B H v 9 (es.map rowC)) (hm : m < es.length) :
    WF B tab (.func 150) [.int .i64 (.ofNat m), .ptr ⟨false, c2, 0⟩, .ptr ⟨false, c3, 0⟩] H fun r H' => H' = H ∧ ∃ b : Bool, r = .bool b ∧ (b = true ↔ ¬ strLess (es[m]).key key = true) := by
  have hc : (es.map rowC)[m]? = some (rowC es[m]) := by rw [List.getElem?_map, List.getElem?_eq_getElem hm]; rfl
  refine WF.fnR g150 rfl ?_
  repeat' (first
    | apply WOps.nil | apply WC.seq | apply WC.reg | apply WC.skip | apply WC.ret | apply WC.dreg | apply WD.nil | (apply WOps.ldG; rfl; rfl; (first | exact ld0 rfl | exact ld1 rfl | exact ld2 rfl); rfl) | (apply WD.load; rfl; (apply at2; exact rd_ld0 rfl h2; exact same0)) | (apply WD.load; rfl; (apply at2; exact rd_ld0 rfl h3; exact same0)) | (apply WD.load; rfl; (apply at2; exact rd_ld0 rfl ha; exact same0)) | (apply WD.ixSl; rfl; rfl; rfl; exact hs; exact hc; intro ax hax) | (apply WD.load; rfl; (apply at2; exact rd_ld0 rfl (Ld.part (hax _ hs) 0 1 (by decide)); exact same0)) | (apply WOps.cmp; rfl; rfl; rfl; rfl; intro _ _) | (apply WOps.cmpT; rfl; rfl; rfl; rfl; intro _ _) | (apply WOps.purG; rfl; (intro _; rfl)) | (apply WD.load; rfl; (first | (apply at1; (first | exact rd0 rfl rfl rfl | exact rd1 rfl rfl rfl | exact rd2 rfl rfl rfl); rfl) | (apply at2; (first | exact rd0 rfl rfl rfl | exact rd1 rfl rfl rfl | exact rd2 rfl rfl rfl); repeat' (first | exact same0 | (apply same1; (first | exact rd0 rfl rfl rfl | exact rd1 rfl rfl rfl | exact rd2 rfl rfl rfl); rfl) | (apply same2; (first | exact rd0 rfl rfl rfl | exact rd1 rfl rfl rfl | exact rd2 rfl rfl rfl)))))) | (apply WD.cmp; rfl; rfl; rfl; rfl; intro _ _) | (apply WD.cmpT; rfl; rfl; rfl; rfl; intro _ _) | (apply WD.pur; rfl; (intro _; rfl)))
  refine ⟨trivial, List.Sublist.refl _, [_], ⟨_, [], rfl, rfl, rfl⟩, _, rfl, ?_⟩
  assumption

theorem less_cons {x y : Nat} {a b : List Nat} : strLess (x :: a) (y :: b) = true ↔ x < y ∨ (x = y ∧ strLess a b = true) := by
  have h1 : Nat.beq x y = true ↔ x = y := ⟨Nat.eq_of_beq_eq_true, fun e => by rw [e]; exact Nat.beq_refl y⟩
  simp only [strLess, Bool.or_eq_true, Bool.and_eq_true, h1, Nat.blt_eq]
theorem less_trans : ∀ {a b c : List Nat}, strLess a b = true → strLess b c = true → strLess a c = true := by
  intro a
  induction a with
  | nil =>
    intro b c h1 h2
    cases b with
    | nil => cases h1
    | cons y b => cases c with
      | nil => cases h2
      | cons z c => rfl
  | cons x a ih =>
    intro b c h1 h2
    cases b with
    | nil => cases h1
    | cons y b => cases c with
      | nil => cases h2
      | cons z c =>
        rw [less_cons] at h1 h2 ⊢
        rcases h1 with h1 | ⟨rfl, h1⟩
        · rcases h2 with h2 | ⟨rfl, h2⟩
          · left; omega
          · left; exact h1
        · rcases h2 with h2 | ⟨rfl, h2⟩
          · left; exact h2
          · right; exact ⟨rfl, ih h1 h2⟩
theorem less_irr : ∀ {a : List Nat}, strLess a a = false := by
  intro a
  induction a with
  | nil => rfl
  | cons x a ih =>
    rw [Bool.eq_false_iff, Ne, less_cons]
    rintro (h | ⟨_, h⟩)
    · omega
    · rw [ih] at h; cases h
theorem less_total : ∀ {a b : List Nat}, strLess a b = false → strLess b a = false → a = b := by
  intro a
  induction a with
  | nil =>
    intro b h1 h2
    cases b with
    | nil => rfl
    | cons y b => cases h1
  | cons x a ih =>
    intro b h1 h2
    cases b with
    | nil => cases h2
    | cons y b =>
      have e1 : ¬ (x < y ∨ x = y ∧ strLess a b = true) := by
        intro h; rw [Bool.eq_false_iff] at h1; apply h1
        exact less_cons.2 h
      have e2 : ¬ (y < x ∨ y = x ∧ strLess b a = true) := by
        intro h; rw [Bool.eq_false_iff] at h2; apply h2
        exact less_cons.2 h
      have hxy : x = y := by omega
      subst hxy
      have h3 : strLess a b = false := by rw [Bool.eq_false_iff]; intro h; exact e1 (.inr ⟨rfl, h⟩)
      have h4 : strLess b a = false := by rw [Bool.eq_false_iff]; intro h; exact e2 (.inr ⟨rfl, h⟩)
      rw [ih h3 h4]
/-- Keys rise. -/
def Sorted (es : List E) : Prop := ∀ (i j : Nat) (hi : i < es.length) (hj : j < es.length), i < j → strLess es[i].key es[j].key = true
def notBelow (es : List E) (key : List Nat) (m : Nat) : Prop := ∃ h : m < es.length, ¬ strLess es[m].key key = true
theorem notBelow_mono {es : List E} {key : List Nat} (so : Sorted es) : ∀ i j, i ≤ j → j < es.length → notBelow es key i → notBelow es key j := by
  rintro i j hij hj ⟨hi, h⟩
  refine ⟨hj, fun h2 => ?_⟩
  rcases Nat.lt_or_ge i j with h1 | h1
  · exact h (less_trans (so i j hi hj h1) h2)
  · obtain rfl : i = j := by omega
    exact h h2
theorem at126_ok {H : HL} {a : Nat} {v : AV} {es : List E} {key : List Nat} (ha : Ld B H ⟨false, a, 1⟩ 1 [v]) (hs : SlIs B H v 9 (es.map rowC)) (hn : es.length ≤ 4611686018427387903) (so : Sorted es) :
    WF B tab (.func 126) [.ptr ⟨false, a, 0⟩, .str key] H fun r H' => H' = H ∧ ∃ (k : Nat) (b : Bool), r = .tup [.int .i64 (.ofNat k), .bool b] ∧ isLeast (notBelow es key) es.length k ∧ (b = true ↔ ∃ h : k < es.length, es[k].key = key) := by
  refine WF.fnR g126 rfl ?_
  repeat' (first
    | apply WOps.nil | apply WC.seq | apply WC.reg | apply WC.skip | apply WC.ret | apply WC.dreg | apply WD.nil | (apply WOps.ldG; rfl; rfl; (first | exact ld0 rfl | exact ld1 rfl | exact ld2 rfl); rfl) | (apply WOps.bx; rfl; rfl; (first | rfl | ((repeat' (first | exact ac0 | apply ac1)) <;> (first | rfl | assumption))); intro _) | (apply WOps.ldG; rfl; rfl; exact ha.cons.cons; rfl) | (apply WOps.lenS; rfl; rfl; exact hs.cons.cons) | (apply WOps.cmp; rfl; rfl; rfl; rfl; intro _ _) | (apply WOps.cmpT; rfl; rfl; rfl; rfl; intro _ _) | (apply WOps.purG; rfl; (intro _; rfl)) | (apply WOps.skp; rfl) | (apply WD.load; rfl; (first | (apply at1; (first | exact rd0 rfl rfl rfl | exact rd1 rfl rfl rfl | exact rd2 rfl rfl rfl); rfl) | (apply at2; (first | exact rd0 rfl rfl rfl | exact rd1 rfl rfl rfl | exact rd2 rfl rfl rfl); repeat' (first | exact same0 | (apply same1; (first | exact rd0 rfl rfl rfl | exact rd1 rfl rfl rfl | exact rd2 rfl rfl rfl); rfl) | (apply same2; (first | exact rd0 rfl rfl rfl | exact rd1 rfl rfl rfl | exact rd2 rfl rfl rfl)))))) | (apply WD.cmp; rfl; rfl; rfl; rfl; intro _ _) | (apply WD.cmpT; rfl; rfl; rfl; rfl; intro _ _) | (apply WD.pur; rfl; (intro _; rfl)) | (apply WD.skp; rfl) | (apply WD.skpL; rfl) | (apply WD.skpX; rfl))
  rename_i c2 c3
  rw [List.length_map]
  have h2 : Ld B ((c3, .row (AV.str key).cells) :: (c2, .row (AV.ptr ⟨false, a, 0⟩).cells) :: H) ⟨false, c2, 0⟩ 1 [.ptr ⟨false, a, 0⟩] := Ld.own (Tk.tail Tk.head) rfl
  have h3 : Ld B ((c3, .row (AV.str key).cells) :: (c2, .row (AV.ptr ⟨false, a, 0⟩).cells) :: H) ⟨false, c3, 0⟩ 1 [.str key] := Ld.own Tk.head rfl
  have ha' : Ld B ((c3, .row (AV.str key).cells) :: (c2, .row (AV.ptr ⟨false, a, 0⟩).cells) :: H) ⟨false, a, 1⟩ 1 [v] := ha.cons.cons
  have hs' : SlIs B ((c3, .row (AV.str key).cells) :: (c2, .row (AV.ptr ⟨false, a, 0⟩).cells) :: H) v 9 (es.map rowC) := SlIs.cons (SlIs.cons hs)
  apply WOps.clR
  rfl
  rfl
  refine search149_ok es.length hn 150 _ (notBelow es key) (notBelow_mono so) fun m hm => WF.mono (at150_ok h2 h3 ha' hs' hm) ?_
  · rintro r _ ⟨rfl, b, rfl, hb⟩
    exact ⟨rfl, b, rfl, hb.trans ⟨fun h => ⟨hm, h⟩, fun ⟨_, h⟩ => h⟩⟩
  rintro _ ⟨k, rfl, hk⟩
  repeat' (first
    | apply WOps.nil | apply WC.seq | apply WC.reg | apply WC.skip | apply WC.ret | apply WC.dreg | apply WD.nil | (apply WOps.ldG; rfl; rfl; (first | exact ld0 rfl | exact ld1 rfl | exact ld2 rfl); rfl) | (apply WOps.bx; rfl; rfl; (first | rfl | ((repeat' (first | exact ac0 | apply ac1)) <;> (first | rfl | assumption))); intro _) | (apply WD.load; rfl; (apply at2; exact rd_ld0 rfl h2; exact same0)) | (apply WD.load; rfl; (apply at2; exact rd_ld0 rfl h3; exact same0)) | (apply WD.load; rfl; (apply at2; exact rd_ld0 rfl ha'; exact same0)) | (apply WD.lenS; rfl; rfl; exact hs') | (apply WOps.cmp; rfl; rfl; rfl; rfl; intro _ _) | (apply WOps.cmpT; rfl; rfl; rfl; rfl; intro _ _) | (apply WOps.purG; rfl; (intro _; rfl)) | (apply WOps.skp; rfl) | (apply WD.load; rfl; (first | (apply at1; (first | exact rd0 rfl rfl rfl | exact rd1 rfl rfl rfl | exact rd2 rfl rfl rfl); rfl) | (apply at2; (first | exact rd0 rfl rfl rfl | exact rd1 rfl rfl rfl | exact rd2 rfl rfl rfl); repeat' (first | exact same0 | (apply same1; (first | exact rd0 rfl rfl rfl | exact rd1 rfl rfl rfl | exact rd2 rfl rfl rfl); rfl) | (apply same2; (first | exact rd0 rfl rfl rfl | exact rd1 rfl rfl rfl | exact rd2 rfl rfl rfl)))))) | (apply WD.cmp; rfl; rfl; rfl; rfl; intro _ _) | (apply WD.cmpT; rfl; rfl; rfl; rfl; intro _ _) | (apply WD.pur; rfl; (intro _; rfl)) | (apply WD.skp; rfl) | (apply WD.skpL; rfl) | (apply WD.skpX; rfl) | (apply WOps.ask; rfl; all_goals (intro hb; first | subst hb | fail_if_success (cases hb))) | (apply WD.ask; rfl; all_goals (intro hb; first | subst hb | fail_if_success (cases hb))))
  · have hlt : k < es.length := by
      have h0 := ‹true = true ↔ cmpP BinOp.lss (Int.ofNat k) (Int.ofNat (List.map rowC es).length)›
      rw [List.length_map] at h0
      simp [cmpP] at h0; omega
    have hc : (es.map rowC)[k]? = some (rowC es[k]) := by rw [List.getElem?_map, List.getElem?_eq_getElem hlt]; rfl
    repeat' (first
      | apply WOps.nil | apply WC.seq | apply WC.reg | apply WC.skip | apply WC.ret | apply WC.dreg | apply WD.nil | (apply WOps.ldG; rfl; rfl; (first | exact ld0 rfl | exact ld1 rfl | exact ld2 rfl); rfl) | (apply WOps.bx; rfl; rfl; (first | rfl | ((repeat' (first | exact ac0 | apply ac1)) <;> (first | rfl | assumption))); intro _) | (apply WD.ixSl; rfl; rfl; rfl; exact hs'; exact hc; intro ax hax) | (apply WD.load; rfl; (apply at2; exact rd_ld0 rfl (Ld.part (hax _ hs') 0 1 (by decide)); exact same0)) | (apply WD.load; rfl; (apply at2; exact rd_ld0 rfl h3; exact same0)) | (apply WOps.cmp; rfl; rfl; rfl; rfl; intro _ _) | (apply WOps.cmpT; rfl; rfl; rfl; rfl; intro _ _) | (apply WOps.purG; rfl; (intro _; rfl)) | (apply WOps.skp; rfl) | (apply WD.load; rfl; (first | (apply at1; (first | exact rd0 rfl rfl rfl | exact rd1 rfl rfl rfl | exact rd2 rfl rfl rfl); rfl) | (apply at2; (first | exact rd0 rfl rfl rfl | exact rd1 rfl rfl rfl | exact rd2 rfl rfl rfl); repeat' (first | exact same0 | (apply same1; (first | exact rd0 rfl rfl rfl | exact rd1 rfl rfl rfl | exact rd2 rfl rfl rfl); rfl) | (apply same2; (first | exact rd0 rfl rfl rfl | exact rd1 rfl rfl rfl | exact rd2 rfl rfl rfl)))))) | (apply WD.cmp; rfl; rfl; rfl; rfl; intro _ _) | (apply WD.cmpT; rfl; rfl; rfl; rfl; intro _ _) | (apply WD.pur; rfl; (intro _; rfl)) | (apply WD.skp; rfl) | (apply WD.skpL; rfl) | (apply WD.skpX; rfl) | (apply WOps.ask; rfl; all_goals (intro hb; first | subst hb | fail_if_success (cases hb))) | (apply WD.ask; rfl; all_goals (intro hb; first | subst hb | fail_if_success (cases hb))))
    rename_i b hb
    refine ⟨trivial, (List.sublist_cons_self _ _).trans (List.sublist_cons_self _ _), [_, _], ⟨_, _, rfl, rfl, _, _, rfl, rfl, rfl⟩, k, _, rfl, hk, ?_⟩
    simp only [cmpS] at hb
    rw [hb]
    exact ⟨fun h => ⟨hlt, h⟩, fun ⟨_, h⟩ => h⟩
  · have hge : ¬ k < es.length := by
      have h0 := ‹false = true ↔ cmpP BinOp.lss (Int.ofNat k) (Int.ofNat (List.map rowC es).length)›
      rw [List.length_map] at h0
      simp [cmpP] at h0; omega
    refine ⟨trivial, (List.sublist_cons_self _ _).trans (List.sublist_cons_self _ _), [_, _], ⟨_, _, rfl, rfl, _, _, rfl, rfl, rfl⟩, k, _, rfl, hk, ?_⟩
    simp [hge]
theorem none115_ok {H : HL} {a most : Nat} (h0 : Ld B H ⟨false, a, 0⟩ 1 [.int .i64 (.ofNat most)]) (hm : 1 ≤ most) : WF B tab (.func 115) [.ptr ⟨false, a, 0⟩] H fun r H' => H' = H ∧ r = .bool false := by
  refine WF.fnR g115 rfl ?_
  repeat' (first
    | apply WOps.nil | apply WC.seq | apply WC.reg | apply WC.skip | apply WC.ret | (apply WOps.ldG; rfl; rfl; (first | exact ld0 rfl | exact ld1 rfl | exact ld2 rfl); rfl) | (apply WOps.ldG; rfl; rfl; exact h0; rfl) | (apply WOps.cmp; rfl; rfl; rfl; rfl; intro _ _) | (apply WOps.cmpT; rfl; rfl; rfl; rfl; intro _ _) | (apply WOps.eqB; rfl; rfl; rfl; intro _ _) | (apply WOps.purG; rfl; (intro _; rfl)) | (apply WOps.skp; rfl) | (apply WOps.ask; rfl; all_goals (intro hb; first | subst hb | fail_if_success (cases hb))))
  rename_i b hb
  refine ⟨trivial, List.Sublist.refl _, [_], ⟨_, [], rfl, rfl, rfl⟩, ?_⟩
  have : b = false := by
    rw [Bool.eq_false_iff]
    intro h
    have := hb.1 h
    simp [cmpP] at this
    omega
  rw [this]
  rfl
theorem none66_ok {H : HL} {k a : Nat} (h0 : Ld B H ⟨false, k, 0⟩ 1 [.ptr ⟨false, a, 0⟩]) : WF B tab (.func 66) [.ptr ⟨false, k, 0⟩] H fun r H' => H' = H ∧ r = .bool false := by
  refine WF.fnR g66 rfl ?_
  repeat' (first
    | apply WOps.nil | apply WC.seq | apply WC.reg | apply WC.skip | apply WC.ret | (apply WOps.ldG; rfl; rfl; (first | exact ld0 rfl | exact ld1 rfl | exact ld2 rfl); rfl) | (apply WOps.ldG; rfl; rfl; exact h0; rfl) | (apply WOps.eqB; rfl; rfl; rfl; intro _ _) | (apply WOps.purG; rfl; (intro _; rfl)) | (apply WOps.skp; rfl) | (apply WOps.ask; rfl; all_goals (intro hb; first | subst hb | fail_if_success (cases hb))))
  exact ⟨trivial, List.Sublist.refl _, [_], ⟨_, [], rfl, rfl, rfl⟩, rfl⟩
theorem told68_ok {H : HL} (e : E) : WF B tab (.func 68) [.agg (rowC e)] H fun r H' => H' = H ∧ r = .agg (entC e) := by
  refine WF.fnR g68 rfl ?_
  repeat' (first
    | apply WOps.nil | apply WC.seq | apply WC.reg | apply WC.skip | apply WC.ret | apply WC.dreg | apply WD.nil | (apply WOps.ldG; rfl; rfl; (first | exact ld0 rfl | exact ld1 rfl | exact ld2 rfl); rfl) | (apply WOps.st; rfl; rfl; (first | exact tk0 | exact tk1 | exact tk2); rfl; (first | rfl | ((repeat' (first | exact ac0 | apply ac1)) <;> (first | rfl | assumption))); rfl) | (apply WOps.alc; rfl; intro _) | (apply WOps.bx; rfl; rfl; (first | rfl | ((repeat' (first | exact ac0 | apply ac1)) <;> (first | rfl | assumption))); intro _) | (apply WD.st; rfl; rfl; rfl; (first | exact tk0 | exact tk1 | exact tk2); rfl; (first | rfl | ((repeat' (first | exact ac0 | apply ac1)) <;> (first | rfl | assumption))); rfl) | (apply WD.alc; rfl; rfl; intro _) | (apply WOps.purG; rfl; (intro _; rfl)) | (apply WD.load; rfl; (first | (apply at1; (first | exact rd0 rfl rfl rfl | exact rd1 rfl rfl rfl | exact rd2 rfl rfl rfl); rfl) | (apply at2; (first | exact rd0 rfl rfl rfl | exact rd1 rfl rfl rfl | exact rd2 rfl rfl rfl); repeat' (first | exact same0 | (apply same1; (first | exact rd0 rfl rfl rfl | exact rd1 rfl rfl rfl | exact rd2 rfl rfl rfl); rfl) | (apply same2; (first | exact rd0 rfl rfl rfl | exact rd1 rfl rfl rfl | exact rd2 rfl rfl rfl)))))) | (apply WD.pur; rfl; (intro _; rfl)))
  exact ⟨trivial, ((List.sublist_cons_self _ _).trans (List.sublist_cons_self _ _)).trans (List.sublist_cons_self _ _), [_], ⟨_, _, rfl, ⟨_, _, rfl, Ld.own Tk.head rfl, rfl⟩, rfl⟩, rfl⟩
def e0 : E := ⟨[], [], .ofNat 0, .ofNat 0, .ofNat 0, .ofNat 0⟩
theorem get82_ok {H : HL} {a most : Nat} {v : AV} {es : List E} {key : List Nat} (h0 : Ld B H ⟨false, a, 0⟩ 1 [.int .i64 (.ofNat most)]) (hm : 1 ≤ most) (ha : Ld B H ⟨false, a, 1⟩ 1 [v]) (hs : SlIs B H v 9 (es.map rowC)) (hn : es.length ≤ 4611686018427387903) (so : Sorted es) :
    WF B tab (.func 82) [.ptr ⟨false, a, 0⟩, .str key] H fun r H' => H' = H ∧ ∃ k : Nat, isLeast (notBelow es key) es.length k ∧
      ((∃ h : k < es.length, es[k].key = key ∧ r = .tup [.agg (rowC es[k]), .bool true]) ∨ ((¬ ∃ h : k < es.length, es[k].key = key) ∧ r = .tup [.agg (rowC e0), .bool false])) := by
  refine WF.fnR g82 rfl ?_
  repeat' (first
    | apply WOps.nil | apply WC.seq | apply WC.reg | apply WC.skip | apply WC.ret | (apply WC.condT; rfl) | (apply WC.condF; rfl) | (apply WOps.ldG; rfl; rfl; (first | exact ld0 rfl | exact ld1 rfl | exact ld2 rfl); rfl) | (apply WOps.st; rfl; rfl; (first | exact tk0 | exact tk1 | exact tk2); rfl; (first | rfl | ((repeat' (first | exact ac0 | apply ac1)) <;> (first | rfl | assumption))); rfl) | (apply WOps.alc; rfl; intro _) | (apply WOps.clR; rfl; rfl; exact none115_ok h0.cons hm; rintro _ rfl) | (apply WOps.clR; rfl; rfl; exact at126_ok ha.cons (SlIs.cons hs) hn so; rintro _ ⟨k, b, rfl, hk, hkb⟩) | (apply WOps.ldG; rfl; rfl; exact ha.cons; rfl) | (apply WOps.purG; rfl; (intro _; rfl)) | (apply WC.condA; rfl; all_goals (intro hb; try subst hb)))
  · refine ⟨trivial, List.sublist_cons_self _ _, [_, _], ⟨_, _, rfl, ⟨_, _, rfl, Ld.own Tk.head rfl, rfl⟩, _, _, rfl, rfl, rfl⟩, k, hk, .inr ⟨?_, rfl⟩⟩
    intro h
    simp [hkb.2 h] at hb
  · have hbt : b = true := by simpa using hb
    obtain ⟨hlt, hkey⟩ := hkb.1 hbt
    have hc : (es.map rowC)[k]? = some (rowC es[k]) := by rw [List.getElem?_map, List.getElem?_eq_getElem hlt]; rfl
    repeat' (first
      | apply WOps.nil | apply WC.seq | apply WC.reg | apply WC.skip | apply WC.ret | (apply WC.condT; rfl) | (apply WC.condF; rfl) | (apply WOps.ldG; rfl; rfl; (first | exact ld0 rfl | exact ld1 rfl | exact ld2 rfl); rfl) | (apply WOps.st; rfl; rfl; (first | exact tk0 | exact tk1 | exact tk2); rfl; (first | rfl | ((repeat' (first | exact ac0 | apply ac1)) <;> (first | rfl | assumption))); rfl) | (apply WOps.alc; rfl; intro _) | (apply WOps.ixSl; rfl; rfl; rfl; exact SlIs.cons hs; exact hc; intro ax hax) | (apply WOps.ldG; rfl; rfl; exact hax; rfl) | (apply WOps.purG; rfl; (intro _; rfl)) | (apply WC.condA; rfl; all_goals (intro hb; try subst hb)))
    exact ⟨trivial, List.sublist_cons_self _ _, [_, _], ⟨_, _, rfl, ⟨_, _, rfl, Ld.own Tk.head rfl, rfl⟩, _, _, rfl, rfl, rfl⟩, k, hk, .inl ⟨hlt, hkey, rfl⟩⟩
theorem get28_ok {H : HL} {kp a most : Nat} {v : AV} {es : List E} {key : List Nat} (hp : Ld B H ⟨false, kp, 0⟩ 1 [.ptr ⟨false, a, 0⟩]) (h0 : Ld B H ⟨false, a, 0⟩ 1 [.int .i64 (.ofNat most)]) (hm : 1 ≤ most) (ha : Ld B H ⟨false, a, 1⟩ 1 [v]) (hs : SlIs B H v 9 (es.map rowC)) (hn : es.length ≤ 4611686018427387903) (so : Sorted es) :
    WF B tab (.func 28) [.ptr ⟨false, kp, 0⟩, .str key] H fun r H' => H' = H ∧ ∃ k : Nat, isLeast (notBelow es key) es.length k ∧
      ((∃ h : k < es.length, es[k].key = key ∧ r = .tup [.agg (entC es[k]), .bool true]) ∨ ((¬ ∃ h : k < es.length, es[k].key = key) ∧ r = .tup [.agg (entC e0), .bool false])) := by
  refine WF.fnR g28 rfl ?_
  repeat' (first
    | apply WOps.nil | apply WC.seq | apply WC.reg | apply WC.skip | apply WC.ret | (apply WC.condT; rfl) | (apply WC.condF; rfl) | (apply WOps.ldG; rfl; rfl; (first | exact ld0 rfl | exact ld1 rfl | exact ld2 rfl); rfl) | (apply WOps.st; rfl; rfl; (first | exact tk0 | exact tk1 | exact tk2); rfl; (first | rfl | ((repeat' (first | exact ac0 | apply ac1)) <;> (first | rfl | assumption))); rfl) | (apply WOps.alc; rfl; intro _) | (apply WOps.clR; rfl; rfl; exact none66_ok hp.cons; rintro _ rfl) | (apply WOps.clR; rfl; rfl; exact get82_ok h0.cons hm ha.cons (SlIs.cons hs) hn so; rintro _ ⟨k, hk, hr⟩; rcases hr with ⟨hlt, hkey, rfl⟩ | ⟨hno, rfl⟩) | (apply WOps.ldG; rfl; rfl; exact hp.cons; rfl) | (apply WOps.clR; rfl; rfl; exact told68_ok _; rintro _ rfl) | (apply WOps.purG; rfl; (intro _; rfl)) | (apply WC.condA; rfl; all_goals (intro hb; try subst hb)))
  · exact ⟨trivial, (List.sublist_cons_self _ _).trans (List.sublist_cons_self _ _), [_, _], ⟨_, _, rfl, ⟨_, _, rfl, Ld.own Tk.head rfl, rfl⟩, _, _, rfl, rfl, rfl⟩, k, hk, .inl ⟨hlt, hkey, rfl⟩⟩
  · exact ⟨trivial, (List.sublist_cons_self _ _).trans (List.sublist_cons_self _ _), [_, _], ⟨_, _, rfl, ⟨_, _, rfl, Ld.own Tk.head rfl, rfl⟩, _, _, rfl, rfl, rfl⟩, k, hk, .inr ⟨hno, rfl⟩⟩
def keyP (s : List Nat) : Prop := 1 ≤ s.length ∧ s.length ≤ 32 ∧ PartsOk s
theorem keyP_chr {s : List Nat} : (1 ≤ s.length ∧ s.length ≤ 32 ∧ ∀ i, chrAt s i) ↔ keyP s := by
  unfold keyP
  rw [parts_key]
  constructor
  · rintro ⟨h1, h2, h3⟩
    exact ⟨h1, h2, by intro e; simp [e] at h1, h3⟩
  · rintro ⟨h1, h2, _, h3⟩
    exact ⟨h1, h2, h3⟩
theorem wrong64_ok {H : HL} (key val : List Nat) : WF B tab (.func 64) [.str key, .str val] H fun r H' => H' = H ∧
    ((¬ keyP key ∧ r = .int .i64 (.ofNat 10)) ∨ (keyP key ∧ ¬ val.length ≤ 64 ∧ r = .int .i64 (.ofNat 3)) ∨ (keyP key ∧ val.length ≤ 64 ∧ r = .int .i64 (.ofNat 0))) := by
  refine WF.fnR g64 rfl ?_
  repeat' (first
    | apply WOps.nil | apply WC.seq | apply WC.reg | apply WC.skip | apply WC.ret | (apply WC.condT; rfl) | (apply WC.condF; rfl) | (apply WOps.clR; rfl; rfl; exact key116_ok _; rintro _ ⟨b, rfl, hkb⟩) | (apply WOps.lenT; rfl; rfl) | (apply WOps.cmp; rfl; rfl; rfl; rfl; intro _ _) | (apply WOps.cmpT; rfl; rfl; rfl; rfl; intro _ _) | (apply WOps.purG; rfl; (intro _; rfl)) | (apply WC.condA; rfl; all_goals (intro hb; try subst hb)))
  · refine ⟨trivial, List.Sublist.refl _, [_], ⟨_, [], rfl, rfl, rfl⟩, .inl ⟨?_, rfl⟩⟩
    intro h
    simp [hkb.2 (keyP_chr.2 h)] at hb
  · have h1 : keyP key := keyP_chr.1 (hkb.1 (by simpa using hb))
    have h2 := ‹true = true ↔ cmpP BinOp.gtr (Int.ofNat val.length) (Int.ofNat 64)›
    simp [cmpP] at h2
    exact ⟨trivial, List.Sublist.refl _, [_], ⟨_, [], rfl, rfl, rfl⟩, .inr (.inl ⟨h1, by omega, rfl⟩)⟩
  · have h1 : keyP key := keyP_chr.1 (hkb.1 (by simpa using hb))
    have h2 := ‹false = true ↔ cmpP BinOp.gtr (Int.ofNat val.length) (Int.ofNat 64)›
    simp [cmpP] at h2
    exact ⟨trivial, List.Sublist.refl _, [_], ⟨_, [], rfl, rfl, rfl⟩, .inr (.inr ⟨h1, by omega, rfl⟩)⟩
def fitsP (e : E) (behind : List Nat) (last : Int) : Prop := keyP e.key ∧ strLess behind e.key = true ∧ e.val.length ≤ 64 ∧ e.mke ≤ e.ix ∧ e.ix ≤ last
theorem gtr_iff {a b : List Nat} : cmpS .gtr a b ↔ strLess b a = true := by
  simp only [cmpS]
  constructor
  · intro h
    by_cases h2 : strLess b a = true
    · exact h2
    · exact absurd (by
        by_cases h3 : strLess a b = true
        · exact .inl h3
        · exact .inr (less_total (by simpa using h3) (by simpa using h2))) h
  · rintro h (h2 | rfl)
    · have := less_trans h h2
      rw [less_irr] at this; cases this
    · rw [less_irr] at h; cases h
theorem fits61_ok {H : HL} (e : E) (behind : List Nat) (last : Int) : WF B tab (.func 61) [.agg (entC e), .str behind, .int .u64 last] H fun r H' => H' = H ∧ ∃ b : Bool, r = .bool b ∧ (b = true ↔ fitsP e behind last) := by
  refine WF.fnR g61 rfl ?_
  repeat' (first
    | apply WOps.nil | apply WC.seq | apply WC.reg | apply WC.skip | apply WC.ret | (apply WOps.ldG; rfl; rfl; (first | exact ld0 rfl | exact ld1 rfl | exact ld2 rfl); rfl) | (apply WOps.bx; rfl; rfl; (first | rfl | ((repeat' (first | exact ac0 | apply ac1)) <;> (first | rfl | assumption))); intro _) | (apply WOps.clR; rfl; rfl; exact key113_ok _; rintro _ ⟨kb, rfl, hkb⟩) | (apply WOps.lenT; rfl; rfl) | (apply WOps.cmp; rfl; rfl; rfl; rfl; intro _ _) | (apply WOps.cmpT; rfl; rfl; rfl; rfl; intro _ _) | (apply WOps.purG; rfl; (intro _; rfl)) | (apply WOps.skp; rfl) | (apply WOps.ask; rfl; all_goals (intro hb; first | subst hb | fail_if_success (cases hb))))
  all_goals refine ⟨trivial, List.sublist_cons_self _ _, [_], ⟨_, [], rfl, rfl, rfl⟩, _, rfl, ?_⟩
  all_goals
    simp only [gtr_iff, cmpP, Int.ofNat_eq_natCast, true_iff, Bool.false_eq_true, false_iff] at *
    simp only [fitsP, keyP]
  · constructor
    · intro h
      exact ⟨hkb, by assumption, by omega, by assumption, by simp_all⟩
    · rintro ⟨_, _, _, _, h⟩
      simp_all
  · rintro ⟨_, _, _, h, _⟩; exact absurd h (by assumption)
  · rintro ⟨_, _, h, _, _⟩; omega
  · rintro ⟨_, h, _, _, _⟩; exact absurd h (by assumption)
  · rintro ⟨h, _⟩; exact absurd h hkb
theorem get29_ok {H : HL} {w : Nat} {v : AV} {es : List E} {key : List Nat} (hL : Ld B H ⟨false, w, 1⟩ 1 [v]) (hs : SlIs B H v 6 (es.map entC)) (hn : es.length ≤ 4611686018427387903) :
    WF B tab (.func 29) [.ptr ⟨false, w, 0⟩, .str key] H fun r H' => H' = H ∧
      ((∃ (k : Nat) (h : k < es.length), es[k].key = key ∧ r = .tup [.agg (entC es[k]), .bool true]) ∨ ((∀ (j : Nat) (h : j < es.length), es[j].key ≠ key) ∧ r = .tup [.agg (entC e0), .bool false])) := by
  refine WF.fnR g29 rfl ?_
  repeat' (first
    | apply WOps.nil | apply WC.seq | apply WC.reg | apply WC.skip | apply WC.ret | apply WC.exit | (apply WC.condT; rfl) | (apply WC.condF; rfl) | apply WC.block | (apply WOps.ldG; rfl; rfl; (first | exact ld0 rfl | exact ld1 rfl | exact ld2 rfl); rfl) | (apply WOps.st; rfl; rfl; (first | exact tk0 | exact tk1 | exact tk2); rfl; (first | rfl | ((repeat' (first | exact ac0 | apply ac1)) <;> (first | rfl | assumption))); rfl) | (apply WOps.alc; rfl; intro _) | (apply WOps.cmp; rfl; rfl; rfl; rfl; intro _ _) | (apply WOps.cmpT; rfl; rfl; rfl; rfl; intro _ _) | (apply WOps.purG; rfl; (intro _; rfl)) | (apply WC.condA; rfl; all_goals (intro hb; try subst hb)))
  rename_i id
  refine WC.loop ?_
  obtain ⟨i, hi⟩ : ∃ i : Nat, i = 0 := ⟨0, rfl⟩
  refine WL.le (t' := [(0, .ptr ⟨false, w, 0⟩), (1, .str key), (4, .ptr ⟨false, id, 0⟩), (6, .int .i64 (.ofNat i))]) (by subst hi; exact Sub1.cons rfl (Sub1.cons rfl (Sub1.cons rfl (Sub1.cons rfl Sub1.nil)))) ?_
  have hle : i ≤ es.length := by omega
  have hpre : ∀ (j : Nat) (h : j < es.length), j < i → es[j].key ≠ key := by intro j h hj; omega
  clear hi
  induction hk : es.length - i using Nat.strongRecOn generalizing i with | _ k ih => ?_
  apply WL.step
  repeat' (first
    | apply WOps.nil | apply WC.seq | apply WC.reg | apply WC.skip | apply WC.ret | apply WC.exit | (apply WC.condT; rfl) | (apply WC.condF; rfl) | apply WC.block | (apply WOps.ldG; rfl; rfl; (first | exact ld0 rfl | exact ld1 rfl | exact ld2 rfl); rfl) | (apply WOps.st; rfl; rfl; (first | exact tk0 | exact tk1 | exact tk2); rfl; (first | rfl | ((repeat' (first | exact ac0 | apply ac1)) <;> (first | rfl | assumption))); rfl) | (apply WOps.alc; rfl; intro _) | (apply WOps.ldG; rfl; rfl; exact hL.cons; rfl) | (apply WOps.lenS; rfl; rfl; exact SlIs.cons hs) | (apply WOps.cmp; rfl; rfl; rfl; rfl; intro _ _) | (apply WOps.cmpT; rfl; rfl; rfl; rfl; intro _ _) | (apply WOps.purG; rfl; (intro _; rfl)) | (apply WC.condA; rfl; all_goals (intro hb; try subst hb)))
  · have hlt : i < es.length := by
      have h0 := ‹true = true ↔ cmpP BinOp.lss (Int.ofNat i) (Int.ofNat (List.map entC es).length)›
      rw [List.length_map] at h0
      simp [cmpP] at h0; omega
    have hc : (es.map entC)[i]? = some (entC es[i]) := by rw [List.getElem?_map, List.getElem?_eq_getElem hlt]; rfl
    repeat' (first
      | apply WOps.nil | apply WC.seq | apply WC.reg | apply WC.skip | apply WC.ret | apply WC.exit | (apply WC.condT; rfl) | (apply WC.condF; rfl) | apply WC.block | (apply WOps.ldG; rfl; rfl; (first | exact ld0 rfl | exact ld1 rfl | exact ld2 rfl); rfl) | (apply WOps.st; rfl; rfl; (first | exact tk0 | exact tk1 | exact tk2); rfl; (first | rfl | ((repeat' (first | exact ac0 | apply ac1)) <;> (first | rfl | assumption))); rfl) | (apply WOps.alc; rfl; intro _) | (apply WOps.ixSl; rfl; rfl; rfl; exact SlIs.cons hs; exact hc; intro ax hax) | (apply WOps.ldG; rfl; rfl; exact hL.cons; rfl) | (apply WOps.ldG; rfl; rfl; exact Ld.part hax 0 1 (by decide); rfl) | (apply WOps.ldG; rfl; rfl; exact hax; rfl) | (apply WOps.addN; rfl; rfl; rfl; omega) | (apply WOps.cmp; rfl; rfl; rfl; rfl; intro _ _) | (apply WOps.cmpT; rfl; rfl; rfl; rfl; intro _ _) | (apply WOps.purG; rfl; (intro _; rfl)) | (apply WC.condA; rfl; all_goals (intro hb; try subst hb)))
    · have hkey := ‹true = true ↔ cmpS BinOp.eql es[i].key key›
      simp only [cmpS, true_iff] at hkey
      exact ⟨trivial, List.sublist_cons_self _ _, [_, _], ⟨_, _, rfl, ⟨_, _, rfl, Ld.own Tk.head rfl, rfl⟩, _, _, rfl, rfl, rfl⟩, .inl ⟨i, hlt, hkey, rfl⟩⟩
    · have hkey := ‹false = true ↔ cmpS BinOp.eql es[i].key key›
      simp only [cmpS, Bool.false_eq_true, false_iff] at hkey
      refine WL.le (t' := [(0, .ptr ⟨false, w, 0⟩), (1, .str key), (4, .ptr ⟨false, id, 0⟩), (6, .int .i64 (.ofNat (i + 1)))]) (Sub1.cons rfl (Sub1.cons rfl (Sub1.cons rfl (Sub1.cons rfl Sub1.nil)))) (ih _ (by omega) (i + 1) (by omega) ?_ rfl)
      intro j h hj
      rcases Nat.lt_or_ge j i with h1 | h1
      · exact hpre j h h1
      · obtain rfl : j = i := by omega
        exact hkey
  · have hge : ¬ i < es.length := by
      have h0 := ‹false = true ↔ cmpP BinOp.lss (Int.ofNat i) (Int.ofNat (List.map entC es).length)›
      rw [List.length_map] at h0
      simp [cmpP] at h0; omega
    exact ⟨trivial, List.sublist_cons_self _ _, [_, _], ⟨_, _, rfl, ⟨_, _, rfl, Ld.own Tk.head rfl, rfl⟩, _, _, rfl, rfl, rfl⟩, .inr ⟨fun j h => hpre j h (by omega), rfl⟩⟩

theorem same22_ok {H : HL} {v w : AV} {xs ys : List (List AV)} (hv : SlIs B H v 6 xs) (hw : SlIs B H w 6 ys) (tx : ∀ (i : Nat) c, xs[i]? = some c → AllT [.str, .str, .int .u64, .int .u64, .int .u64, .int .u64] c) (ty : ∀ (i : Nat) c, ys[i]? = some c → AllT [.str, .str, .int .u64, .int .u64, .int .u64, .int .u64] c) (lx : xs.length ≤ 9223372036854775807) :
    WF B tab (.func 22) [v, w] H fun r H' => H' = H ∧ ∃ b : Bool, r = .bool b ∧ (b = true ↔ xs = ys) := by
  refine WF.fnR g22 rfl ?_
  repeat' (first
    | apply WOps.nil | apply WC.seq | apply WC.reg | apply WC.skip | apply WC.ret | apply WC.exit | (apply WC.condT; rfl) | (apply WC.condF; rfl) | apply WC.block | apply WC.dreg | apply WD.nil | (apply WOps.ldG; rfl; rfl; (first | exact ld0 rfl | exact ld1 rfl | exact ld2 rfl); rfl) | (apply WOps.lenS; rfl; rfl; exact hv) | (apply WOps.lenS; rfl; rfl; exact hw) | (apply WOps.cmp; rfl; rfl; rfl; rfl; intro _ _) | (apply WOps.cmpT; rfl; rfl; rfl; rfl; intro _ _) | (apply WOps.eqB; rfl; rfl; rfl; intro _ _) | (apply WOps.purG; rfl; (intro _; rfl)) | (apply WD.load; rfl; (first | (apply at1; (first | exact rd0 rfl rfl rfl | exact rd1 rfl rfl rfl | exact rd2 rfl rfl rfl); rfl) | (apply at2; (first | exact rd0 rfl rfl rfl | exact rd1 rfl rfl rfl | exact rd2 rfl rfl rfl); repeat' (first | exact same0 | (apply same1; (first | exact rd0 rfl rfl rfl | exact rd1 rfl rfl rfl | exact rd2 rfl rfl rfl); rfl) | (apply same2; (first | exact rd0 rfl rfl rfl | exact rd1 rfl rfl rfl | exact rd2 rfl rfl rfl)))))) | (apply WD.cmp; rfl; rfl; rfl; rfl; intro _ _) | (apply WD.cmpT; rfl; rfl; rfl; rfl; intro _ _) | (apply WD.eqB; rfl; rfl; rfl; intro _ _) | (apply WD.pur; rfl; (intro _; rfl)) | (apply WC.condA; rfl; all_goals (intro hb; try subst hb)))
  · rename_i h
    simp [cmpP] at h
    refine ⟨trivial, List.Sublist.refl _, [_], ⟨_, [], rfl, rfl, rfl⟩, false, rfl, ?_⟩
    simp only [Bool.false_eq_true, false_iff]
    exact fun e => h (by rw [e])
  · rename_i h
    have hl : xs.length = ys.length := by have h0 := h; simp [cmpP] at h0; omega
    refine WC.loop ?_
    obtain ⟨i, hi⟩ : ∃ i : Nat, i = 0 := ⟨0, rfl⟩
    refine WL.le (t' := [(0, v), (1, w), (5, .int .i64 (.ofNat i))]) (by subst hi; exact Sub1.cons rfl (Sub1.cons rfl (Sub1.cons rfl Sub1.nil))) ?_
    have hle : i ≤ xs.length := by omega
    have hpre : ∀ (j : Nat), j < i → xs[j]? = ys[j]? := by intro j hj; omega
    clear hi
    induction hk : xs.length - i using Nat.strongRecOn generalizing i with | _ k ih => ?_
    apply WL.step
    repeat' (first
      | apply WOps.nil | apply WC.seq | apply WC.reg | apply WC.skip | apply WC.ret | apply WC.exit | (apply WC.condT; rfl) | (apply WC.condF; rfl) | apply WC.block | apply WC.dreg | apply WD.nil | (apply WOps.ldG; rfl; rfl; (first | exact ld0 rfl | exact ld1 rfl | exact ld2 rfl); rfl) | (apply WOps.lenS; rfl; rfl; exact hv) | (apply WOps.lenS; rfl; rfl; exact hw) | (apply WOps.cmp; rfl; rfl; rfl; rfl; intro _ _) | (apply WOps.cmpT; rfl; rfl; rfl; rfl; intro _ _) | (apply WOps.eqB; rfl; rfl; rfl; intro _ _) | (apply WOps.purG; rfl; (intro _; rfl)) | (apply WD.load; rfl; (first | (apply at1; (first | exact rd0 rfl rfl rfl | exact rd1 rfl rfl rfl | exact rd2 rfl rfl rfl); rfl) | (apply at2; (first | exact rd0 rfl rfl rfl | exact rd1 rfl rfl rfl | exact rd2 rfl rfl rfl); repeat' (first | exact same0 | (apply same1; (first | exact rd0 rfl rfl rfl | exact rd1 rfl rfl rfl | exact rd2 rfl rfl rfl); rfl) | (apply same2; (first | exact rd0 rfl rfl rfl | exact rd1 rfl rfl rfl | exact rd2 rfl rfl rfl)))))) | (apply WD.cmp; rfl; rfl; rfl; rfl; intro _ _) | (apply WD.cmpT; rfl; rfl; rfl; rfl; intro _ _) | (apply WD.eqB; rfl; rfl; rfl; intro _ _) | (apply WD.pur; rfl; (intro _; rfl)) | (apply WC.condA; rfl; all_goals (intro hb; try subst hb)))
    · rename_i hlt
      have hlt : i < xs.length := by have h0 := hlt; simp [cmpP] at h0; omega
      obtain ⟨c, hc⟩ : ∃ c, xs[i]? = some c := ⟨xs[i], List.getElem?_eq_getElem hlt⟩
      obtain ⟨d, hd⟩ : ∃ d, ys[i]? = some d := ⟨ys[i]'(by omega), List.getElem?_eq_getElem _⟩
      have tc := tx i c hc
      have td := ty i d hd
      repeat' (first
        | apply WOps.nil | apply WC.seq | apply WC.reg | apply WC.skip | apply WC.ret | apply WC.exit | (apply WC.condT; rfl) | (apply WC.condF; rfl) | apply WC.block | apply WC.dreg | apply WD.nil | (apply WOps.ldG; rfl; rfl; (first | exact ld0 rfl | exact ld1 rfl | exact ld2 rfl); rfl) | (apply WD.ixSl; rfl; rfl; rfl; exact hv; exact hc; intro a1 l1) | (apply WD.ixSl; rfl; rfl; rfl; exact hw; exact hd; intro a2 l2) | (apply WD.load; rfl; (first | (apply at1; exact rd_ld rfl (l1 _ hv) rfl; rfl) | (apply at2; exact rd_ld rfl (l1 _ hv) rfl; repeat' (first | exact same0 | (apply same1; exact rd_ld rfl (l1 _ hv) rfl; rfl) | (apply same2; exact rd_ld rfl (l1 _ hv) rfl))))) | (apply WD.load; rfl; (first | (apply at1; exact rd_ld rfl (l2 _ hw) rfl; rfl) | (apply at2; exact rd_ld rfl (l2 _ hw) rfl; repeat' (first | exact same0 | (apply same1; exact rd_ld rfl (l2 _ hw) rfl; rfl) | (apply same2; exact rd_ld rfl (l2 _ hw) rfl))))) | (apply WD.eqF [.str, .str, .int .u64, .int .u64, .int .u64, .int .u64]; rfl; rfl; rfl; rfl; rfl; exact tc; exact td; intro b hb) | (apply WOps.addN; rfl; rfl; rfl; omega) | (apply WOps.cmp; rfl; rfl; rfl; rfl; intro _ _) | (apply WOps.cmpT; rfl; rfl; rfl; rfl; intro _ _) | (apply WOps.eqB; rfl; rfl; rfl; intro _ _) | (apply WOps.purG; rfl; (intro _; rfl)) | (apply WD.load; rfl; (first | (apply at1; (first | exact rd0 rfl rfl rfl | exact rd1 rfl rfl rfl | exact rd2 rfl rfl rfl); rfl) | (apply at2; (first | exact rd0 rfl rfl rfl | exact rd1 rfl rfl rfl | exact rd2 rfl rfl rfl); repeat' (first | exact same0 | (apply same1; (first | exact rd0 rfl rfl rfl | exact rd1 rfl rfl rfl | exact rd2 rfl rfl rfl); rfl) | (apply same2; (first | exact rd0 rfl rfl rfl | exact rd1 rfl rfl rfl | exact rd2 rfl rfl rfl)))))) | (apply WD.cmp; rfl; rfl; rfl; rfl; intro _ _) | (apply WD.cmpT; rfl; rfl; rfl; rfl; intro _ _) | (apply WD.eqB; rfl; rfl; rfl; intro _ _) | (apply WD.pur; rfl; (intro _; rfl)) | (apply WC.condA; rfl; all_goals (intro hb; try subst hb)))
      · rename_i hb
        refine ⟨trivial, List.Sublist.refl _, [_], ⟨_, [], rfl, rfl, rfl⟩, false, rfl, ?_⟩
        simp only [Bool.false_eq_true, false_iff]
        refine ne_of hc hd ?_
        simpa [cmpS] using hb
      · rename_i hb
        have hcd : xs[i]? = ys[i]? := by
          rw [hc, hd]
          simpa [cmpS] using hb
        refine WL.le (t' := [(0, v), (1, w), (5, .int .i64 (.ofNat (i + 1)))]) (Sub1.cons rfl (Sub1.cons rfl (Sub1.cons rfl Sub1.nil))) (ih _ (by omega) (i + 1) (by omega) ?_ rfl)
        intro j hj
        rcases Nat.lt_or_ge j i with h1 | h1
        · exact hpre j h1
        · obtain rfl : j = i := by omega
          exact hcd
    · rename_i hge
      have hge : xs.length ≤ i := by have h0 := hge; simp [cmpP] at h0; omega
      exact ⟨trivial, List.Sublist.refl _, [_], ⟨_, [], rfl, rfl, rfl⟩, true, rfl, by simp [ext_of hl hge hpre]⟩

theorem same56_ok {H : HL} {v w : AV} {xs ys : List (List AV)} (hv : SlIs B H v 1 xs) (hw : SlIs B H w 1 ys) (tx : ∀ (i : Nat) c, xs[i]? = some c → AllT [CT.str] c) (ty : ∀ (i : Nat) c, ys[i]? = some c → AllT [CT.str] c) (lx : xs.length ≤ 9223372036854775807) :
    WF B tab (.func 56) [v, w] H fun r H' => H' = H ∧ ∃ b : Bool, r = .bool b ∧ (b = true ↔ xs = ys) := by
  refine WF.fnR g56 rfl ?_
  repeat' (first
    | apply WOps.nil | apply WC.seq | apply WC.reg | apply WC.skip | apply WC.ret | apply WC.exit | (apply WC.condT; rfl) | (apply WC.condF; rfl) | apply WC.block | apply WC.dreg | apply WD.nil | (apply WOps.ldG; rfl; rfl; (first | exact ld0 rfl | exact ld1 rfl | exact ld2 rfl); rfl) | (apply WOps.lenS; rfl; rfl; exact hv) | (apply WOps.lenS; rfl; rfl; exact hw) | (apply WOps.cmp; rfl; rfl; rfl; rfl; intro _ _) | (apply WOps.cmpT; rfl; rfl; rfl; rfl; intro _ _) | (apply WOps.purG; rfl; (intro _; rfl)) | (apply WD.load; rfl; (first | (apply at1; (first | exact rd0 rfl rfl rfl | exact rd1 rfl rfl rfl | exact rd2 rfl rfl rfl); rfl) | (apply at2; (first | exact rd0 rfl rfl rfl | exact rd1 rfl rfl rfl | exact rd2 rfl rfl rfl); repeat' (first | exact same0 | (apply same1; (first | exact rd0 rfl rfl rfl | exact rd1 rfl rfl rfl | exact rd2 rfl rfl rfl); rfl) | (apply same2; (first | exact rd0 rfl rfl rfl | exact rd1 rfl rfl rfl | exact rd2 rfl rfl rfl)))))) | (apply WD.cmp; rfl; rfl; rfl; rfl; intro _ _) | (apply WD.cmpT; rfl; rfl; rfl; rfl; intro _ _) | (apply WD.pur; rfl; (intro _; rfl)) | (apply WC.condA; rfl; all_goals (intro hb; try subst hb)))
  · rename_i h
    simp [cmpP] at h
    refine ⟨trivial, List.Sublist.refl _, [_], ⟨_, [], rfl, rfl, rfl⟩, false, rfl, ?_⟩
    simp only [Bool.false_eq_true, false_iff]
    exact fun e => h (by rw [e])
  · rename_i h
    have hl : xs.length = ys.length := by have h0 := h; simp [cmpP] at h0; omega
    refine WC.loop ?_
    obtain ⟨i, hi⟩ : ∃ i : Nat, i = 0 := ⟨0, rfl⟩
    refine WL.le (t' := [(0, v), (1, w), (5, .int .i64 (.ofNat i))]) (by subst hi; exact Sub1.cons rfl (Sub1.cons rfl (Sub1.cons rfl Sub1.nil))) ?_
    have hle : i ≤ xs.length := by omega
    have hpre : ∀ (j : Nat), j < i → xs[j]? = ys[j]? := by intro j hj; omega
    clear hi
    induction hk : xs.length - i using Nat.strongRecOn generalizing i with | _ k ih => ?_
    apply WL.step
    repeat' (first
      | apply WOps.nil | apply WC.seq | apply WC.reg | apply WC.skip | apply WC.ret | apply WC.exit | (apply WC.condT; rfl) | (apply WC.condF; rfl) | apply WC.block | apply WC.dreg | apply WD.nil | (apply WOps.ldG; rfl; rfl; (first | exact ld0 rfl | exact ld1 rfl | exact ld2 rfl); rfl) | (apply WOps.lenS; rfl; rfl; exact hv) | (apply WOps.lenS; rfl; rfl; exact hw) | (apply WOps.cmp; rfl; rfl; rfl; rfl; intro _ _) | (apply WOps.cmpT; rfl; rfl; rfl; rfl; intro _ _) | (apply WOps.purG; rfl; (intro _; rfl)) | (apply WD.load; rfl; (first | (apply at1; (first | exact rd0 rfl rfl rfl | exact rd1 rfl rfl rfl | exact rd2 rfl rfl rfl); rfl) | (apply at2; (first | exact rd0 rfl rfl rfl | exact rd1 rfl rfl rfl | exact rd2 rfl rfl rfl); repeat' (first | exact same0 | (apply same1; (first | exact rd0 rfl rfl rfl | exact rd1 rfl rfl rfl | exact rd2 rfl rfl rfl); rfl) | (apply same2; (first | exact rd0 rfl rfl rfl | exact rd1 rfl rfl rfl | exact rd2 rfl rfl rfl)))))) | (apply WD.cmp; rfl; rfl; rfl; rfl; intro _ _) | (apply WD.cmpT; rfl; rfl; rfl; rfl; intro _ _) | (apply WD.pur; rfl; (intro _; rfl)) | (apply WC.condA; rfl; all_goals (intro hb; try subst hb)))
    · rename_i hlt
      have hlt : i < xs.length := by have h0 := hlt; simp [cmpP] at h0; omega
      obtain ⟨c, hc⟩ : ∃ c, xs[i]? = some c := ⟨xs[i], List.getElem?_eq_getElem hlt⟩
      obtain ⟨d, hd⟩ : ∃ d, ys[i]? = some d := ⟨ys[i]'(by omega), List.getElem?_eq_getElem _⟩
      obtain ⟨_, _, rfl, ⟨s1, rfl⟩, rfl⟩ := tx i c hc
      obtain ⟨_, _, rfl, ⟨s2, rfl⟩, rfl⟩ := ty i d hd
      repeat' (first
        | apply WOps.nil | apply WC.seq | apply WC.reg | apply WC.skip | apply WC.ret | apply WC.exit | (apply WC.condT; rfl) | (apply WC.condF; rfl) | apply WC.block | apply WC.dreg | apply WD.nil | (apply WOps.ldG; rfl; rfl; (first | exact ld0 rfl | exact ld1 rfl | exact ld2 rfl); rfl) | (apply WD.ixSl; rfl; rfl; rfl; exact hv; exact hc; intro a1 l1) | (apply WD.ixSl; rfl; rfl; rfl; exact hw; exact hd; intro a2 l2) | (apply WD.load; rfl; (first | (apply at1; exact rd_ld rfl (l1 _ hv) rfl; rfl) | (apply at2; exact rd_ld rfl (l1 _ hv) rfl; repeat' (first | exact same0 | (apply same1; exact rd_ld rfl (l1 _ hv) rfl; rfl) | (apply same2; exact rd_ld rfl (l1 _ hv) rfl))))) | (apply WD.load; rfl; (first | (apply at1; exact rd_ld rfl (l2 _ hw) rfl; rfl) | (apply at2; exact rd_ld rfl (l2 _ hw) rfl; repeat' (first | exact same0 | (apply same1; exact rd_ld rfl (l2 _ hw) rfl; rfl) | (apply same2; exact rd_ld rfl (l2 _ hw) rfl))))) | (apply WOps.addN; rfl; rfl; rfl; omega) | (apply WOps.cmp; rfl; rfl; rfl; rfl; intro _ _) | (apply WOps.cmpT; rfl; rfl; rfl; rfl; intro _ _) | (apply WOps.purG; rfl; (intro _; rfl)) | (apply WD.load; rfl; (first | (apply at1; (first | exact rd0 rfl rfl rfl | exact rd1 rfl rfl rfl | exact rd2 rfl rfl rfl); rfl) | (apply at2; (first | exact rd0 rfl rfl rfl | exact rd1 rfl rfl rfl | exact rd2 rfl rfl rfl); repeat' (first | exact same0 | (apply same1; (first | exact rd0 rfl rfl rfl | exact rd1 rfl rfl rfl | exact rd2 rfl rfl rfl); rfl) | (apply same2; (first | exact rd0 rfl rfl rfl | exact rd1 rfl rfl rfl | exact rd2 rfl rfl rfl)))))) | (apply WD.cmp; rfl; rfl; rfl; rfl; intro _ _) | (apply WD.cmpT; rfl; rfl; rfl; rfl; intro _ _) | (apply WD.pur; rfl; (intro _; rfl)) | (apply WC.condA; rfl; all_goals (intro hb; try subst hb)))
      · rename_i hb
        refine ⟨trivial, List.Sublist.refl _, [_], ⟨_, [], rfl, rfl, rfl⟩, false, rfl, ?_⟩
        simp only [Bool.false_eq_true, false_iff]
        refine ne_of hc hd ?_
        simpa [cmpS] using hb
      · rename_i hb
        have hcd : xs[i]? = ys[i]? := by
          rw [hc, hd]
          simpa [cmpS] using hb
        refine WL.le (t' := [(0, v), (1, w), (5, .int .i64 (.ofNat (i + 1)))]) (Sub1.cons rfl (Sub1.cons rfl (Sub1.cons rfl Sub1.nil))) (ih _ (by omega) (i + 1) (by omega) ?_ rfl)
        intro j hj
        rcases Nat.lt_or_ge j i with h1 | h1
        · exact hpre j h1
        · obtain rfl : j = i := by omega
          exact hcd
    · rename_i hge
      have hge : xs.length ≤ i := by have h0 := hge; simp [cmpP] at h0; omega
      exact ⟨trivial, List.Sublist.refl _, [_], ⟨_, [], rfl, rfl, rfl⟩, true, rfl, by simp [ext_of hl hge hpre]⟩
/-- How many there may be. -/
def mostOf (m : Int) : Nat := if m < 1 then 1 else if 64 < m then 64 else m.toNat
theorem mostOf_ge (m : Int) : 1 ≤ mostOf m := by unfold mostOf; split <;> (try split) <;> omega
theorem mostOf_le (m : Int) : mostOf m ≤ 64 := by unfold mostOf; split <;> (try split) <;> omega
theorem new70_ok {H : HL} (m : Int) : WF B tab (.func 70) [.int .i64 m] H fun r H' => ∃ a, r = .ptr ⟨false, a, 0⟩ ∧ H' = (a, .row [.int .i64 (.ofNat (mostOf m)), .nilsl, .int .u64 (.ofNat 0)]) :: H := by
  refine WF.fn g70 rfl ?_
  repeat' (first
    | apply WOps.nil | apply WC.seq | apply WC.reg | apply WC.skip | apply WC.ret | (apply WOps.bx; rfl; rfl; (first | rfl | ((repeat' (first | exact ac0 | apply ac1)) <;> (first | rfl | assumption))); intro _) | (apply WOps.purG; rfl; (intro _; rfl)))
  refine ⟨trivial, [_], ⟨_, [], rfl, rfl, rfl⟩, _, rfl, ?_⟩
  have : (if Int.ofNat 64 < if Int.ofNat 1 > m then Int.ofNat 1 else m then Int.ofNat 64 else if Int.ofNat 1 > m then Int.ofNat 1 else m) = Int.ofNat (mostOf m) := by
    unfold mostOf
    simp only [Int.ofNat_eq_natCast, gt_iff_lt]
    split <;> split <;> (try split) <;> (try split) <;> omega
  rw [this]
  rfl
theorem new26_ok {H : HL} (m : Int) : WF B tab (.func 26) [.int .i64 m] H fun r H' => ∃ a, r = .ptr ⟨false, a, 0⟩ ∧ H' = (a, .row [.int .i64 (.ofNat (mostOf m)), .nilsl, .int .u64 (.ofNat 0)]) :: H := by
  refine WF.fn g26 rfl ?_
  repeat' (first
    | apply WOps.nil | apply WC.seq | apply WC.reg | apply WC.skip | apply WC.ret | (apply WC.condT; rfl) | (apply WC.condF; rfl) | (apply WOps.bx; rfl; rfl; (first | rfl | ((repeat' (first | exact ac0 | apply ac1)) <;> (first | rfl | assumption))); intro _) | (apply WOps.cmp; rfl; rfl; rfl; rfl; intro _ _) | (apply WOps.cmpT; rfl; rfl; rfl; rfl; intro _ _) | (apply WOps.purG; rfl; (intro _; rfl)) | (apply WC.condA; rfl; all_goals (intro hb; try subst hb)))
  all_goals refine ⟨trivial, [_], ⟨_, [], rfl, rfl, rfl⟩, _, rfl, ?_⟩
  all_goals simp only [cmpP, true_iff, Bool.false_eq_true, false_iff, Int.ofNat_eq_natCast] at *
  · omega
  · have : mostOf m = 1 := by unfold mostOf; split <;> (try split) <;> omega
    rw [this]; rfl
  · have : mostOf m = 64 := by unfold mostOf; split <;> (try split) <;> omega
    rw [this]; rfl
  · have : (mostOf m : Int) = m := by unfold mostOf; split <;> (try split) <;> omega
    rw [this]; rfl
theorem new25_ok {H : HL} (m : Int) : WF B tab (.func 25) [.int .i64 m] H fun r H' => ∃ k a, r = .ptr ⟨false, k, 0⟩ ∧ H' = (k, .row [.ptr ⟨false, a, 0⟩]) :: (a, .row [.int .i64 (.ofNat (mostOf m)), .nilsl, .int .u64 (.ofNat 0)]) :: H := by
  refine WF.fn g25 rfl ?_
  repeat' (first
    | apply WOps.nil | apply WC.seq | apply WC.reg | apply WC.skip | apply WC.ret | (apply WOps.bx; rfl; rfl; (first | rfl | ((repeat' (first | exact ac0 | apply ac1)) <;> (first | rfl | assumption))); intro _) | (apply WOps.clA; rfl; rfl; exact new70_ok _; rintro _ _ ⟨a, rfl, rfl⟩) | (apply WOps.purG; rfl; (intro _; rfl)))
  exact ⟨trivial, [_], ⟨_, [], rfl, rfl, rfl⟩, _, _, rfl, rfl⟩
def maxI (a b : Int) : Int := if b > a then b else a
theorem raise63_ok {H : HL} {a most : Nat} {v : AV} {last ix : Int} (hm : 1 ≤ most) : WF B tab (.func 63) [.ptr ⟨false, a, 0⟩, .int .u64 ix] ((a, .row [.int .i64 (.ofNat most), v, .int .u64 last]) :: H) fun r H' => H' = (a, .row [.int .i64 (.ofNat most), v, .int .u64 (maxI last ix)]) :: H := by
  refine WF.fn g63 rfl ?_
  repeat' (first
    | apply WOps.nil | apply WC.seq | apply WC.reg | apply WC.skip | apply WC.ret | (apply WC.condT; rfl) | (apply WC.condF; rfl) | (apply WOps.ldG; rfl; rfl; (first | exact ld0 rfl | exact ld1 rfl | exact ld2 rfl); rfl) | (apply WOps.st; rfl; rfl; (first | exact tk0 | exact tk1 | exact tk2); rfl; (first | rfl | ((repeat' (first | exact ac0 | apply ac1)) <;> (first | rfl | assumption))); rfl) | (apply WOps.clR; rfl; rfl; exact none115_ok (Ld.own Tk.head rfl) hm; rintro _ rfl) | (apply WOps.purG; rfl; (intro _; rfl)) | (apply WC.condA; rfl; all_goals (intro hb; try subst hb)))
  exact ⟨trivial, [], rfl, rfl⟩
theorem raise131_ok {H : HL} {a : Nat} {m v : AV} {last ix : Int} : WF B tab (.func 131) [.ptr ⟨false, a, 0⟩, .int .u64 ix] ((a, .row [m, v, .int .u64 last]) :: H) fun r H' => H' = (a, .row [m, v, .int .u64 (maxI last ix)]) :: H := by
  refine WF.fn g131 rfl ?_
  repeat' (first
    | apply WOps.nil | apply WC.seq | apply WC.reg | apply WC.skip | apply WC.ret | (apply WC.condT; rfl) | (apply WC.condF; rfl) | (apply WOps.ldG; rfl; rfl; (first | exact ld0 rfl | exact ld1 rfl | exact ld2 rfl); rfl) | (apply WOps.st; rfl; rfl; (first | exact tk0 | exact tk1 | exact tk2); rfl; (first | rfl | ((repeat' (first | exact ac0 | apply ac1)) <;> (first | rfl | assumption))); rfl) | (apply WOps.cmp; rfl; rfl; rfl; rfl; intro _ _) | (apply WOps.cmpT; rfl; rfl; rfl; rfl; intro _ _) | (apply WOps.purG; rfl; (intro _; rfl)) | (apply WC.condA; rfl; all_goals (intro hb; try subst hb)))
  · have h := ‹true = true ↔ cmpP BinOp.gtr ix last›
    simp only [cmpP, true_iff] at h
    have e : maxI last ix = ix := by unfold maxI; rw [if_pos h]
    exact ⟨trivial, [], rfl, by rw [e]⟩
  · have h := ‹false = true ↔ cmpP BinOp.gtr ix last›
    simp only [cmpP, Bool.false_eq_true, false_iff] at h
    have e : maxI last ix = last := by unfold maxI; rw [if_neg h]
    exact ⟨trivial, [], rfl, by rw [e]⟩
/-- The last index of a table. -/
theorem last69_ok {H : HL} {a most : Nat} {last : Int} (h0 : Ld B H ⟨false, a, 0⟩ 1 [.int .i64 (.ofNat most)]) (hm : 1 ≤ most) (h2 : Ld B H ⟨false, a, 2⟩ 1 [.int .u64 last]) : WF B tab (.func 69) [.ptr ⟨false, a, 0⟩] H fun r H' => H' = H ∧ r = .int .u64 last := by
  refine WF.fnR g69 rfl ?_
  repeat' (first
    | apply WOps.nil | apply WC.seq | apply WC.reg | apply WC.skip | apply WC.ret | (apply WC.condT; rfl) | (apply WC.condF; rfl) | (apply WOps.ldG; rfl; rfl; (first | exact ld0 rfl | exact ld1 rfl | exact ld2 rfl); rfl) | (apply WOps.clR; rfl; rfl; exact none115_ok h0 hm; rintro _ rfl) | (apply WOps.ldG; rfl; rfl; exact h2; rfl) | (apply WOps.purG; rfl; (intro _; rfl)) | (apply WC.condA; rfl; all_goals (intro hb; try subst hb)))
  exact ⟨trivial, List.Sublist.refl _, [_], ⟨_, [], rfl, rfl, rfl⟩, rfl⟩
theorem last24_ok {H : HL} {kp a most : Nat} {last : Int} (hp : Ld B H ⟨false, kp, 0⟩ 1 [.ptr ⟨false, a, 0⟩]) (h0 : Ld B H ⟨false, a, 0⟩ 1 [.int .i64 (.ofNat most)]) (hm : 1 ≤ most) (h2 : Ld B H ⟨false, a, 2⟩ 1 [.int .u64 last]) : WF B tab (.func 24) [.ptr ⟨false, kp, 0⟩] H fun r H' => H' = H ∧ r = .int .u64 last := by
  refine WF.fnR g24 rfl ?_
  repeat' (first
    | apply WOps.nil | apply WC.seq | apply WC.reg | apply WC.skip | apply WC.ret | (apply WC.condT; rfl) | (apply WC.condF; rfl) | (apply WOps.ldG; rfl; rfl; (first | exact ld0 rfl | exact ld1 rfl | exact ld2 rfl); rfl) | (apply WOps.clR; rfl; rfl; exact none66_ok hp; rintro _ rfl) | (apply WOps.clR; rfl; rfl; exact last69_ok h0 hm h2; rintro _ rfl) | (apply WOps.ldG; rfl; rfl; exact hp; rfl) | (apply WOps.purG; rfl; (intro _; rfl)) | (apply WC.condA; rfl; all_goals (intro hb; try subst hb)))
  exact ⟨trivial, List.Sublist.refl _, [_], ⟨_, [], rfl, rfl, rfl⟩, rfl⟩
end Go.Proofs.Ytlfhlkndccjejaa.KV
