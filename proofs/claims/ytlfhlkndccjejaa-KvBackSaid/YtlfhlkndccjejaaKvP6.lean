/- What the functions do, shown by the logic. -/
import Derived.Test.YtlfhlkndccjejaaKvP5
set_option linter.unusedSimpArgs false
set_option linter.unusedVariables false
set_option maxRecDepth 20000
namespace Go.Proofs.Ytlfhlkndccjejaa.KV
open Go.Proofs.Ytlfhlkndccjejaa.Abs
def okE (last : Int) (e : E) : Prop := keyP e.key ∧ e.val.length ≤ 64 ∧ e.mke ≤ e.ix ∧ 1 ≤ e.ix ∧ e.ix ≤ last
structure Good (n : Int) (s : S) : Prop where
  ent : ∀ e, e ∈ s.es → okE s.last e
  lo : 0 ≤ s.last
  hi : s.last ≤ n
theorem okE.up {l m : Int} {e : E} (h : okE l e) (k : l ≤ m) : okE m e := ⟨h.1, h.2.1, h.2.2.1, h.2.2.2.1, by have := h.2.2.2.2; omega⟩
theorem maxI_up {a b : Int} (h : a < b) : maxI a b = b := by unfold maxI; rw [if_pos h]
theorem mem_put2 {es : List E} {e x : E} (h : x ∈ putE es e) : x ∈ es ∨ x = e ∨ ∃ y, y ∈ es ∧ x = { e with mke := y.mke } := by
  induction es with
  | nil => simp only [putE, List.mem_singleton] at h; exact .inr (.inl h)
  | cons y r ih =>
    simp only [putE] at h
    split at h
    · rcases List.mem_cons.1 h with rfl | h
      · exact .inr (.inr ⟨y, by simp, rfl⟩)
      · exact .inl (by simp [h])
    · split at h
      · rcases List.mem_cons.1 h with rfl | h
        · exact .inr (.inl rfl)
        · exact .inl h
      · rcases List.mem_cons.1 h with rfl | h
        · exact .inl (by simp)
        · rcases ih h with h | h | ⟨z, hz, h⟩
          · exact .inl (by simp [h])
          · exact .inr (.inl h)
          · exact .inr (.inr ⟨z, by simp [hz], h⟩)
theorem Good.step {n : Int} {s : S} (g : Good n s) : Good (n + 1) s := ⟨g.ent, g.lo, by have := g.hi; omega⟩
theorem Good.put {most : Nat} {n : Int} {s : S} {e : E} (g : Good n s) (hk : keyP e.key) (hv : e.val.length ≤ 64) : Good (n + 1) (putS most s e (n + 1)).1 := by
  unfold putS
  split
  · exact g.step
  · have hl := g.lo
    have hh := g.hi
    have hm : maxI s.last (n + 1) = n + 1 := maxI_up (by omega)
    refine ⟨?_, ?_, ?_⟩
    · intro x hx
      show okE (maxI s.last (n + 1)) x
      rw [hm]
      rcases mem_put2 hx with h | rfl | ⟨y, hy, rfl⟩
      · exact (g.ent x h).up (by omega)
      · exact ⟨hk, hv, Int.le_refl _, show 1 ≤ n + 1 by omega, Int.le_refl _⟩
      · have := g.ent y hy
        exact ⟨hk, hv, show y.mke ≤ n + 1 by have h1 := this.2.2.1; have h2 := this.2.2.2.2; omega, show 1 ≤ n + 1 by omega, Int.le_refl _⟩
    · show 0 ≤ maxI s.last (n + 1); omega
    · show maxI s.last (n + 1) ≤ n + 1; omega
theorem Good.drop {n : Int} {s : S} {key : List Nat} (g : Good n s) : Good (n + 1) (dropS s key (n + 1)) := by
  unfold dropS
  split
  · exact g.step
  · have hl := g.lo
    have hh := g.hi
    have hm : maxI s.last (n + 1) = n + 1 := maxI_up (by omega)
    refine ⟨?_, ?_, ?_⟩
    · intro x hx
      show okE (maxI s.last (n + 1)) x
      rw [hm]
      exact (g.ent x (mem_drop hx)).up (by omega)
    · show 0 ≤ maxI s.last (n + 1); omega
    · show maxI s.last (n + 1) ≤ n + 1; omega
theorem Good.free {n : Int} {s : S} {ses : Int} (g : Good n s) : Good (n + 1) (freeS s ses (n + 1)) := by
  unfold freeS
  split
  · exact g.step
  · have hl := g.lo
    have hh := g.hi
    unfold freeI
    rw [List.take_length, List.drop_length, List.append_nil]
    have hlast : s.last ≤ lastF ses (n + 1) s.last s.es ∧ lastF ses (n + 1) s.last s.es ≤ n + 1 := by
      unfold lastF
      split
      · omega
      · rw [maxI_up (by omega)]; omega
    refine ⟨?_, ?_, ?_⟩
    · intro x hx
      obtain ⟨y, hy, rfl⟩ := List.mem_map.1 hx
      have hg := g.ent y hy
      show okE (lastF ses (n + 1) s.last s.es) (fr ses (n + 1) y)
      unfold fr
      split
      · rename_i hs
        have hne : held ses s.es ≠ [] := by
          intro h0
          have : y ∈ held ses s.es := List.mem_filter.2 ⟨hy, by simpa using hs⟩
          rw [h0] at this; cases this
        have hl2 : lastF ses (n + 1) s.last s.es = n + 1 := by
          unfold lastF
          rw [if_neg (by simpa using hne), maxI_up (by omega)]
        rw [hl2]
        exact ⟨hg.1, hg.2.1, show y.mke ≤ n + 1 by have h1 := hg.2.2.1; have h2 := hg.2.2.2.2; omega, show 1 ≤ n + 1 by omega, Int.le_refl _⟩
      · exact hg.up hlast.1
    · show 0 ≤ lastF ses (n + 1) s.last s.es; omega
    · exact hlast.2
theorem Good.apply {most : Nat} {n : Int} {s : S} {key : List Nat} {asks : List (E → Bool → Nat)} {d : Option (E → E)} (g : Good n s)
    (hd : ∀ f e, d = some f → firstBad asks (lookE s.es key) (isE s.es key) = 0 → (f e).key = e.key ∧ (f e).val.length ≤ 64) : Good (n + 1) (applyS most s key asks d (n + 1)).1 := by
  unfold applyS
  split
  · rename_i hk
    split
    · rename_i hb
      cases d with
      | none => exact g.drop
      | some f =>
        obtain ⟨h1, h2⟩ := hd f { lookE s.es key with key := key } rfl hb
        exact g.put (by rw [h1]; exact hk) h2
    · exact g.step
  · exact g.step
theorem short_of {v : List Nat} {l : List (E → Bool → Nat)} {e : E} {b : Bool} (h : firstBad (shortF v :: l) e b = 0) : v.length ≤ 64 := by
  by_cases hv : v.length ≤ 64
  · exact hv
  · rw [short_bad hv] at h; cases h
theorem Good.stepS {most : Nat} {n : Int} {s : S} {t : St} (g : Good n s) (ht : t.ix = n + 1) : Good (n + 1) (stepS most s t) := by
  unfold KV.stepS
  rw [ht]
  split
  · exact g.apply fun f e hf hb => by cases hf; exact ⟨rfl, short_of hb⟩
  split
  · exact g.apply fun f e hf hb => by cases hf; exact ⟨rfl, short_of hb⟩
  split
  · exact g.apply fun f e hf hb => by cases hf
  split
  · exact g.apply fun f e hf hb => by cases hf
  split
  · exact g.apply fun f e hf hb => by cases hf; exact ⟨rfl, short_of hb⟩
  split
  · exact g.apply fun f e hf hb => by cases hf; exact ⟨rfl, short_of hb⟩
  split
  · exact g.free
  · exact g.step
theorem good0 : Good 0 s0 := ⟨(fun e h => by cases h), Int.le_refl _, Int.le_refl _⟩
theorem Good.may {n : Int} {s : S} {most : Nat} (g : Good n s) (hI : Inv most s) : mayP most s.es s.last := by
  refine ⟨hI.2, ?_⟩
  intro j hj _
  have hg := g.ent _ (List.getElem_mem hj)
  refine ⟨hg.1, ?_, hg.2.1, hg.2.2.1, hg.2.2.2.2⟩
  cases j with
  | zero =>
    have := hg.1.1
    show strLess [] _ = true
    cases hk : s.es[0].key with
    | nil => rw [hk] at this; simp at this
    | cons x r => rfl
  | succ j =>
    rw [beh_succ (by omega)]
    exact sorted_of hI.1 j (j + 1) (by omega) hj (by omega)

/-! ### Two that compare -/
theorem look_ix {n : Int} {s : S} {key : List Nat} (g : Good n s) : (isE s.es key = true ↔ ¬ (lookE s.es key).ix = 0) ∧ (lookE s.es key).ix ≤ n := by
  unfold isE lookE
  have h1 := g.hi
  have h2 := g.lo
  cases hf : findE s.es key with
  | none => simp [e0]; omega
  | some x =>
    have := g.ent x (find_key hf).1
    have h3 := this.2.2.2.1
    have h4 := this.2.2.2.2
    simp
    omega
theorem cas_first {most : Nat} {n : Int} {s : S} {key a : List Nat} (g : Good n s) (hI : Inv most s) :
    let r := casS most s key a (lookE s.es key).ix (n + 1)
    (r.2 = 10 ∨ r.2 = 3 ∨ r.2 = 5) ∨ (r.2 = 0 ∧ keyP key ∧ ∃ x, findE r.1.es key = some x ∧ x.val = a ∧ x.ix = n + 1) := by
  simp only
  by_cases hk : keyP key
  · by_cases ha : a.length ≤ 64
    · have hb : firstBad [shortF a, turnF (lookE s.es key).ix] (lookE s.es key) (isE s.es key) = 0 := by
        rw [short_good ha, fb1]
        unfold turnF
        rw [if_pos ⟨(look_ix g).1, rfl⟩]
      unfold casS
      rw [app_put hk hb]
      unfold putS
      split
      · exact .inl (.inr (.inr rfl))
      · rename_i hnf
        right
        refine ⟨rfl, hk, ?_⟩
        have := find_put (e := atIx (valD a { lookE s.es key with key := key }) (n + 1)) hI.1
        refine ⟨_, this, ?_, ?_⟩
        · cases findE s.es (atIx (valD a { lookE s.es key with key := key }) (n + 1)).key <;> rfl
        · cases findE s.es (atIx (valD a { lookE s.es key with key := key }) (n + 1)).key <;> rfl
    · left
      unfold casS
      rw [app_bad hk (short_bad ha) (by decide)]
      exact .inr (.inl rfl)
  · left
    unfold casS
    rw [app_no hk]
    exact .inl rfl
theorem cas_second {most : Nat} {n old ix2 : Int} {s : S} {key b : List Nat} {x : E} (hk : keyP key) (hf : findE s.es key = some x) (hx : x.ix = n + 1) (ho : old ≤ n) : casS most s key b old ix2 = (s, 21) ∨ casS most s key b old ix2 = (s, 3) := by
  unfold casS
  by_cases hb : b.length ≤ 64
  · left
    have hl : lookE s.es key = x := by simp [lookE, hf]
    have hbad : firstBad [shortF b, turnF old] (lookE s.es key) (isE s.es key) = 21 := by
      rw [short_good hb, fb1, hl]
      unfold turnF
      rw [if_neg]
      rintro ⟨_, h⟩
      omega
    rw [app_bad hk hbad (by decide)]
  · right
    rw [app_bad hk (short_bad hb) (by decide)]

/-! ### Who holds -/
def HeldBy (s : S) (key : List Nat) (mine : Int) : Prop := ∃ x, findE s.es key = some x ∧ x.ses = mine ∧ x.locks = 1
theorem held_put {most : Nat} {s : S} {key : List Nat} {mine ix : Int} {e : E} (hr : Rise s.es) (h : HeldBy s key mine) (he : e.key = key → e.ses = mine ∧ e.locks = 1) : HeldBy (putS most s e ix).1 key mine := by
  unfold putS
  split
  · exact h
  · by_cases hk : e.key = key
    · obtain ⟨h1, h2⟩ := he hk
      have := find_put (e := atIx e ix) hr
      refine ⟨_, by rw [show (atIx e ix).key = key from hk] at this; exact this, ?_, ?_⟩
      · cases findE s.es key <;> exact h1
      · cases findE s.es key <;> exact h2
    · obtain ⟨x, h1, h2⟩ := h
      exact ⟨x, by show findE (putE s.es (atIx e ix)) key = some x; rw [find_put_ne (e := atIx e ix) hk]; exact h1, h2⟩
theorem held_drop {s : S} {key k2 : List Nat} {mine ix : Int} (h : HeldBy s key mine) (hk : ¬ k2 = key) : HeldBy (dropS s k2 ix) key mine := by
  unfold dropS
  split
  · exact h
  · obtain ⟨x, h1, h2⟩ := h
    exact ⟨x, by show findE (dropE s.es k2) key = some x; rw [find_drop_ne hk]; exact h1, h2⟩
theorem find_map {es : List E} {f : E → E} {key : List Nat} (hf : ∀ e, (f e).key = e.key) : findE (es.map f) key = (findE es key).map f := by
  induction es with
  | nil => rfl
  | cons y r ih =>
    simp only [List.map_cons, findE, hf]
    split
    · rfl
    · exact ih
theorem held_free {s : S} {key : List Nat} {mine ses ix : Int} (h : HeldBy s key mine) (hne : ¬ ses = mine) : HeldBy (freeS s ses ix) key mine := by
  unfold freeS
  split
  · exact h
  · obtain ⟨x, h1, h2, h3⟩ := h
    refine ⟨x, ?_, h2, h3⟩
    simp only [freeI]
    rw [List.take_length, List.drop_length, List.append_nil, find_map (fun _ => fr_key), h1]
    simp only [Option.map_some, fr, if_neg (fun h => hne (h.symm.trans h2) : ¬ x.ses = ses)]
theorem held_apply {most : Nat} {s : S} {key k2 : List Nat} {mine ix : Int} {asks : List (E → Bool → Nat)} {d : Option (E → E)} (hr : Rise s.es) (h : HeldBy s key mine)
    (hd : k2 = key → ∀ x, findE s.es key = some x → x.ses = mine → x.locks = 1 → firstBad asks x true = 0 → match d with | none => False | some f => (f { x with key := k2 }).ses = mine ∧ (f { x with key := k2 }).locks = 1)
    (hk2 : ∀ f e, d = some f → (f e).key = e.key) : HeldBy (applyS most s k2 asks d ix).1 key mine := by
  unfold applyS
  split
  · split
    · rename_i hb
      by_cases hk : k2 = key
      · have h0 := h
        obtain ⟨x, h1, h2, h3⟩ := h0
        have hl : lookE s.es k2 = x := by rw [hk]; simp [lookE, h1]
        have hi : isE s.es k2 = true := by rw [hk]; simp [isE, h1]
        rw [hl, hi] at hb
        have := hd hk x h1 h2 h3 hb
        cases d with
        | none => exact this.elim
        | some f =>
          simp only
          refine held_put hr h fun _ => ?_
          rw [hl]; exact this
      · cases d with
        | none => exact held_drop h hk
        | some f =>
          simp only
          refine held_put hr h fun hk3 => ?_
          rw [hk2 f _ rfl] at hk3
          exact absurd hk3 hk
    · exact h
  · exact h
theorem held_step {most : Nat} {s : S} {key : List Nat} {mine : Int} {t : St} (hr : Rise s.es) (h : HeldBy s key mine) (hm : ¬ mine = 0) (hs : ¬ t.ses = mine) (hk : ¬ (t.key = key ∧ (t.kind = Int.ofNat 2 ∨ t.kind = Int.ofNat 3))) : HeldBy (stepS most s t) key mine := by
  unfold stepS
  split
  · exact held_apply hr h (fun hk x h1 h2 h3 hb => ⟨h2, h3⟩) (fun f e hf => by cases hf; rfl)
  split
  · exact held_apply hr h (fun hk x h1 h2 h3 hb => ⟨h2, h3⟩) (fun f e hf => by cases hf; rfl)
  split
  · rename_i h2
    exact held_apply hr h (fun hk2 x h1 h2 h3 hb => hk ⟨hk2, .inl (by assumption)⟩) (fun f e hf => by cases hf)
  split
  · exact held_apply hr h (fun hk2 x h1 h2 h3 hb => hk ⟨hk2, .inr (by assumption)⟩) (fun f e hf => by cases hf)
  split
  · refine held_apply hr h (fun hk2 x h1 h2 h3 hb => ?_) (fun f e hf => by cases hf; rfl)
    exfalso
    have hv := short_of hb
    rw [short_good hv, fb1] at hb
    unfold lockF at hb
    split at hb
    · cases hb
    · rw [if_pos ⟨fun h => hm (h2.symm.trans h), fun h => hs (h.symm.trans h2)⟩] at hb
      cases hb
  split
  · refine held_apply hr h (fun hk2 x h1 h2 h3 hb => ?_) (fun f e hf => by cases hf; rfl)
    exfalso
    have hv := short_of hb
    rw [short_good hv, fb_zero (by simp [thereF]), fb1] at hb
    unfold holdF at hb
    rw [if_pos (.inr (fun h => hs (h.symm.trans h2)))] at hb
    cases hb
  split
  · exact held_free h hs
  · exact h
theorem lock_first {most : Nat} {key : List Nat} {mine : Int} (hm : 1 ≤ most) : ((lockS most s0 key [120] mine 1).2 ≠ 0) ∨ ((lockS most s0 key [120] mine 1).2 = 0 ∧ ¬ mine = 0 ∧ HeldBy (lockS most s0 key [120] mine 1).1 key mine) := by
  unfold lockS
  by_cases hk : keyP key
  · by_cases h0 : mine = 0
    · left
      rw [app_bad (n := 2) hk (by rw [short_good (by simp), fb1]; unfold lockF; rw [if_pos h0]) (by decide)]
      decide
    · right
      have hl : lookE s0.es key = e0 := rfl
      have hb : firstBad [shortF [120], lockF mine] (lookE s0.es key) (isE s0.es key) = 0 := by
        rw [short_good (by simp), fb1, hl]
        unfold lockF
        rw [if_neg h0, if_neg (fun h => h.1 rfl)]
      rw [app_put hk hb]
      have hL : lockD mine [120] { lookE s0.es key with key := key } = ⟨key, [120], mine, 1, Int.ofNat 0, Int.ofNat 0⟩ := by
        rw [hl]
        unfold lockD
        rw [if_neg (fun h => h0 h.symm)]
        rfl
      rw [hL]
      have hnf : ¬ fullB most s0.es key = true := by
        rw [fullB_iff]
        rintro ⟨_, h⟩
        simp [s0] at h
        omega
      simp only [putS, if_neg hnf]
      refine ⟨trivial, h0, ⟨key, [120], mine, 1, 1, 1⟩, ?_, rfl, rfl⟩
      simp [s0, putE, findE, atIx]
  · left
    rw [app_no hk]
    decide
variable {B : Nat → List AV}
theorem WOps.addU {t : EL} {H : HL} {Q : EL → HL → Prop} {os : List AOper} {k : Nat} {g : Option (Nat × Bool)} {x y : AO} {m j : Nat} (hg : wantedL g t = some true) (hx : gl t x = some (.int .u64 (.ofNat m))) (hy : gl t y = some (.int .u64 (.ofNat j))) (h : m + j ≤ 1000)
    (w : WOps B tab os ((k, .int .u64 (.ofNat (m + j))) :: t) H Q) : WOps B tab (⟨some k, .bin .add x y, g⟩ :: os) t H Q := by
  refine WOps.purG hg (fun h' => ?_) w
  have : IntKind.u64.wrap (Int.ofNat m + Int.ofNat j) = Int.ofNat (m + j) := by rw [IntKind.wrap_u64]; simp only [Int.ofNat_eq_natCast]; omega
  simp only [aopL, hx, hy, aBin, if_true, this, pure1]
set_option maxHeartbeats 2000000 in
theorem once_ok {wl : AV} {l : List St} {key a1 a2 : List Nat} (hw : SlIs B [] wl 6 (l.map stC)) (hlen : l.length ≤ 9223372036854775807) (hkl : ∀ (i : Nat) (h : i < l.length), l[i].key.length ≤ 9223372036854775807) :
    WF B tab (.func 6) [wl, .str key, .agg [.str a1, .str a2]] [] fun r _ => r = .bool true := by
  refine WF.fn g6 rfl ?_
  have hm : 1 ≤ 20 := by decide
  have h64 : 20 ≤ 64 := by decide
  have hM : mostOf (Int.ofNat 20) = 20 := by decide
  repeat' (first
    | apply WOps.nil | apply WC.seq | apply WC.reg | apply WC.skip | apply WC.ret | apply WC.exit | (apply WC.condT; rfl) | (apply WC.condF; rfl) | apply WC.block | apply WC.dreg | apply WD.nil | (apply WOps.ldG; rfl; rfl; (first | exact ld0 rfl | exact ld1 rfl | exact ld2 rfl); rfl) | (apply WOps.st; rfl; rfl; (first | exact tk0 | exact tk1 | exact tk2); rfl; (first | rfl | ((repeat' (first | exact ac0 | apply ac1)) <;> (first | rfl | assumption))); rfl) | (apply WOps.alc; rfl; intro _) | (apply WOps.bx; rfl; rfl; (first | rfl | ((repeat' (first | exact ac0 | apply ac1)) <;> (first | rfl | assumption))); intro _) | (apply WD.st; rfl; rfl; rfl; (first | exact tk0 | exact tk1 | exact tk2); rfl; (first | rfl | ((repeat' (first | exact ac0 | apply ac1)) <;> (first | rfl | assumption))); rfl) | (apply WD.alc; rfl; rfl; intro _) | (apply WOps.clA; rfl; rfl; exact new25_ok _; rw [hM]; rintro _ _ ⟨kp, a, rfl, rfl⟩) | (apply WOps.clA; rfl; rfl; exact new26_ok _; rw [hM]; rintro _ _ ⟨w, rfl, rfl⟩) | (apply WOps.cmp; rfl; rfl; rfl; rfl; intro _ _) | (apply WOps.cmpT; rfl; rfl; rfl; rfl; intro _ _) | (apply WOps.purG; rfl; (intro _; rfl)) | (apply WOps.skp; rfl) | (apply WD.load; rfl; (first | (apply at1; (first | exact rd0 rfl rfl rfl | exact rd1 rfl rfl rfl | exact rd2 rfl rfl rfl); rfl) | (apply at2; (first | exact rd0 rfl rfl rfl | exact rd1 rfl rfl rfl | exact rd2 rfl rfl rfl); repeat' (first | exact same0 | (apply same1; (first | exact rd0 rfl rfl rfl | exact rd1 rfl rfl rfl | exact rd2 rfl rfl rfl); rfl) | (apply same2; (first | exact rd0 rfl rfl rfl | exact rd1 rfl rfl rfl | exact rd2 rfl rfl rfl)))))) | (apply WD.cmp; rfl; rfl; rfl; rfl; intro _ _) | (apply WD.cmpT; rfl; rfl; rfl; rfl; intro _ _) | (apply WD.pur; rfl; (intro _; rfl)) | (apply WD.skp; rfl) | (apply WD.skpL; rfl) | (apply WD.skpX; rfl) | (apply WOps.ask; rfl; all_goals (intro hb; first | subst hb | fail_if_success (cases hb))) | (apply WC.condA; rfl; all_goals (intro hb; try subst hb)) | (apply WD.ask; rfl; all_goals (intro hb; first | subst hb | fail_if_success (cases hb))))
  rename_i p5
  refine WC.mono (Q := fun ex t' H' => ex = .jump (.exit 0) ∧ ∃ (i : Nat) (s : S), i ≤ 40 ∧ Both2 H' kp a w 20 s s [] ∧ Inv 20 s ∧ Good (Int.ofNat i) s ∧ Sub1 [(1, .str key), (7, .str a1), (8, .str a2), (9, .ptr ⟨false, kp, 0⟩), (10, .int .u64 (.ofNat i))] t') ?_ ?_
  · refine WC.loop ?_
    obtain ⟨i, hi⟩ : ∃ i : Nat, i = 0 := ⟨0, rfl⟩
    obtain ⟨s, hs⟩ : ∃ s : S, s = s0 := ⟨_, rfl⟩
    obtain ⟨H, hH⟩ : ∃ h : HL, h = (w, .row [.int .i64 (.ofNat 20), .nilsl, .int .u64 (.ofNat 0)]) :: (kp, .row [.ptr ⟨false, a, 0⟩]) :: (a, .row [.int .i64 (.ofNat 20), .nilsl, .int .u64 (.ofNat 0)]) :: [] := ⟨_, rfl⟩
    refine WL.le (t' := [(0, wl), (1, .str key), (7, .str a1), (8, .str a2), (9, .ptr ⟨false, kp, 0⟩), (10, .int .u64 (.ofNat i)), (11, .ptr ⟨false, w, 0⟩), (12, .int .i64 (.ofNat i))]) (by subst hi; exact Sub1.cons rfl (Sub1.cons rfl (Sub1.cons rfl (Sub1.cons rfl (Sub1.cons rfl (Sub1.cons rfl (Sub1.cons rfl (Sub1.cons rfl Sub1.nil)))))))) ?_
    refine WL.lessP (H1 := H) (by rw [hH]; exact subF (by intro f; simp only [AV.cells, List.append_eq, List.map_cons, List.map_nil, List.sum_nil, List.map_append, List.sum_cons, List.sum_append, List.cons_append, List.nil_append, List.append_assoc, List.append_nil]; omega)) ?_
    have b : Both2 H kp a w 20 s s [] := by
      subst hs hH
      exact ⟨.nilsl, [], .nilsl, [], .inl ⟨rfl, rfl, rfl, rfl⟩, .inl ⟨rfl, rfl, rfl, rfl⟩, (List.Perm.swap _ _ _).trans (List.Perm.cons _ (List.Perm.swap _ _ _))⟩
    have hI : Inv 20 s := by subst hs; exact inv0
    have hG : Good (Int.ofNat i) s := by subst hs hi; exact good0
    have hle : i ≤ l.length := by omega
    have hle2 : i ≤ 40 := by omega
    clear hi hs hH
    induction hk : l.length - i using Nat.strongRecOn generalizing i s H with | _ k ih => ?_
    apply WL.step
    repeat' (first
      | apply WOps.nil | apply WC.seq | apply WC.reg | apply WC.skip | apply WC.ret | apply WC.exit | (apply WC.condT; rfl) | (apply WC.condF; rfl) | apply WC.block | apply WC.dreg | apply WD.nil | (apply WOps.ldG; rfl; rfl; (first | exact ld0 rfl | exact ld1 rfl | exact ld2 rfl); rfl) | (apply WOps.st; rfl; rfl; (first | exact tk0 | exact tk1 | exact tk2); rfl; (first | rfl | ((repeat' (first | exact ac0 | apply ac1)) <;> (first | rfl | assumption))); rfl) | (apply WOps.alc; rfl; intro _) | (apply WOps.bx; rfl; rfl; (first | rfl | ((repeat' (first | exact ac0 | apply ac1)) <;> (first | rfl | assumption))); intro _) | (apply WD.st; rfl; rfl; rfl; (first | exact tk0 | exact tk1 | exact tk2); rfl; (first | rfl | ((repeat' (first | exact ac0 | apply ac1)) <;> (first | rfl | assumption))); rfl) | (apply WD.alc; rfl; rfl; intro _) | (apply WOps.lenS; rfl; rfl; exact hw.any) | (apply WOps.cmp; rfl; rfl; rfl; rfl; intro _ _) | (apply WOps.cmpT; rfl; rfl; rfl; rfl; intro _ _) | (apply WOps.purG; rfl; (intro _; rfl)) | (apply WOps.skp; rfl) | (apply WD.load; rfl; (first | (apply at1; (first | exact rd0 rfl rfl rfl | exact rd1 rfl rfl rfl | exact rd2 rfl rfl rfl); rfl) | (apply at2; (first | exact rd0 rfl rfl rfl | exact rd1 rfl rfl rfl | exact rd2 rfl rfl rfl); repeat' (first | exact same0 | (apply same1; (first | exact rd0 rfl rfl rfl | exact rd1 rfl rfl rfl | exact rd2 rfl rfl rfl); rfl) | (apply same2; (first | exact rd0 rfl rfl rfl | exact rd1 rfl rfl rfl | exact rd2 rfl rfl rfl)))))) | (apply WD.cmp; rfl; rfl; rfl; rfl; intro _ _) | (apply WD.cmpT; rfl; rfl; rfl; rfl; intro _ _) | (apply WD.pur; rfl; (intro _; rfl)) | (apply WD.skp; rfl) | (apply WD.skpL; rfl) | (apply WD.skpX; rfl) | (apply WOps.ask; rfl; all_goals (intro hb; first | subst hb | fail_if_success (cases hb))) | (apply WC.condA; rfl; all_goals (intro hb; try subst hb)) | (apply WD.ask; rfl; all_goals (intro hb; first | subst hb | fail_if_success (cases hb))))
    · have hlt : i < l.length := by
        have h0 := ‹true = true ↔ cmpP BinOp.lss (Int.ofNat i) (Int.ofNat (List.map stC l).length)›
        rw [List.length_map] at h0
        simp [cmpP] at h0; omega
      have hlt2 : i < 40 := by
        have h0 := ‹true = true ↔ cmpP BinOp.lss (Int.ofNat i) (Int.ofNat 40)›
        simp [cmpP] at h0; omega
      have hcm : (l.map stC)[i]? = some (stC l[i]) := by rw [List.getElem?_map, List.getElem?_eq_getElem hlt]; rfl
      have hI1 : Inv 20 (stepS 20 s { l[i] with ix := Int.ofNat (i + 1) }) := hI.step
      have hG1 : Good (Int.ofNat (i + 1)) (stepS 20 s { l[i] with ix := Int.ofNat (i + 1) }) := hG.stepS rfl
      repeat' (first
        | apply WOps.nil | apply WC.seq | apply WC.reg | apply WC.skip | apply WC.ret | apply WC.exit | (apply WC.condT; rfl) | (apply WC.condF; rfl) | apply WC.block | apply WC.dreg | apply WD.nil | (apply WOps.ldG; rfl; rfl; (first | exact ld0 rfl | exact ld1 rfl | exact ld2 rfl); rfl) | (apply WOps.st; rfl; rfl; (first | exact tk0 | exact tk1 | exact tk2); rfl; (first | rfl | ((repeat' (first | exact ac0 | apply ac1)) <;> (first | rfl | assumption))); rfl) | (apply WOps.alc; rfl; intro _) | (apply WOps.bx; rfl; rfl; (first | rfl | ((repeat' (first | exact ac0 | apply ac1)) <;> (first | rfl | assumption))); intro _) | (apply WD.st; rfl; rfl; rfl; (first | exact tk0 | exact tk1 | exact tk2); rfl; (first | rfl | ((repeat' (first | exact ac0 | apply ac1)) <;> (first | rfl | assumption))); rfl) | (apply WD.alc; rfl; rfl; intro _) | (apply WOps.ixSl; rfl; rfl; rfl; exact hw.any; exact hcm; intro ax hax) | (apply WOps.ldG; rfl; rfl; exact hax; rfl) | (apply WOps.addU; rfl; rfl; rfl; omega) | (apply WOps.clA; rfl; rfl; exact step27_ok (t := { l[i] with ix := Int.ofNat (i + 1) }) hm h64 hI (hkl i hlt) b.cons; rintro _ H1 ⟨rfl, b1⟩) | (apply WOps.addN; rfl; rfl; rfl; omega) | (apply WOps.neqF; rfl; rfl; rfl; decide) | (apply WOps.neqT; rfl; rfl; rfl; decide) | (apply WOps.eqlF; rfl; rfl; rfl; decide) | (apply WOps.eqlT; rfl; rfl; rfl; decide) | (apply WD.neqF; rfl; rfl; rfl; decide) | (apply WD.neqT; rfl; rfl; rfl; decide) | (apply WD.eqlF; rfl; rfl; rfl; decide) | (apply WD.eqlT; rfl; rfl; rfl; decide) | (apply WOps.cmp; rfl; rfl; rfl; rfl; intro _ _) | (apply WOps.cmpT; rfl; rfl; rfl; rfl; intro _ _) | (apply WOps.purG; rfl; (intro _; rfl)) | (apply WOps.skp; rfl) | (apply WD.load; rfl; (first | (apply at1; (first | exact rd0 rfl rfl rfl | exact rd1 rfl rfl rfl | exact rd2 rfl rfl rfl); rfl) | (apply at2; (first | exact rd0 rfl rfl rfl | exact rd1 rfl rfl rfl | exact rd2 rfl rfl rfl); repeat' (first | exact same0 | (apply same1; (first | exact rd0 rfl rfl rfl | exact rd1 rfl rfl rfl | exact rd2 rfl rfl rfl); rfl) | (apply same2; (first | exact rd0 rfl rfl rfl | exact rd1 rfl rfl rfl | exact rd2 rfl rfl rfl)))))) | (apply WD.cmp; rfl; rfl; rfl; rfl; intro _ _) | (apply WD.cmpT; rfl; rfl; rfl; rfl; intro _ _) | (apply WD.pur; rfl; (intro _; rfl)) | (apply WD.skp; rfl) | (apply WD.skpL; rfl) | (apply WD.skpX; rfl) | (apply WOps.ask; rfl; all_goals (intro hb; first | subst hb | fail_if_success (cases hb))) | (apply WC.condA; rfl; all_goals (intro hb; try subst hb)) | (apply WD.ask; rfl; all_goals (intro hb; first | subst hb | fail_if_success (cases hb))))
      refine WL.le (t' := [(0, wl), (1, .str key), (7, .str a1), (8, .str a2), (9, .ptr ⟨false, kp, 0⟩), (10, .int .u64 (.ofNat (i + 1))), (11, .ptr ⟨false, w, 0⟩), (12, .int .i64 (.ofNat (i + 1)))]) (Sub1.cons rfl (Sub1.cons rfl (Sub1.cons rfl (Sub1.cons rfl (Sub1.cons rfl (Sub1.cons rfl (Sub1.cons rfl (Sub1.cons rfl Sub1.nil)))))))) ?_
      obtain ⟨H3, b3, s3⟩ := b1.less (R1 := []) (subF (by intro f; simp only [AV.cells, List.append_eq, List.map_cons, List.map_nil, List.sum_nil, List.map_append, List.sum_cons, List.sum_append, List.cons_append, List.nil_append, List.append_assoc, List.append_nil]; omega))
      exact WL.lessP s3 (ih _ (by omega) (i + 1) _ H3 b3 hI1 hG1 (by omega) (by omega) rfl)
    · exact ⟨rfl, i, s, hle2, b, hI, hG, Sub1.cons rfl (Sub1.cons rfl (Sub1.cons rfl (Sub1.cons rfl (Sub1.cons rfl Sub1.nil))))⟩
    · exact ⟨rfl, i, s, hle2, b, hI, hG, Sub1.cons rfl (Sub1.cons rfl (Sub1.cons rfl (Sub1.cons rfl (Sub1.cons rfl Sub1.nil))))⟩
  · rintro _ t' H ⟨rfl, i, s, hi, b, hI, hG, hsub⟩
    refine WC.le hsub ?_
    have hn : s.es.length ≤ 999 := by have := hI.2; omega
    have hI1 : Inv 20 (casS 20 s key a1 (lookE s.es key).ix (Int.ofNat (i + 1))).1 := Inv.apply hI
    have hfst := cas_first (most := 20) (key := key) (a := a1) hG hI
    have hle := (look_ix (key := key) hG).2
    have hc1 : ∀ H' X, KvAt H' kp a 20 s X → WF B tab (.func 30) [.ptr ⟨false, kp, 0⟩, .str key, .str a1, .int .u64 (lookE s.es key).ix, .int .u64 (Int.ofNat (i + 1))] H' fun r H'' => r = .int .i64 (.ofNat (casS 20 s key a1 (lookE s.es key).ix (Int.ofNat (i + 1))).2) ∧ KvAt H'' kp a 20 (casS 20 s key a1 (lookE s.es key).ix (Int.ofNat (i + 1))).1 X :=
      fun H' X k => cas30_ok hm hn hI.1 k
    simp only at hfst
    rw [show Int.ofNat i + 1 = Int.ofNat (i + 1) from rfl] at hfst
    revert hfst hc1 hI1
    generalize casS 20 s key a1 (lookE s.es key).ix (Int.ofNat (i + 1)) = r1
    obtain ⟨s1, n1⟩ := r1
    intro hI1 hfst hc1
    simp only at hI1 hc1 hfst
    have hn1 : s1.es.length ≤ 999 := by have := hI1.2; omega
    rcases hfst with h | ⟨rfl, hk, x, hx1, hx2, hx3⟩
    · rcases h with rfl | rfl | rfl
      all_goals
        repeat' (first
          | apply WOps.nil | apply WC.seq | apply WC.reg | apply WC.skip | apply WC.ret | apply WC.exit | (apply WC.condT; rfl) | (apply WC.condF; rfl) | apply WC.block | apply WC.dreg | apply WD.nil | (apply WOps.ldG; rfl; rfl; (first | exact ld0 rfl | exact ld1 rfl | exact ld2 rfl); rfl) | (apply WOps.st; rfl; rfl; (first | exact tk0 | exact tk1 | exact tk2); rfl; (first | rfl | ((repeat' (first | exact ac0 | apply ac1)) <;> (first | rfl | assumption))); rfl) | (apply WOps.alc; rfl; intro _) | (apply WOps.bx; rfl; rfl; (first | rfl | ((repeat' (first | exact ac0 | apply ac1)) <;> (first | rfl | assumption))); intro _) | (apply WD.st; rfl; rfl; rfl; (first | exact tk0 | exact tk1 | exact tk2); rfl; (first | rfl | ((repeat' (first | exact ac0 | apply ac1)) <;> (first | rfl | assumption))); rfl) | (apply WD.alc; rfl; rfl; intro _) | (apply WOps.clR; rfl; rfl; exact get28_b (key := key) hm hI h64 b; rintro _ rfl) | (apply WOps.addU; rfl; rfl; rfl; omega) | (apply WOps.clA; rfl; rfl; exact onK (fun X k => hc1 _ X k) b.cons; rintro _ H1 ⟨rfl, b1⟩) | (apply WOps.ldG; rfl; rfl; exact b1.ld (ld0 rfl); rfl) | (apply WOps.clA; rfl; rfl; exact onK (fun X k => cas30_ok (v := a2) hm hn1 hI1.1 k) b1; rintro _ H2 ⟨rfl, b2⟩) | (apply WOps.clG1; rfl; rfl; exact WF.const g21) | (apply WOps.neqF; rfl; rfl; rfl; decide) | (apply WOps.neqT; rfl; rfl; rfl; decide) | (apply WOps.eqlF; rfl; rfl; rfl; decide) | (apply WOps.eqlT; rfl; rfl; rfl; decide) | (apply WD.neqF; rfl; rfl; rfl; decide) | (apply WD.neqT; rfl; rfl; rfl; decide) | (apply WD.eqlF; rfl; rfl; rfl; decide) | (apply WD.eqlT; rfl; rfl; rfl; decide) | (apply WOps.cmp; rfl; rfl; rfl; rfl; intro _ _) | (apply WOps.cmpT; rfl; rfl; rfl; rfl; intro _ _) | (apply WOps.purG; rfl; (intro _; rfl)) | (apply WOps.skp; rfl) | (apply WD.load; rfl; (first | (apply at1; (first | exact rd0 rfl rfl rfl | exact rd1 rfl rfl rfl | exact rd2 rfl rfl rfl); rfl) | (apply at2; (first | exact rd0 rfl rfl rfl | exact rd1 rfl rfl rfl | exact rd2 rfl rfl rfl); repeat' (first | exact same0 | (apply same1; (first | exact rd0 rfl rfl rfl | exact rd1 rfl rfl rfl | exact rd2 rfl rfl rfl); rfl) | (apply same2; (first | exact rd0 rfl rfl rfl | exact rd1 rfl rfl rfl | exact rd2 rfl rfl rfl)))))) | (apply WD.cmp; rfl; rfl; rfl; rfl; intro _ _) | (apply WD.cmpT; rfl; rfl; rfl; rfl; intro _ _) | (apply WD.pur; rfl; (intro _; rfl)) | (apply WD.skp; rfl) | (apply WD.skpL; rfl) | (apply WD.skpX; rfl) | (apply WOps.ask; rfl; all_goals (intro hb; first | subst hb | fail_if_success (cases hb))) | (apply WC.condA; rfl; all_goals (intro hb; try subst hb)) | (apply WD.ask; rfl; all_goals (intro hb; first | subst hb | fail_if_success (cases hb))))
      all_goals exact ⟨trivial, [_], ⟨_, [], rfl, rfl, rfl⟩, rfl⟩
    · have hx4 : isE s1.es key = true := by simp [isE, hx1]
      have hx5 : lookE s1.es key = x := by simp [lookE, hx1]
      have hc2 : (∀ H' X, KvAt H' kp a 20 s1 X → WF B tab (.func 30) [.ptr ⟨false, kp, 0⟩, .str key, .str a2, .int .u64 (lookE s.es key).ix, .int .u64 (Int.ofNat (i + 2))] H' fun r H'' => r = .int .i64 (.ofNat 21) ∧ KvAt H'' kp a 20 s1 X) ∨ (∀ H' X, KvAt H' kp a 20 s1 X → WF B tab (.func 30) [.ptr ⟨false, kp, 0⟩, .str key, .str a2, .int .u64 (lookE s.es key).ix, .int .u64 (Int.ofNat (i + 2))] H' fun r H'' => r = .int .i64 (.ofNat 3) ∧ KvAt H'' kp a 20 s1 X) := by
        rcases cas_second (most := 20) (ix2 := Int.ofNat (i + 2)) (b := a2) hk hx1 hx3 hle with h | h
        · left
          intro H' X k
          have := cas30_ok (B := B) (key := key) (v := a2) (old := (lookE s.es key).ix) (ix := Int.ofNat (i + 2)) hm hn1 hI1.1 k
          rw [h] at this
          exact this
        · right
          intro H' X k
          have := cas30_ok (B := B) (key := key) (v := a2) (old := (lookE s.es key).ix) (ix := Int.ofNat (i + 2)) hm hn1 hI1.1 k
          rw [h] at this
          exact this
      rcases hc2 with hc2 | hc2
      all_goals
        repeat' (first
          | apply WOps.nil | apply WC.seq | apply WC.reg | apply WC.skip | apply WC.ret | apply WC.exit | (apply WC.condT; rfl) | (apply WC.condF; rfl) | apply WC.block | apply WC.dreg | apply WD.nil | (apply WOps.ldG; rfl; rfl; (first | exact ld0 rfl | exact ld1 rfl | exact ld2 rfl); rfl) | (apply WOps.st; rfl; rfl; (first | exact tk0 | exact tk1 | exact tk2); rfl; (first | rfl | ((repeat' (first | exact ac0 | apply ac1)) <;> (first | rfl | assumption))); rfl) | (apply WOps.alc; rfl; intro _) | (apply WOps.bx; rfl; rfl; (first | rfl | ((repeat' (first | exact ac0 | apply ac1)) <;> (first | rfl | assumption))); intro _) | (apply WD.st; rfl; rfl; rfl; (first | exact tk0 | exact tk1 | exact tk2); rfl; (first | rfl | ((repeat' (first | exact ac0 | apply ac1)) <;> (first | rfl | assumption))); rfl) | (apply WD.alc; rfl; rfl; intro _) | (apply WOps.clR; rfl; rfl; exact get28_b (key := key) hm hI h64 b; rintro _ rfl) | (apply WOps.addU; rfl; rfl; rfl; omega) | (apply WOps.clA; rfl; rfl; exact onK (fun X k => hc1 _ X k) b.cons; rintro _ H1 ⟨rfl, b1⟩) | (apply WOps.ldG; rfl; rfl; exact b1.ld (ld0 rfl); rfl) | (apply WOps.clA; rfl; rfl; exact onK (fun X k => hc2 _ X k) b1; rintro _ H2 ⟨rfl, b2⟩) | (apply WOps.clR; rfl; rfl; exact get28_b (key := key) hm hI1 h64 b2; rintro _ rfl; rw [hx4, hx5]) | (apply WOps.clG1; rfl; rfl; exact WF.const g21) | (apply WOps.neqF; rfl; rfl; rfl; decide) | (apply WOps.neqT; rfl; rfl; rfl; decide) | (apply WOps.eqlF; rfl; rfl; rfl; decide) | (apply WOps.eqlT; rfl; rfl; rfl; decide) | (apply WD.neqF; rfl; rfl; rfl; decide) | (apply WD.neqT; rfl; rfl; rfl; decide) | (apply WD.eqlF; rfl; rfl; rfl; decide) | (apply WD.eqlT; rfl; rfl; rfl; decide) | (apply WOps.cmp; rfl; rfl; rfl; rfl; intro _ _) | (apply WOps.cmpT; rfl; rfl; rfl; rfl; intro _ _) | (apply WOps.purG; rfl; (intro _; rfl)) | (apply WOps.skp; rfl) | (apply WD.load; rfl; (first | (apply at1; (first | exact rd0 rfl rfl rfl | exact rd1 rfl rfl rfl | exact rd2 rfl rfl rfl); rfl) | (apply at2; (first | exact rd0 rfl rfl rfl | exact rd1 rfl rfl rfl | exact rd2 rfl rfl rfl); repeat' (first | exact same0 | (apply same1; (first | exact rd0 rfl rfl rfl | exact rd1 rfl rfl rfl | exact rd2 rfl rfl rfl); rfl) | (apply same2; (first | exact rd0 rfl rfl rfl | exact rd1 rfl rfl rfl | exact rd2 rfl rfl rfl)))))) | (apply WD.cmp; rfl; rfl; rfl; rfl; intro _ _) | (apply WD.cmpT; rfl; rfl; rfl; rfl; intro _ _) | (apply WD.pur; rfl; (intro _; rfl)) | (apply WD.skp; rfl) | (apply WD.skpL; rfl) | (apply WD.skpX; rfl) | (apply WOps.ask; rfl; all_goals (intro hb; first | subst hb | fail_if_success (cases hb))) | (apply WC.condA; rfl; all_goals (intro hb; try subst hb)) | (apply WD.ask; rfl; all_goals (intro hb; first | subst hb | fail_if_success (cases hb))))
      all_goals first
        | exact ⟨trivial, [_], ⟨_, [], rfl, rfl, rfl⟩, rfl⟩
        | (exfalso; have h0 := eq_of_ff ‹false = true ↔ cmpS BinOp.eql x.val a1›; exact h0 hx2)
        | (exfalso; have h0 := eq_of_ff ‹false = true ↔ cmpP BinOp.eql x.ix (Int.ofNat (i + 1))›; exact h0 hx3)
        | trace_state
theorem WOps.neqN {t : EL} {H : HL} {Q : EL → HL → Prop} {os : List AOper} {k : Nat} {g : Option (Nat × Bool)} {x y : AO} {ki : IntKind} {m n : Int} (hg : wantedL g t = some true) (hx : gl t x = some (.int ki m)) (hy : gl t y = some (.int ki n)) (hne : ¬ m = n)
    (w : WOps B tab os ((k, .bool true) :: t) H Q) : WOps B tab (⟨some k, .bin .neq x y, g⟩ :: os) t H Q := by
  refine WOps.cmp (op := .neq) rfl hg hx hy fun v hv => ?_
  have : v = true := hv.2 hne
  rw [this]; exact w
theorem WOps.neqQ {t : EL} {H : HL} {Q : EL → HL → Prop} {os : List AOper} {k : Nat} {g : Option (Nat × Bool)} {x y : AO} {ki : IntKind} {m n : Int} (hg : wantedL g t = some true) (hx : gl t x = some (.int ki m)) (hy : gl t y = some (.int ki n)) (he : m = n)
    (w : WOps B tab os ((k, .bool false) :: t) H Q) : WOps B tab (⟨some k, .bin .neq x y, g⟩ :: os) t H Q := by
  refine WOps.cmp (op := .neq) rfl hg hx hy fun v hv => ?_
  have : v = false := by rw [Bool.eq_false_iff]; exact fun h => hv.1 h he
  rw [this]; exact w
set_option maxHeartbeats 2000000 in
theorem held_ok {wl : AV} {l : List St} {key : List Nat} {mine : Int} (hw : SlIs B [] wl 6 (l.map stC)) (hlen : l.length ≤ 9223372036854775807) (hkl : ∀ (i : Nat) (h : i < l.length), l[i].key.length ≤ 9223372036854775807) :
    WF B tab (.func 7) [.str key, .int .u64 mine, wl] [] fun r _ => r = .bool true := by
  refine WF.fn g7 rfl ?_
  have hm : 1 ≤ 30 := by decide
  have h64 : 30 ≤ 64 := by decide
  have hM : mostOf (Int.ofNat 30) = 30 := by decide
  have hfst := lock_first (most := 30) (key := key) (mine := mine) hm
  have hc1 : ∀ H' kp a X, KvAt H' kp a 30 s0 X → WF B tab (.func 31) [.ptr ⟨false, kp, 0⟩, .str key, .str [120], .int .u64 mine, .int .u64 (Int.ofNat 1)] H' fun r H'' => r = .int .i64 (.ofNat (lockS 30 s0 key [120] mine 1).2) ∧ KvAt H'' kp a 30 (lockS 30 s0 key [120] mine 1).1 X :=
    fun H' kp a X k => lock31_ok hm (by simp [s0]) .nil k
  have hc2 : ∀ H' w X, RvAt H' w 30 s0 X → WF B tab (.func 32) [.ptr ⟨false, w, 0⟩, .str key, .str [120], .int .u64 mine, .int .u64 (Int.ofNat 1)] H' fun r H'' => r = .int .i64 (.ofNat (lockS 30 s0 key [120] mine 1).2) ∧ RvAt H'' w 30 (lockS 30 s0 key [120] mine 1).1 X :=
    fun H' w X k => lock32_ok (by simp [s0]) .nil k
  have hI : Inv 30 (lockS 30 s0 key [120] mine 1).1 := Inv.apply inv0
  revert hfst hc1 hc2 hI
  generalize lockS 30 s0 key [120] mine 1 = r1
  obtain ⟨s1, n1⟩ := r1
  intro hfst hc1 hc2 hI
  simp only at hI hc1 hc2 hfst
  have hb0 : ∀ {w kp a : Nat}, Both2 ((w, .row [.int .i64 (.ofNat 30), .nilsl, .int .u64 (.ofNat 0)]) :: (kp, .row [.ptr ⟨false, a, 0⟩]) :: (a, .row [.int .i64 (.ofNat 30), .nilsl, .int .u64 (.ofNat 0)]) :: []) kp a w 30 s0 s0 [] :=
    ⟨.nilsl, [], .nilsl, [], .inl ⟨rfl, rfl, rfl, rfl⟩, .inl ⟨rfl, rfl, rfl, rfl⟩, (List.Perm.swap _ _ _).trans (List.Perm.cons _ (List.Perm.swap _ _ _))⟩
  rcases hfst with hne | ⟨rfl, hmz, hheld⟩
  · have hne2 : ¬ Int.ofNat n1 = Int.ofNat 0 := fun h => hne (by simpa using h)
    repeat' (first
      | apply WOps.nil | apply WC.seq | apply WC.reg | apply WC.skip | apply WC.ret | apply WC.exit | (apply WC.condT; rfl) | (apply WC.condF; rfl) | apply WC.block | (apply WOps.ldG; rfl; rfl; (first | exact ld0 rfl | exact ld1 rfl | exact ld2 rfl); rfl) | (apply WOps.st; rfl; rfl; (first | exact tk0 | exact tk1 | exact tk2); rfl; (first | rfl | ((repeat' (first | exact ac0 | apply ac1)) <;> (first | rfl | assumption))); rfl) | (apply WOps.alc; rfl; intro _) | (apply WOps.clA; rfl; rfl; exact new25_ok _; rw [hM]; rintro _ _ ⟨kp, a, rfl, rfl⟩) | (apply WOps.clA; rfl; rfl; exact new26_ok _; rw [hM]; rintro _ _ ⟨w, rfl, rfl⟩) | (apply WOps.clA; rfl; rfl; exact onK (fun X k => hc1 _ _ _ X k) hb0; rintro _ H1 ⟨rfl, b1⟩) | (apply WOps.clA; rfl; rfl; exact onR (fun X k => hc2 _ _ X k) b1; rintro _ H2 ⟨rfl, b2⟩) | (apply WOps.neqN; rfl; rfl; rfl; assumption) | (apply WOps.clG1; rfl; rfl; exact WF.const g21) | (apply WOps.cmp; rfl; rfl; rfl; rfl; intro _ _) | (apply WOps.cmpT; rfl; rfl; rfl; rfl; intro _ _) | (apply WOps.purG; rfl; (intro _; rfl)) | (apply WOps.skp; rfl) | (apply WOps.ask; rfl; all_goals (intro hb; first | subst hb | fail_if_success (cases hb))) | (apply WC.condA; rfl; all_goals (intro hb; try subst hb)))
    exact ⟨trivial, [_], ⟨_, [], rfl, rfl, rfl⟩, rfl⟩
  · repeat' (first
      | apply WOps.nil | apply WC.seq | apply WC.reg | apply WC.skip | apply WC.ret | apply WC.exit | (apply WC.condT; rfl) | (apply WC.condF; rfl) | apply WC.block | (apply WOps.ldG; rfl; rfl; (first | exact ld0 rfl | exact ld1 rfl | exact ld2 rfl); rfl) | (apply WOps.st; rfl; rfl; (first | exact tk0 | exact tk1 | exact tk2); rfl; (first | rfl | ((repeat' (first | exact ac0 | apply ac1)) <;> (first | rfl | assumption))); rfl) | (apply WOps.alc; rfl; intro _) | (apply WOps.clA; rfl; rfl; exact new25_ok _; rw [hM]; rintro _ _ ⟨kp, a, rfl, rfl⟩) | (apply WOps.clA; rfl; rfl; exact new26_ok _; rw [hM]; rintro _ _ ⟨w, rfl, rfl⟩) | (apply WOps.clA; rfl; rfl; exact onK (fun X k => hc1 _ _ _ X k) hb0; rintro _ H1 ⟨rfl, b1⟩) | (apply WOps.clA; rfl; rfl; exact onR (fun X k => hc2 _ _ X k) b1; rintro _ H2 ⟨rfl, b2⟩) | (apply WOps.neqF; rfl; rfl; rfl; decide) | (apply WOps.neqT; rfl; rfl; rfl; decide) | (apply WOps.eqlF; rfl; rfl; rfl; decide) | (apply WOps.eqlT; rfl; rfl; rfl; decide) | (apply WOps.cmp; rfl; rfl; rfl; rfl; intro _ _) | (apply WOps.cmpT; rfl; rfl; rfl; rfl; intro _ _) | (apply WOps.purG; rfl; (intro _; rfl)) | (apply WOps.skp; rfl) | (apply WOps.ask; rfl; all_goals (intro hb; first | subst hb | fail_if_success (cases hb))) | (apply WC.condA; rfl; all_goals (intro hb; try subst hb)))
    refine WC.loop ?_
    obtain ⟨i, hi⟩ : ∃ i : Nat, i = 0 := ⟨0, rfl⟩
    obtain ⟨s, hs⟩ : ∃ s : S, s = s1 := ⟨_, rfl⟩
    obtain ⟨H, hH⟩ : ∃ h : HL, h = H2 := ⟨_, rfl⟩
    refine WL.le (t' := [(0, .str key), (1, .int .u64 mine), (2, wl), (7, .ptr ⟨false, kp, 0⟩), (8, .ptr ⟨false, w, 0⟩), (9, .int .i64 (.ofNat i))]) (by subst hi; exact Sub1.cons rfl (Sub1.cons rfl (Sub1.cons rfl (Sub1.cons rfl (Sub1.cons rfl (Sub1.cons rfl Sub1.nil)))))) ?_
    refine WL.heq (H' := H) hH.symm ?_
    rw [← hs] at b2 hI hheld
    rw [← hH] at b2
    have hle : i ≤ l.length := by omega
    clear hi hs hH hc1 hc2 b1 hb0

    induction hk : l.length - i using Nat.strongRecOn generalizing i s H with | _ k ih => ?_
    apply WL.step
    repeat' (first
      | apply WOps.nil | apply WC.seq | apply WC.reg | apply WC.skip | apply WC.ret | apply WC.exit | (apply WC.condT; rfl) | (apply WC.condF; rfl) | apply WC.block | (apply WOps.ldG; rfl; rfl; (first | exact ld0 rfl | exact ld1 rfl | exact ld2 rfl); rfl) | (apply WOps.st; rfl; rfl; (first | exact tk0 | exact tk1 | exact tk2); rfl; (first | rfl | ((repeat' (first | exact ac0 | apply ac1)) <;> (first | rfl | assumption))); rfl) | (apply WOps.alc; rfl; intro _) | (apply WOps.lenS; rfl; rfl; exact hw.any) | (apply WOps.clG1; rfl; rfl; exact WF.const g21) | (apply WOps.cmp; rfl; rfl; rfl; rfl; intro _ _) | (apply WOps.cmpT; rfl; rfl; rfl; rfl; intro _ _) | (apply WOps.purG; rfl; (intro _; rfl)) | (apply WOps.skp; rfl) | (apply WOps.ask; rfl; all_goals (intro hb; first | subst hb | fail_if_success (cases hb))) | (apply WC.condA; rfl; all_goals (intro hb; try subst hb)))
    · have hlt : i < l.length := by
        have h0 := ‹true = true ↔ cmpP BinOp.lss (Int.ofNat i) (Int.ofNat (List.map stC l).length)›
        rw [List.length_map] at h0
        simp [cmpP] at h0; omega
      have hcm : (l.map stC)[i]? = some (stC l[i]) := by rw [List.getElem?_map, List.getElem?_eq_getElem hlt]; rfl
      have hI1 : Inv 30 (stepS 30 s l[i]) := hI.step
      repeat' (first
        | apply WOps.nil | apply WC.seq | apply WC.reg | apply WC.skip | apply WC.ret | apply WC.exit | (apply WC.condT; rfl) | (apply WC.condF; rfl) | apply WC.block | (apply WOps.ldG; rfl; rfl; (first | exact ld0 rfl | exact ld1 rfl | exact ld2 rfl); rfl) | (apply WOps.st; rfl; rfl; (first | exact tk0 | exact tk1 | exact tk2); rfl; (first | rfl | ((repeat' (first | exact ac0 | apply ac1)) <;> (first | rfl | assumption))); rfl) | (apply WOps.alc; rfl; intro _) | (apply WOps.ixSl; rfl; rfl; rfl; exact hw.any; exact hcm; intro ax hax) | (apply WOps.ldG; rfl; rfl; exact hax; rfl) | (apply WOps.addN; rfl; rfl; rfl; omega) | (apply WOps.cmp; rfl; rfl; rfl; rfl; intro _ _) | (apply WOps.cmpT; rfl; rfl; rfl; rfl; intro _ _) | (apply WOps.purG; rfl; (intro _; rfl)) | (apply WOps.skp; rfl) | (apply WOps.ask; rfl; all_goals (intro hb; first | subst hb | fail_if_success (cases hb))) | (apply WC.condA; rfl; all_goals (intro hb; try subst hb)))
      · exact WL.le (t' := [(0, .str key), (1, .int .u64 mine), (2, wl), (7, .ptr ⟨false, kp, 0⟩), (8, .ptr ⟨false, w, 0⟩), (9, .int .i64 (.ofNat (i + 1)))]) (Sub1.cons rfl (Sub1.cons rfl (Sub1.cons rfl (Sub1.cons rfl (Sub1.cons rfl (Sub1.cons rfl Sub1.nil)))))) (WL.sub (List.sublist_cons_self _ _) (ih _ (by omega) (i + 1) s hheld hI H b2 (by omega) rfl))
      · exact WL.le (t' := [(0, .str key), (1, .int .u64 mine), (2, wl), (7, .ptr ⟨false, kp, 0⟩), (8, .ptr ⟨false, w, 0⟩), (9, .int .i64 (.ofNat (i + 1)))]) (Sub1.cons rfl (Sub1.cons rfl (Sub1.cons rfl (Sub1.cons rfl (Sub1.cons rfl (Sub1.cons rfl Sub1.nil)))))) (WL.sub (List.sublist_cons_self _ _) (ih _ (by omega) (i + 1) s hheld hI H b2 (by omega) rfl))
      · exact WL.le (t' := [(0, .str key), (1, .int .u64 mine), (2, wl), (7, .ptr ⟨false, kp, 0⟩), (8, .ptr ⟨false, w, 0⟩), (9, .int .i64 (.ofNat (i + 1)))]) (Sub1.cons rfl (Sub1.cons rfl (Sub1.cons rfl (Sub1.cons rfl (Sub1.cons rfl (Sub1.cons rfl Sub1.nil)))))) (WL.sub (List.sublist_cons_self _ _) (ih _ (by omega) (i + 1) s hheld hI H b2 (by omega) rfl))
      · have hq1 := eq_of_ff ‹false = true ↔ cmpP BinOp.eql l[i].ses mine›
        have hq3 := eq_of_ff ‹false = true ↔ cmpP BinOp.eql l[i].kind (Int.ofNat 2)›
        have hq4 := eq_of_ff ‹false = true ↔ cmpP BinOp.eql l[i].kind (Int.ofNat 3)›
        simp only [cmpP] at hq1 hq3 hq4
        have hq2 : ¬ (l[i].key = key ∧ (l[i].kind = Int.ofNat 2 ∨ l[i].kind = Int.ofNat 3)) := fun h => h.2.elim hq3 hq4
        have hh := held_step (most := 30) (t := l[i]) hI.1 hheld hmz hq1 hq2
        obtain ⟨x, hx1, hx2, hx3⟩ := id hh
        have hx3' : x.locks = Int.ofNat 1 := hx3
        have hx4 : isE (stepS 30 s l[i]).es key = true := by simp [isE, hx1]
        have hx5 : lookE (stepS 30 s l[i]).es key = x := by simp [lookE, hx1]
        repeat' (first
          | apply WOps.nil | apply WC.seq | apply WC.reg | apply WC.skip | apply WC.ret | apply WC.exit | (apply WC.condT; rfl) | (apply WC.condF; rfl) | apply WC.block | (apply WOps.ldG; rfl; rfl; (first | exact ld0 rfl | exact ld1 rfl | exact ld2 rfl); rfl) | (apply WOps.st; rfl; rfl; (first | exact tk0 | exact tk1 | exact tk2); rfl; (first | rfl | ((repeat' (first | exact ac0 | apply ac1)) <;> (first | rfl | assumption))); rfl) | (apply WOps.alc; rfl; intro _) | (apply WOps.clA; rfl; rfl; exact step27_ok (t := l[i]) hm h64 hI (hkl i hlt) b2.cons; rintro _ H1 ⟨rfl, b1⟩) | (apply WOps.clR; rfl; rfl; exact get28_b (key := key) hm hI1 h64 b1; rintro _ rfl; rw [hx4, hx5]) | (apply WOps.neqQ; rfl; rfl; rfl; assumption) | (apply WOps.addN; rfl; rfl; rfl; omega) | (apply WOps.neqF; rfl; rfl; rfl; decide) | (apply WOps.neqT; rfl; rfl; rfl; decide) | (apply WOps.eqlF; rfl; rfl; rfl; decide) | (apply WOps.eqlT; rfl; rfl; rfl; decide) | (apply WOps.cmp; rfl; rfl; rfl; rfl; intro _ _) | (apply WOps.cmpT; rfl; rfl; rfl; rfl; intro _ _) | (apply WOps.purG; rfl; (intro _; rfl)) | (apply WOps.skp; rfl) | (apply WOps.ask; rfl; all_goals (intro hb; first | subst hb | fail_if_success (cases hb))) | (apply WC.condA; rfl; all_goals (intro hb; try subst hb)))
        obtain ⟨H3, b3, s3⟩ := b1.cons.less (R1 := []) (subF (by intro f; simp only [AV.cells, List.append_eq, List.map_cons, List.map_nil, List.sum_nil, List.map_append, List.sum_cons, List.sum_append, List.cons_append, List.nil_append, List.append_assoc, List.append_nil]; omega))
        exact WL.le (t' := [(0, .str key), (1, .int .u64 mine), (2, wl), (7, .ptr ⟨false, kp, 0⟩), (8, .ptr ⟨false, w, 0⟩), (9, .int .i64 (.ofNat (i + 1)))]) (Sub1.cons rfl (Sub1.cons rfl (Sub1.cons rfl (Sub1.cons rfl (Sub1.cons rfl (Sub1.cons rfl Sub1.nil)))))) (WL.lessP s3 (ih _ (by omega) (i + 1) _ hh hI1 H3 b3 (by omega) rfl))
      · have hq1 := eq_of_ff ‹false = true ↔ cmpP BinOp.eql l[i].ses mine›
        have hq3 := eq_of_ff ‹false = true ↔ cmpS BinOp.eql l[i].key key›
        simp only [cmpP, cmpS] at hq1 hq3
        have hq2 : ¬ (l[i].key = key ∧ (l[i].kind = Int.ofNat 2 ∨ l[i].kind = Int.ofNat 3)) := fun h => hq3 h.1
        have hh := held_step (most := 30) (t := l[i]) hI.1 hheld hmz hq1 hq2
        obtain ⟨x, hx1, hx2, hx3⟩ := id hh
        have hx3' : x.locks = Int.ofNat 1 := hx3
        have hx4 : isE (stepS 30 s l[i]).es key = true := by simp [isE, hx1]
        have hx5 : lookE (stepS 30 s l[i]).es key = x := by simp [lookE, hx1]
        repeat' (first
          | apply WOps.nil | apply WC.seq | apply WC.reg | apply WC.skip | apply WC.ret | apply WC.exit | (apply WC.condT; rfl) | (apply WC.condF; rfl) | apply WC.block | (apply WOps.ldG; rfl; rfl; (first | exact ld0 rfl | exact ld1 rfl | exact ld2 rfl); rfl) | (apply WOps.st; rfl; rfl; (first | exact tk0 | exact tk1 | exact tk2); rfl; (first | rfl | ((repeat' (first | exact ac0 | apply ac1)) <;> (first | rfl | assumption))); rfl) | (apply WOps.alc; rfl; intro _) | (apply WOps.clA; rfl; rfl; exact step27_ok (t := l[i]) hm h64 hI (hkl i hlt) b2.cons; rintro _ H1 ⟨rfl, b1⟩) | (apply WOps.clR; rfl; rfl; exact get28_b (key := key) hm hI1 h64 b1; rintro _ rfl; rw [hx4, hx5]) | (apply WOps.neqQ; rfl; rfl; rfl; assumption) | (apply WOps.addN; rfl; rfl; rfl; omega) | (apply WOps.neqF; rfl; rfl; rfl; decide) | (apply WOps.neqT; rfl; rfl; rfl; decide) | (apply WOps.eqlF; rfl; rfl; rfl; decide) | (apply WOps.eqlT; rfl; rfl; rfl; decide) | (apply WOps.cmp; rfl; rfl; rfl; rfl; intro _ _) | (apply WOps.cmpT; rfl; rfl; rfl; rfl; intro _ _) | (apply WOps.purG; rfl; (intro _; rfl)) | (apply WOps.skp; rfl) | (apply WOps.ask; rfl; all_goals (intro hb; first | subst hb | fail_if_success (cases hb))) | (apply WC.condA; rfl; all_goals (intro hb; try subst hb)))
        obtain ⟨H3, b3, s3⟩ := b1.cons.less (R1 := []) (subF (by intro f; simp only [AV.cells, List.append_eq, List.map_cons, List.map_nil, List.sum_nil, List.map_append, List.sum_cons, List.sum_append, List.cons_append, List.nil_append, List.append_assoc, List.append_nil]; omega))
        exact WL.le (t' := [(0, .str key), (1, .int .u64 mine), (2, wl), (7, .ptr ⟨false, kp, 0⟩), (8, .ptr ⟨false, w, 0⟩), (9, .int .i64 (.ofNat (i + 1)))]) (Sub1.cons rfl (Sub1.cons rfl (Sub1.cons rfl (Sub1.cons rfl (Sub1.cons rfl (Sub1.cons rfl Sub1.nil)))))) (WL.lessP s3 (ih _ (by omega) (i + 1) _ hh hI1 H3 b3 (by omega) rfl))
    · exact ⟨trivial, [_], ⟨_, [], rfl, rfl, rfl⟩, rfl⟩
    · exact ⟨trivial, [_], ⟨_, [], rfl, rfl, rfl⟩, rfl⟩
theorem load_b {H R h' : HL} {kp a w : Nat} {s : S} {n : Int} {r : AV} (g : Good n s) (hI : Inv 64 s) (b : Both2 H kp a w 64 s s R) (o : OwnSl r (s.es.map entC).flatten s.es.length 6 h') :
    WF B tab (.func 19) [.int .i64 (Int.ofNat 64), r, .int .u64 s.last] (h' ++ H) fun v H' => ∃ kp2 a2 G, v = .tup [.ptr ⟨false, kp2, 0⟩, .int .i64 (.ofNat 0)] ∧ Both2 H' kp2 a2 w 64 s s (G ++ R) := by
  have hM : mostOf (Int.ofNat 64) = 64 := by decide
  have hl := load19_ok (B := B) (most := Int.ofNat 64) (last := s.last) (SlIs.left (R := H) (ents_sl o)) g.lo (by have := hI.2; omega)
  rw [hM] at hl
  refine hl.mono ?_
  rintro v H' (⟨_, kp2, a2, rfl, v', hs', o', p'⟩ | ⟨hno, _, _⟩)
  · obtain ⟨v0, hs, v2, hs2, o1, o2, p⟩ := b
    refine ⟨kp2, a2, h' ++ ((kp, .row [.ptr ⟨false, a, 0⟩]) :: (a, .row (tblC 64 v0 s.last)) :: hs), rfl, v', hs', v2, hs2, o', o2, ?_⟩
    refine p'.trans ?_
    refine permF fun f => ?_
    have := sum_perm p f
    simp only [List.map_append, List.sum_append, List.map_cons, List.sum_cons] at this ⊢
    omega
  · exact absurd (g.may hI) hno
theorem WD.eqlS2 {t : EL} {H : HL} {HH : List (Nat × HL)} {Q : EL → HL → Prop} {os : List DOper} {k : Nat} {g : Option (Nat × Bool)} {i bs : Nat} {x y : AO} {m n : Nat} {ki : IntKind} (hg : wantedL g t = some true) (hx : gl t x = some (.int ki (.ofNat m))) (hy : gl t y = some (.int ki (.ofNat n))) (hd : Nat.beq m n = true)
    (w : WD B tab os ((k, .bool true) :: t) H HH Q) : WD B tab (⟨⟨some k, .bin .eql x y, g⟩, .quiet, i, bs⟩ :: os) t H HH Q := WD.eqlT hg hx hy hd w
set_option maxHeartbeats 4000000 in
theorem back_ok {wl : AV} {l : List St} (hw : SlIs B [] wl 6 (l.map stC)) (hlen : l.length ≤ 9223372036854775807) (hkl : ∀ (i : Nat) (h : i < l.length), l[i].key.length ≤ 9223372036854775807) :
    WF B tab (.func 8) [wl] [] fun r _ => r = .bool true := by
  refine WF.fn g8 rfl ?_
  have hm : 1 ≤ 64 := by decide
  have h64 : 64 ≤ 64 := by decide
  have hM : mostOf (Int.ofNat 64) = 64 := by decide
  repeat' (first
    | apply WOps.nil | apply WC.seq | apply WC.reg | apply WC.skip | apply WC.ret | apply WC.exit | (apply WC.condT; rfl) | (apply WC.condF; rfl) | apply WC.block | apply WC.dreg | apply WD.nil | (apply WOps.ldG; rfl; rfl; (first | exact ld0 rfl | exact ld1 rfl | exact ld2 rfl); rfl) | (apply WOps.st; rfl; rfl; (first | exact tk0 | exact tk1 | exact tk2); rfl; (first | rfl | ((repeat' (first | exact ac0 | apply ac1)) <;> (first | rfl | assumption))); rfl) | (apply WOps.alc; rfl; intro _) | (apply WD.st; rfl; rfl; rfl; (first | exact tk0 | exact tk1 | exact tk2); rfl; (first | rfl | ((repeat' (first | exact ac0 | apply ac1)) <;> (first | rfl | assumption))); rfl) | (apply WD.alc; rfl; rfl; intro _) | (apply WOps.clA; rfl; rfl; exact new25_ok _; rw [hM]; rintro _ _ ⟨kp, a, rfl, rfl⟩) | (apply WOps.clA; rfl; rfl; exact new26_ok _; rw [hM]; rintro _ _ ⟨w, rfl, rfl⟩) | (apply WOps.cmp; rfl; rfl; rfl; rfl; intro _ _) | (apply WOps.cmpT; rfl; rfl; rfl; rfl; intro _ _) | (apply WOps.purG; rfl; (intro _; rfl)) | (apply WOps.skp; rfl) | (apply WD.load; rfl; (first | (apply at1; (first | exact rd0 rfl rfl rfl | exact rd1 rfl rfl rfl | exact rd2 rfl rfl rfl); rfl) | (apply at2; (first | exact rd0 rfl rfl rfl | exact rd1 rfl rfl rfl | exact rd2 rfl rfl rfl); repeat' (first | exact same0 | (apply same1; (first | exact rd0 rfl rfl rfl | exact rd1 rfl rfl rfl | exact rd2 rfl rfl rfl); rfl) | (apply same2; (first | exact rd0 rfl rfl rfl | exact rd1 rfl rfl rfl | exact rd2 rfl rfl rfl)))))) | (apply WD.cmp; rfl; rfl; rfl; rfl; intro _ _) | (apply WD.cmpT; rfl; rfl; rfl; rfl; intro _ _) | (apply WD.pur; rfl; (intro _; rfl)) | (apply WD.skp; rfl) | (apply WD.skpL; rfl) | (apply WD.skpX; rfl) | (apply WOps.ask; rfl; all_goals (intro hb; first | subst hb | fail_if_success (cases hb))) | (apply WC.condA; rfl; all_goals (intro hb; try subst hb)) | (apply WD.ask; rfl; all_goals (intro hb; first | subst hb | fail_if_success (cases hb))))
  refine WC.loop ?_
  obtain ⟨i, hi⟩ : ∃ i : Nat, i = 0 := ⟨0, rfl⟩
  obtain ⟨s, hs⟩ : ∃ s : S, s = s0 := ⟨_, rfl⟩
  obtain ⟨H, hH⟩ : ∃ h : HL, h = (w, .row [.int .i64 (.ofNat 64), .nilsl, .int .u64 (.ofNat 0)]) :: (kp, .row [.ptr ⟨false, a, 0⟩]) :: (a, .row [.int .i64 (.ofNat 64), .nilsl, .int .u64 (.ofNat 0)]) :: [] := ⟨_, rfl⟩
  refine WL.le (t' := [(0, wl), (3, .ptr ⟨false, kp, 0⟩), (4, .ptr ⟨false, w, 0⟩), (5, .int .u64 (.ofNat i)), (6, .int .i64 (.ofNat i))]) (by subst hi; exact Sub1.cons rfl (Sub1.cons rfl (Sub1.cons rfl (Sub1.cons rfl (Sub1.cons rfl Sub1.nil))))) ?_
  refine WL.heq (H' := H) hH.symm ?_
  have b : Both2 H kp a w 64 s s [] := by
    subst hs hH
    exact ⟨.nilsl, [], .nilsl, [], .inl ⟨rfl, rfl, rfl, rfl⟩, .inl ⟨rfl, rfl, rfl, rfl⟩, (List.Perm.swap _ _ _).trans (List.Perm.cons _ (List.Perm.swap _ _ _))⟩
  have hI : Inv 64 s := by subst hs; exact inv0
  have hG : Good (Int.ofNat i) s := by subst hs hi; exact good0
  have hle : i ≤ l.length := by omega
  have hle2 : i ≤ 80 := by omega
  clear hi hs hH
  induction hk : l.length - i using Nat.strongRecOn generalizing i s H kp a with | _ k ih => ?_
  apply WL.step
  repeat' (first
    | apply WOps.nil | apply WC.seq | apply WC.reg | apply WC.skip | apply WC.ret | apply WC.exit | (apply WC.condT; rfl) | (apply WC.condF; rfl) | apply WC.block | apply WC.dreg | apply WD.nil | (apply WOps.ldG; rfl; rfl; (first | exact ld0 rfl | exact ld1 rfl | exact ld2 rfl); rfl) | (apply WOps.st; rfl; rfl; (first | exact tk0 | exact tk1 | exact tk2); rfl; (first | rfl | ((repeat' (first | exact ac0 | apply ac1)) <;> (first | rfl | assumption))); rfl) | (apply WOps.alc; rfl; intro _) | (apply WD.st; rfl; rfl; rfl; (first | exact tk0 | exact tk1 | exact tk2); rfl; (first | rfl | ((repeat' (first | exact ac0 | apply ac1)) <;> (first | rfl | assumption))); rfl) | (apply WD.alc; rfl; rfl; intro _) | (apply WOps.lenS; rfl; rfl; exact hw.any) | (apply WOps.clA; rfl; rfl; exact listAll_b hm hI h64 b; rintro r _ ⟨h', o, rfl⟩) | (apply WOps.clR; rfl; rfl; exact last24_b hm (b.app h'); rintro _ rfl) | (apply WOps.clA; rfl; rfl; exact load_b hG hI b o; rintro _ H2 ⟨kp2, a2, G, rfl, b2⟩) | (apply WOps.neqF; rfl; rfl; rfl; decide) | (apply WOps.neqT; rfl; rfl; rfl; decide) | (apply WOps.eqlF; rfl; rfl; rfl; decide) | (apply WOps.eqlT; rfl; rfl; rfl; decide) | (apply WD.neqF; rfl; rfl; rfl; decide) | (apply WD.neqT; rfl; rfl; rfl; decide) | (apply WD.eqlF; rfl; rfl; rfl; decide) | (apply WD.eqlT; rfl; rfl; rfl; decide) | (apply WOps.cmp; rfl; rfl; rfl; rfl; intro _ _) | (apply WOps.cmpT; rfl; rfl; rfl; rfl; intro _ _) | (apply WOps.purG; rfl; (intro _; rfl)) | (apply WOps.skp; rfl) | (apply WD.load; rfl; (first | (apply at1; (first | exact rd0 rfl rfl rfl | exact rd1 rfl rfl rfl | exact rd2 rfl rfl rfl); rfl) | (apply at2; (first | exact rd0 rfl rfl rfl | exact rd1 rfl rfl rfl | exact rd2 rfl rfl rfl); repeat' (first | exact same0 | (apply same1; (first | exact rd0 rfl rfl rfl | exact rd1 rfl rfl rfl | exact rd2 rfl rfl rfl); rfl) | (apply same2; (first | exact rd0 rfl rfl rfl | exact rd1 rfl rfl rfl | exact rd2 rfl rfl rfl)))))) | (apply WD.cmp; rfl; rfl; rfl; rfl; intro _ _) | (apply WD.cmpT; rfl; rfl; rfl; rfl; intro _ _) | (apply WD.pur; rfl; (intro _; rfl)) | (apply WD.skp; rfl) | (apply WD.skpL; rfl) | (apply WD.skpX; rfl) | (apply WOps.ask; rfl; all_goals (intro hb; first | subst hb | fail_if_success (cases hb))) | (apply WC.condA; rfl; all_goals (intro hb; try subst hb)) | (apply WD.ask; rfl; all_goals (intro hb; first | subst hb | fail_if_success (cases hb))))
  · have hlt : i < l.length := by
      have h0 := ‹true = true ↔ cmpP BinOp.lss (Int.ofNat i) (Int.ofNat (List.map stC l).length)›
      rw [List.length_map] at h0
      simp [cmpP] at h0; omega
    have hlt2 : i < 80 := by
      have h0 := ‹true = true ↔ cmpP BinOp.lss (Int.ofNat i) (Int.ofNat 80)›
      simp [cmpP] at h0; omega
    have hcm : (l.map stC)[i]? = some (stC l[i]) := by rw [List.getElem?_map, List.getElem?_eq_getElem hlt]; rfl
    have hI1 : Inv 64 (stepS 64 s { l[i] with ix := Int.ofNat (i + 1) }) := hI.step
    have hG1 : Good (Int.ofNat (i + 1)) (stepS 64 s { l[i] with ix := Int.ofNat (i + 1) }) := hG.stepS rfl
    repeat' (first
      | apply WOps.nil | apply WC.seq | apply WC.reg | apply WC.skip | apply WC.ret | apply WC.exit | (apply WC.condT; rfl) | (apply WC.condF; rfl) | apply WC.block | apply WC.dreg | apply WD.nil | (apply WOps.ldG; rfl; rfl; (first | exact ld0 rfl | exact ld1 rfl | exact ld2 rfl); rfl) | (apply WOps.st; rfl; rfl; (first | exact tk0 | exact tk1 | exact tk2); rfl; (first | rfl | ((repeat' (first | exact ac0 | apply ac1)) <;> (first | rfl | assumption))); rfl) | (apply WOps.alc; rfl; intro _) | (apply WD.st; rfl; rfl; rfl; (first | exact tk0 | exact tk1 | exact tk2); rfl; (first | rfl | ((repeat' (first | exact ac0 | apply ac1)) <;> (first | rfl | assumption))); rfl) | (apply WD.alc; rfl; rfl; intro _) | (apply WOps.ixSl; rfl; rfl; rfl; exact hw.any; exact hcm; intro ax hax) | (apply WOps.ldG; rfl; rfl; exact hax; rfl) | (apply WOps.addU; rfl; rfl; rfl; omega) | (apply WOps.clA; rfl; rfl; exact listAll_b hm hI h64 b.cons; rintro r _ ⟨h', o, rfl⟩) | (apply WOps.clR; rfl; rfl; exact last24_b hm (b.cons.app h'); rintro _ rfl) | (apply WOps.clA; rfl; rfl; exact load_b hG hI b.cons o; rintro _ H2 ⟨kp2, a2, G, rfl, b2⟩) | (apply WOps.ldG; rfl; rfl; exact b2.ld (Ld.right (ld0 rfl)); rfl) | (apply WOps.clA; rfl; rfl; exact step27_ok (t := { l[i] with ix := Int.ofNat (i + 1) }) hm h64 hI (hkl i hlt) b2; rintro _ H1 ⟨rfl, b1⟩) | (apply WOps.clA; rfl; rfl; exact step27_ok (t := { l[i] with ix := Int.ofNat (i + 1) }) hm h64 hI (hkl i hlt) b.cons; rintro _ H1 ⟨rfl, b1⟩) | (apply WOps.addN; rfl; rfl; rfl; omega) | (apply WOps.neqF; rfl; rfl; rfl; decide) | (apply WOps.neqT; rfl; rfl; rfl; decide) | (apply WOps.eqlF; rfl; rfl; rfl; decide) | (apply WOps.eqlT; rfl; rfl; rfl; decide) | (apply WD.neqF; rfl; rfl; rfl; decide) | (apply WD.neqT; rfl; rfl; rfl; decide) | (apply WD.eqlF; rfl; rfl; rfl; decide) | (apply WD.eqlT; rfl; rfl; rfl; decide) | (apply WOps.cmp; rfl; rfl; rfl; rfl; intro _ _) | (apply WOps.cmpT; rfl; rfl; rfl; rfl; intro _ _) | (apply WOps.purG; rfl; (intro _; rfl)) | (apply WOps.skp; rfl) | (apply WD.load; rfl; (first | (apply at1; (first | exact rd0 rfl rfl rfl | exact rd1 rfl rfl rfl | exact rd2 rfl rfl rfl); rfl) | (apply at2; (first | exact rd0 rfl rfl rfl | exact rd1 rfl rfl rfl | exact rd2 rfl rfl rfl); repeat' (first | exact same0 | (apply same1; (first | exact rd0 rfl rfl rfl | exact rd1 rfl rfl rfl | exact rd2 rfl rfl rfl); rfl) | (apply same2; (first | exact rd0 rfl rfl rfl | exact rd1 rfl rfl rfl | exact rd2 rfl rfl rfl)))))) | (apply WD.cmp; rfl; rfl; rfl; rfl; intro _ _) | (apply WD.cmpT; rfl; rfl; rfl; rfl; intro _ _) | (apply WD.pur; rfl; (intro _; rfl)) | (apply WD.skp; rfl) | (apply WD.skpL; rfl) | (apply WD.skpX; rfl) | (apply WOps.ask; rfl; all_goals (intro hb; first | subst hb | fail_if_success (cases hb))) | (apply WC.condA; rfl; all_goals (intro hb; try subst hb)) | (apply WD.ask; rfl; all_goals (intro hb; first | subst hb | fail_if_success (cases hb))))
    · obtain ⟨H3, b3, s3⟩ := b1.less (R1 := []) (subF (by intro f; simp only [AV.cells, List.append_eq, List.map_cons, List.map_nil, List.sum_nil, List.map_append, List.sum_cons, List.sum_append, List.cons_append, List.nil_append, List.append_assoc, List.append_nil]; omega))
      exact WL.le (t' := [(0, wl), (3, .ptr ⟨false, kp2, 0⟩), (4, .ptr ⟨false, w, 0⟩), (5, .int .u64 (.ofNat (i + 1))), (6, .int .i64 (.ofNat (i + 1)))]) (Sub1.cons rfl (Sub1.cons rfl (Sub1.cons rfl (Sub1.cons rfl (Sub1.cons rfl Sub1.nil))))) (WL.lessP s3 (ih _ (by omega) kp2 a2 (i + 1) _ H3 b3 hI1 hG1 (by omega) (by omega) rfl))
    · obtain ⟨H3, b3, s3⟩ := b1.less (R1 := []) (subF (by intro f; simp only [AV.cells, List.append_eq, List.map_cons, List.map_nil, List.sum_nil, List.map_append, List.sum_cons, List.sum_append, List.cons_append, List.nil_append, List.append_assoc, List.append_nil]; omega))
      exact WL.le (t' := [(0, wl), (3, .ptr ⟨false, kp, 0⟩), (4, .ptr ⟨false, w, 0⟩), (5, .int .u64 (.ofNat (i + 1))), (6, .int .i64 (.ofNat (i + 1)))]) (Sub1.cons rfl (Sub1.cons rfl (Sub1.cons rfl (Sub1.cons rfl (Sub1.cons rfl Sub1.nil))))) (WL.lessP s3 (ih _ (by omega) kp a (i + 1) _ H3 b3 hI1 hG1 (by omega) (by omega) rfl))
  · have hn := hI.2
    obtain ⟨v, f1, g2⟩ := b2.ldL (B := B)
    have f2 := b2.ldLast (B := B)
    repeat' (first
      | apply WOps.nil | apply WC.seq | apply WC.reg | apply WC.skip | apply WC.ret | apply WC.exit | (apply WC.condT; rfl) | (apply WC.condF; rfl) | apply WC.block | apply WC.dreg | apply WD.nil | (apply WOps.ldG; rfl; rfl; (first | exact ld0 rfl | exact ld1 rfl | exact ld2 rfl); rfl) | (apply WOps.st; rfl; rfl; (first | exact tk0 | exact tk1 | exact tk2); rfl; (first | rfl | ((repeat' (first | exact ac0 | apply ac1)) <;> (first | rfl | assumption))); rfl) | (apply WOps.alc; rfl; intro _) | (apply WD.st; rfl; rfl; rfl; (first | exact tk0 | exact tk1 | exact tk2); rfl; (first | rfl | ((repeat' (first | exact ac0 | apply ac1)) <;> (first | rfl | assumption))); rfl) | (apply WD.alc; rfl; rfl; intro _) | (apply WD.clA; rfl; rfl; exact listAll_b hm hI h64 b2; rintro r2 _ ⟨h2, o2, rfl⟩) | (apply WD.load; rfl; (apply at2; exact rd_ld0 rfl (Ld.right f1); (apply same2; exact rd_ld0 rfl f1; exact same0))) | (apply WD.clR; rfl; rfl; exact same22_ok (SlIs.left (ents_sl o2)) (SlIs.right g2) ents_T ents_T (by rw [List.length_map]; omega); rintro _ ⟨bb, rfl, hbb⟩; obtain rfl : bb = true := hbb.2 rfl) | (apply WD.clR; rfl; rfl; exact last24_b hm (b2.app h2); rintro _ rfl) | (apply WD.load; rfl; (apply at2; exact rd_ld0 rfl (Ld.right f2); (apply same1; exact rd_ld0 rfl (Ld.right f2); rfl))) | (apply WD.eqlS; rfl; rfl; rfl) | (apply WD.cl1; rfl; rfl; exact WF.const g21) | (apply WOps.neqF; rfl; rfl; rfl; decide) | (apply WOps.neqT; rfl; rfl; rfl; decide) | (apply WOps.eqlF; rfl; rfl; rfl; decide) | (apply WOps.eqlT; rfl; rfl; rfl; decide) | (apply WD.neqF; rfl; rfl; rfl; decide) | (apply WD.neqT; rfl; rfl; rfl; decide) | (apply WD.eqlF; rfl; rfl; rfl; decide) | (apply WD.eqlT; rfl; rfl; rfl; decide) | (apply WOps.cmp; rfl; rfl; rfl; rfl; intro _ _) | (apply WOps.cmpT; rfl; rfl; rfl; rfl; intro _ _) | (apply WOps.purG; rfl; (intro _; rfl)) | (apply WOps.skp; rfl) | (apply WD.load; rfl; (first | (apply at1; (first | exact rd0 rfl rfl rfl | exact rd1 rfl rfl rfl | exact rd2 rfl rfl rfl); rfl) | (apply at2; (first | exact rd0 rfl rfl rfl | exact rd1 rfl rfl rfl | exact rd2 rfl rfl rfl); repeat' (first | exact same0 | (apply same1; (first | exact rd0 rfl rfl rfl | exact rd1 rfl rfl rfl | exact rd2 rfl rfl rfl); rfl) | (apply same2; (first | exact rd0 rfl rfl rfl | exact rd1 rfl rfl rfl | exact rd2 rfl rfl rfl)))))) | (apply WD.cmp; rfl; rfl; rfl; rfl; intro _ _) | (apply WD.cmpT; rfl; rfl; rfl; rfl; intro _ _) | (apply WD.pur; rfl; (intro _; rfl)) | (apply WD.skp; rfl) | (apply WD.skpL; rfl) | (apply WD.skpX; rfl) | (apply WOps.ask; rfl; all_goals (intro hb; first | subst hb | fail_if_success (cases hb))) | (apply WC.condA; rfl; all_goals (intro hb; try subst hb)) | (apply WD.ask; rfl; all_goals (intro hb; first | subst hb | fail_if_success (cases hb))))
    exact ⟨trivial, [_], ⟨_, [], rfl, rfl, rfl⟩, rfl⟩
  · have hn := hI.2
    obtain ⟨v, f1, g2⟩ := b2.ldL (B := B)
    have f2 := b2.ldLast (B := B)
    repeat' (first
      | apply WOps.nil | apply WC.seq | apply WC.reg | apply WC.skip | apply WC.ret | apply WC.exit | (apply WC.condT; rfl) | (apply WC.condF; rfl) | apply WC.block | apply WC.dreg | apply WD.nil | (apply WOps.ldG; rfl; rfl; (first | exact ld0 rfl | exact ld1 rfl | exact ld2 rfl); rfl) | (apply WOps.st; rfl; rfl; (first | exact tk0 | exact tk1 | exact tk2); rfl; (first | rfl | ((repeat' (first | exact ac0 | apply ac1)) <;> (first | rfl | assumption))); rfl) | (apply WOps.alc; rfl; intro _) | (apply WD.st; rfl; rfl; rfl; (first | exact tk0 | exact tk1 | exact tk2); rfl; (first | rfl | ((repeat' (first | exact ac0 | apply ac1)) <;> (first | rfl | assumption))); rfl) | (apply WD.alc; rfl; rfl; intro _) | (apply WD.clA; rfl; rfl; exact listAll_b hm hI h64 b2; rintro r2 _ ⟨h2, o2, rfl⟩) | (apply WD.load; rfl; (apply at2; exact rd_ld0 rfl (Ld.right f1); (apply same2; exact rd_ld0 rfl f1; exact same0))) | (apply WD.clR; rfl; rfl; exact same22_ok (SlIs.left (ents_sl o2)) (SlIs.right g2) ents_T ents_T (by rw [List.length_map]; omega); rintro _ ⟨bb, rfl, hbb⟩; obtain rfl : bb = true := hbb.2 rfl) | (apply WD.clR; rfl; rfl; exact last24_b hm (b2.app h2); rintro _ rfl) | (apply WD.load; rfl; (apply at2; exact rd_ld0 rfl (Ld.right f2); (apply same1; exact rd_ld0 rfl (Ld.right f2); rfl))) | (apply WD.eqlS; rfl; rfl; rfl) | (apply WD.cl1; rfl; rfl; exact WF.const g21) | (apply WOps.neqF; rfl; rfl; rfl; decide) | (apply WOps.neqT; rfl; rfl; rfl; decide) | (apply WOps.eqlF; rfl; rfl; rfl; decide) | (apply WOps.eqlT; rfl; rfl; rfl; decide) | (apply WD.neqF; rfl; rfl; rfl; decide) | (apply WD.neqT; rfl; rfl; rfl; decide) | (apply WD.eqlF; rfl; rfl; rfl; decide) | (apply WD.eqlT; rfl; rfl; rfl; decide) | (apply WOps.cmp; rfl; rfl; rfl; rfl; intro _ _) | (apply WOps.cmpT; rfl; rfl; rfl; rfl; intro _ _) | (apply WOps.purG; rfl; (intro _; rfl)) | (apply WOps.skp; rfl) | (apply WD.load; rfl; (first | (apply at1; (first | exact rd0 rfl rfl rfl | exact rd1 rfl rfl rfl | exact rd2 rfl rfl rfl); rfl) | (apply at2; (first | exact rd0 rfl rfl rfl | exact rd1 rfl rfl rfl | exact rd2 rfl rfl rfl); repeat' (first | exact same0 | (apply same1; (first | exact rd0 rfl rfl rfl | exact rd1 rfl rfl rfl | exact rd2 rfl rfl rfl); rfl) | (apply same2; (first | exact rd0 rfl rfl rfl | exact rd1 rfl rfl rfl | exact rd2 rfl rfl rfl)))))) | (apply WD.cmp; rfl; rfl; rfl; rfl; intro _ _) | (apply WD.cmpT; rfl; rfl; rfl; rfl; intro _ _) | (apply WD.pur; rfl; (intro _; rfl)) | (apply WD.skp; rfl) | (apply WD.skpL; rfl) | (apply WD.skpX; rfl) | (apply WOps.ask; rfl; all_goals (intro hb; first | subst hb | fail_if_success (cases hb))) | (apply WC.condA; rfl; all_goals (intro hb; try subst hb)) | (apply WD.ask; rfl; all_goals (intro hb; first | subst hb | fail_if_success (cases hb))))
    exact ⟨trivial, [_], ⟨_, [], rfl, rfl, rfl⟩, rfl⟩
theorem ty66 : tyOf Try.prog 66 = .st [(0, 1, 9), (1, 1, 9)] := by kernel_rfl
theorem t66 : (shapeOf Try.prog 66).1 = true := by kernel_rfl
theorem kvOnce_wf (B : Nat → List AV) (args : List AV) (h : ArgIs Try.prog B Try.f6.params.toList args) : WF B tab (.func 6) args [] fun v _ => v = .bool true := by
  rw [show Try.f6.params.toList = [52, 9, 66] from by kernel_rfl] at h
  match args, h with
  | [a, b, c], ⟨⟨n, cs, h, ha⟩, ⟨n2, ds, k, hb⟩, ⟨n3, es, j, hc⟩, _⟩ =>
    rw [show (shapeOf Try.prog 52).1 = false from by kernel_rfl] at ha
    rw [show (shapeOf Try.prog 9).1 = false from by kernel_rfl] at hb
    rw [t66] at hc
    simp only at ha hb hc
    obtain ⟨m2, w, xs, rfl, k1, k2, k3⟩ := h.slice t52
    obtain ⟨l, rfl, hl⟩ := sts_of k3
    obtain ⟨s, rfl, _, _⟩ := k.str t9
    obtain ⟨m3, j1⟩ := j.st ty66
    obtain ⟨b1, r1, rfl, _, _, j2⟩ := j1.str t9
    obtain ⟨b2, r2, rfl, _, _, j3⟩ := j2.str t9
    obtain rfl := j3.nil
    cases ha
    cases hb
    subst hc
    exact once_ok k1 (by simpa using k2) hl
theorem kvHeld_wf (B : Nat → List AV) (args : List AV) (h : ArgIs Try.prog B Try.f7.params.toList args) : WF B tab (.func 7) args [] fun v _ => v = .bool true := by
  rw [show Try.f7.params.toList = [9, 25, 52] from by kernel_rfl] at h
  match args, h with
  | [a, b, c], ⟨⟨n, cs, h, ha⟩, ⟨n2, ds, k, hb⟩, ⟨n3, es, j, hc⟩, _⟩ =>
    rw [show (shapeOf Try.prog 9).1 = false from by kernel_rfl] at ha
    rw [show (shapeOf Try.prog 25).1 = false from by kernel_rfl] at hb
    rw [show (shapeOf Try.prog 52).1 = false from by kernel_rfl] at hc
    simp only at ha hb hc
    obtain ⟨s, rfl, _, _⟩ := h.str t9
    obtain ⟨m, rfl, _⟩ := k.int t25
    obtain ⟨m2, w, xs, rfl, k1, k2, k3⟩ := j.slice t52
    obtain ⟨l, rfl, hl⟩ := sts_of k3
    cases ha
    cases hb
    cases hc
    exact held_ok k1 (by simpa using k2) hl
theorem kvBack_wf (B : Nat → List AV) (args : List AV) (h : ArgIs Try.prog B Try.f8.params.toList args) : WF B tab (.func 8) args [] fun v _ => v = .bool true := by
  rw [show Try.f8.params.toList = [52] from by kernel_rfl] at h
  match args, h with
  | [a], ⟨⟨n, cs, h, ha⟩, _⟩ =>
    rw [show (shapeOf Try.prog 52).1 = false from by kernel_rfl] at ha
    simp only at ha
    obtain ⟨m2, w, xs, rfl, k1, k2, k3⟩ := h.slice t52
    obtain ⟨l, rfl, hl⟩ := sts_of k3
    cases ha
    exact back_ok k1 (by simpa using k2) hl
end Go.Proofs.Ytlfhlkndccjejaa.KV
