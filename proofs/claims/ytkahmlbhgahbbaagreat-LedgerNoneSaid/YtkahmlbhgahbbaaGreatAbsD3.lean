/- A region whose order is open: one operation more, in any order. -/
import Derived.Test.YtkahmlbhgahbbaaGreatAbsD2
set_option linter.unusedSimpArgs false
set_option linter.unusedVariables false
set_option linter.unusedSectionVars false
set_option linter.constructorNameAsVariable false
namespace Go.Proofs.YtkahmlbhgahbbaaGreat.Abs

structure Rn (S : Sta) (call : Caller) (nt : Nat) (ops : Array Oper) (bs : List Nat) (ds : List DOper) (E : Nat → Tr AV) (A : Nat → AH) (G : Nat → List (Nat × AH)) (V : Nat → AV) (X : Nat → Nat → Prop) : Prop where
  src : ∀ (s : Nat) (d : DOper), ds[s]? = some d → ∃ o, ops[d.i]? = some o ∧ cOper S.P nt ops o = some d.o ∧ d.k = d.o.op.kind ∧ ∀ x, d.bs.testBit x = true → ∃ p, (p ∈ preds o ∨ X d.i p) ∧ (x = p ∨ (bsAt bs p).testBit x = true)
  bsd : ∀ (s : Nat) (d : DOper), ds[s]? = some d → d.bs = bsAt bs d.i
  step : ∀ (s : Nat) (d : DOper), ds[s]? = some d → DStep S.B call d (E s) (A s) (G s) (V s) (E (s + 1)) (A (s + 1)) (G (s + 1))
  inj : ∀ (s : Nat) (d : DOper) (p : Nat) (q : DOper), ds[s]? = some d → ds[p]? = some q → d.i = q.i → s = p
  loud : ∀ (s : Nat) (d : DOper), ds[s]? = some d → d.k = .loud → ∀ (p : Nat) (q : DOper), p < s → ds[p]? = some q → d.bs.testBit q.i = true
  onto : ∀ i, i < ops.size → ∃ (s : Nat) (d : DOper), ds[s]? = some d ∧ d.i = i
  tmp : ∀ (p s : Nat) (d q : DOper), p < s → ds[p]? = some d → ds[s]? = some q →
    (∀ t, q.o.dst = some t → t ∈ names d.o → q.bs.testBit d.i = true) ∧ (∀ t, d.o.dst = some t → t ∈ names q.o → q.bs.testBit d.i = true)
  g0 : ∃ x, G 0 = [(x, A 0)]

/-- What a temporary holds when the operations X have come. -/
def Holds (ds : List DOper) (V : Nat → AV) (env0 : Tr AV) (X : Nat → DOper → Prop) (t : Nat) (v : AV) : Prop :=
  (∃ (s : Nat) (d : DOper), ds[s]? = some d ∧ X s d ∧ d.o.dst = some t ∧ V s = v ∧ ∀ (p : Nat) (q : DOper), ds[p]? = some q → X p q → q.o.dst = some t → p ≤ s) ∨
  ((∀ (s : Nat) (d : DOper), ds[s]? = some d → X s d → d.o.dst ≠ some t) ∧ env0.get t = some v)

theorem Holds.congr {ds : List DOper} {V : Nat → AV} {env0 : Tr AV} {X Y : Nat → DOper → Prop} {t : Nat} {v : AV}
    (h : ∀ (p : Nat) (q : DOper), ds[p]? = some q → q.o.dst = some t → (X p q ↔ Y p q)) (k : Holds ds V env0 X t v) : Holds ds V env0 Y t v := by
  rcases k with ⟨s, d, h1, h2, h3, h4, h5⟩ | ⟨h1, h2⟩
  · exact .inl ⟨s, d, h1, (h s d h1 h3).1 h2, h3, h4, fun p q k1 k2 k3 => h5 p q k1 ((h p q k1 k3).2 k2) k3⟩
  · exact .inr ⟨fun s d k1 k2 k3 => h1 s d k1 ((h s d k1 k3).2 k2) k3, h2⟩

section rn
variable {S : Sta} {w0 : World} {call : Caller} {nt : Nat} {ops : Array Oper} {bs : List Nat} {ds : List DOper} {E : Nat → Tr AV} {A : Nat → AH} {G : Nat → List (Nat × AH)} {V : Nat → AV} {X : Nat → Nat → Prop}
  (R : Rn S call nt ops bs ds E A G V X)
include R

theorem Rn.mono : ∀ (r p : Nat), p ≤ r → r ≤ ds.length → (A p).next ≤ (A r).next := by
  intro r
  induction r with
  | zero => intro p h _; have : p = 0 := by omega
            subst this; exact Nat.le_refl _
  | succ r ih =>
    intro p h hr
    rcases Nat.lt_or_ge r p with h1 | h1
    · have : p = r + 1 := by omega
      subst this; exact Nat.le_refl _
    · exact Nat.le_trans (ih p h1 (by omega)) (R.step r ds[r] (List.getElem?_eq_getElem (by omega))).2.2.1

theorem Rn.lt {s : Nat} {d : DOper} (h : ds[s]? = some d) : s < ds.length := (List.getElem?_eq_some_iff.1 h).1

theorem Rn.nonloud {p : Nat} {d : DOper} (h : ds[p]? = some d) (hk : d.k ≠ .loud) : A (p + 1) = A p ∨ ∃ o, A (p + 1) = (A p).new o := by
  obtain ⟨_, _, _, h4⟩ := R.step p d h
  rcases h4 with ⟨_, _, h5⟩ | ⟨_, h5⟩
  · exact .inl h5
  · obtain ⟨o, _, _, hkk, _⟩ := R.src p d h
    cases hk' : d.k with
    | loud => exact absurd hk' hk
    | quiet =>
      rw [hk'] at h5
      rcases aop_quiet (by rw [← hkk, hk']) h5 with ⟨q, _⟩ | ⟨o, _, q, _⟩
      · exact .inl q
      · exact .inr ⟨o, q⟩
    | load => rw [hk'] at h5; exact .inl h5.1

theorem Rn.holds : ∀ (s : Nat), s ≤ ds.length → ∀ t v, (E s).get t = some v → Holds ds V (E 0) (fun p _ => p < s) t v := by
  intro s
  induction s with
  | zero => intro _ t v h; exact .inr ⟨fun s d _ h => absurd h (Nat.not_lt_zero _), h⟩
  | succ s ih =>
    intro hs t v h
    have hd : ds[s]? = some ds[s] := List.getElem?_eq_getElem (by omega)
    rw [(R.step s _ hd).1] at h
    by_cases hw : ds[s].o.dst = some t
    · rw [hw] at h
      simp only [setD, Tr.get_set_same] at h
      cases h
      exact .inl ⟨s, _, hd, Nat.lt_succ_self _, hw, rfl, fun p q _ hp _ => Nat.le_of_lt_succ hp⟩
    · have h' : (E s).get t = some v := by
        cases hdst : ds[s].o.dst with
        | none => rw [hdst] at h; exact h
        | some x =>
          rw [hdst] at h hw
          rwa [setD, Tr.get_set_ne _ _ (fun e => hw (by rw [e]))] at h
      refine (ih (by omega) t v h').congr fun p q hq hqd => ?_
      have : p ≠ s := fun e => by subst e; rw [hd] at hq; cases hq; exact hw hqd
      omega

/-- The heaps that a load looks at. -/
theorem Rn.hist {q : Nat} (hq : q = 0 ∨ ∃ (p : Nat) (d : DOper), q = p + 1 ∧ ds[p]? = some d ∧ d.k = .loud) : ∀ (r : Nat), q ≤ r → r ≤ ds.length →
    ∃ above x below, G r = above ++ (x, A q) :: below ∧ ∀ e ∈ above, ∃ (p : Nat) (d : DOper), ds[p]? = some d ∧ q ≤ p ∧ d.k = .loud ∧ e.1 = d.i := by
  intro r
  induction r with
  | zero =>
    intro h _
    have : q = 0 := by omega
    subst this
    obtain ⟨x, hx⟩ := R.g0
    exact ⟨[], x, [], by rw [hx]; rfl, fun e h => by simp at h⟩
  | succ r ih =>
    intro h hr
    have hd : ds[r]? = some ds[r] := List.getElem?_eq_getElem (by omega)
    have hg := (R.step r _ hd).2.1
    rcases Nat.lt_or_ge r q with h1 | h1
    · have hqr : q = r + 1 := by omega
      rcases hq with h0 | ⟨p, d, h2, h3, h4⟩
      · omega
      · have : p = r := by omega
        subst this
        rw [hd] at h3; cases h3
        rw [h4] at hg
        exact ⟨[], _, G p, by rw [hg, hqr]; rfl, fun e h => by simp at h⟩
    · obtain ⟨above, x, below, g1, g2⟩ := ih h1 (by omega)
      cases hk : ds[r].k with
      | loud =>
        rw [hk] at hg
        refine ⟨(ds[r].i, A (r + 1)) :: above, x, below, by rw [hg, g1]; rfl, fun e he => ?_⟩
        rcases List.mem_cons.1 he with rfl | he
        · exact ⟨r, _, hd, h1, hk, rfl⟩
        · exact g2 e he
      | quiet => rw [hk] at hg; exact ⟨above, x, below, by rw [hg, g1], g2⟩
      | load => rw [hk] at hg; exact ⟨above, x, below, by rw [hg, g1], g2⟩
end rn

structure Inv (S : Sta) (w0 : World) (nt : Nat) (bs : List Nat) (ds : List DOper) (E : Nat → Tr AV) (A : Nat → AH) (V : Nat → AV) (ρ0 : Ren) (wi : World) (df : List Deferred)
    (L : Nat → Prop) (ρ : Ren) (g : Nat → Option AObj) (q : Nat) (a : Act) (w : World) : Prop where
  q_le : q ≤ ds.length
  q_at : q = 0 ∨ ∃ (p : Nat) (d : DOper), q = p + 1 ∧ ds[p]? = some d ∧ d.k = .loud
  cl : ∀ i x, L i → (bsAt bs i).testBit x = true → L x
  lt : ∀ (p : Nat) (d : DOper), ds[p]? = some d → p < q → L d.i
  loud : ∀ (p : Nat) (d : DOper), ds[p]? = some d → d.k = .loud → L d.i → p < q
  dom : ∀ id o, (A q).get id = some o → id < (A q).next
  lo : ∀ id, id < (A q).next → g id = (A q).get id
  hi : ∀ id o, (A q).next ≤ id → g id = some o → ∃ (p : Nat) (d : DOper), ds[p]? = some d ∧ q ≤ p ∧ L d.i ∧ id = (A p).next ∧ A (p + 1) = (A p).new o
  new : ∀ (p : Nat) (d : DOper) o, ds[p]? = some d → q ≤ p → L d.i → A (p + 1) = (A p).new o → g (A p).next = some o
  free : ∀ id, (A q).next ≤ id → id < (A ds.length).next → g id = none → ρ id = none
  big : Big S w0 ρ0 (A 0) wi (A ds.length).next ρ g w
  env : ∀ t v, Holds ds V (E 0) (fun _ d => L d.i) t v → ∃ c, a.tmps[t]? = some c ∧ VR S ρ v c
  nt_le : nt ≤ a.tmps.size
  defers : a.defers = df

section inv
variable {S : Sta} {w0 : World} {call : Caller} {nt : Nat} {ops : Array Oper} {bs : List Nat} {ds : List DOper} {E : Nat → Tr AV} {A : Nat → AH} {G : Nat → List (Nat × AH)} {V : Nat → AV} {X : Nat → Nat → Prop}
  (R : Rn S call nt ops bs ds E A G V X)
  {ρ0 : Ren} {wi : World} {df : List Deferred} {L : Nat → Prop} {ρ : Ren} {g : Nat → Option AObj} {q : Nat} {a : Act} {w : World}
  (I : Inv S w0 nt bs ds E A V ρ0 wi df L ρ g q a w)
include R I

theorem Inv.agree : ∀ (r : Nat), q ≤ r → r ≤ ds.length → (∀ (p : Nat) (d : DOper), ds[p]? = some d → q ≤ p → p < r → L d.i ∧ d.k ≠ .loud) →
    (∀ id o, (A r).get id = some o → id < (A r).next) ∧ ∀ id, id < (A r).next → g id = (A r).get id := by
  intro r
  induction r with
  | zero => intro h _ _; have : q = 0 := by omega
            subst this; exact ⟨I.dom, I.lo⟩
  | succ r ih =>
    intro h hr hp
    rcases Nat.lt_or_ge r q with h1 | h1
    · have : q = r + 1 := by omega
      subst this; exact ⟨I.dom, I.lo⟩
    · obtain ⟨i1, i2⟩ := ih h1 (by omega) fun p d k1 k2 k3 => hp p d k1 k2 (by omega)
      have hd : ds[r]? = some ds[r] := List.getElem?_eq_getElem (by omega)
      obtain ⟨p1, p2⟩ := hp r _ hd h1 (by omega)
      rcases R.nonloud hd p2 with e | ⟨o, e⟩
      · rw [e]; exact ⟨i1, i2⟩
      · have hn := I.new r _ o hd h1 p1 e
        rw [e]
        refine ⟨fun id x hx => ?_, fun id hid => ?_⟩
        · by_cases e' : id = (A r).next
          · subst e'; simp
          · rw [AH.get_new_ne _ _ e'] at hx; have := i1 id x hx; simp; omega
        · by_cases e' : id = (A r).next
          · subst e'; rw [AH.get_new_same]; exact hn
          · rw [AH.get_new_ne _ _ e']; simp at hid; exact i2 id (by omega)

/-- Names not taken yet. -/
theorem Inv.unseen {s : Nat} {d : DOper} (hd : ds[s]? = some d) (hn : ¬ L d.i) : Free ρ (A s).next (A (s + 1)).next ∧ ∀ id, (A s).next ≤ id → id < (A (s + 1)).next → g id = none := by
  have hs := R.lt hd
  have hqs : q ≤ s := by
    rcases Nat.lt_or_ge s q with h | h
    · exact absurd (I.lt s d hd h) hn
    · exact h
  have key : ∀ id, (A s).next ≤ id → id < (A (s + 1)).next → g id = none := by
    intro id h1 h2
    cases hg : g id with
    | none => rfl
    | some o =>
      exfalso
      obtain ⟨p, d', k1, k2, k3, k4, k5⟩ := I.hi id o (Nat.le_trans (R.mono s q hqs (by omega)) h1) hg
      have hp := R.lt k1
      have hnx : (A (p + 1)).next = (A p).next + 1 := by rw [k5]; rfl
      rcases Nat.lt_trichotomy p s with h | h | h
      · have := R.mono s (p + 1) h (by omega); omega
      · subst h; rw [hd] at k1; cases k1; exact hn k3
      · have := R.mono p (s + 1) h (by omega); omega
  exact ⟨fun id h1 h2 => I.free id (Nat.le_trans (R.mono s q hqs (by omega)) h1) (Nat.lt_of_lt_of_le h2 (R.mono ds.length (s + 1) (by omega) (Nat.le_refl _))) (key id h1 h2), key⟩

/-- What an operation that is ready reads. -/
theorem Inv.envR {s : Nat} {d : DOper} (hd : ds[s]? = some d) (hn : ¬ L d.i) (hb : ∀ x, d.bs.testBit x = true → L x) : EnvR S ρ nt (restr (E s) (names d.o)) a.tmps := by
  refine ⟨I.nt_le, fun t v hv => ?_⟩
  obtain ⟨h1, h2⟩ := (restr_get (E s) (names d.o) t).1 v hv
  have hs := R.lt hd
  refine I.env t v ((R.holds s (by omega) t v h1).congr fun p q hq hqt => ?_)
  rcases Nat.lt_trichotomy p s with h | h | h
  · exact ⟨fun _ => hb _ ((R.tmp p s q d h hq hd).2 t hqt h2), fun _ => h⟩
  · subst h; rw [hd] at hq; cases hq; exact ⟨fun h => absurd h (Nat.lt_irrefl _), fun h => absurd h hn⟩
  · refine ⟨fun h' => by omega, fun h' => absurd (I.cl _ _ h' ?_) hn⟩
    rw [← R.bsd p q hq]
    exact (R.tmp s p d q h hd hq).1 t hqt h2

theorem Inv.env_next {s : Nat} {d : DOper} (hd : ds[s]? = some d) (hn : ¬ L d.i) (hdt : ∀ t, d.o.dst = some t → t < nt)
    {ρ' : Ren} (sub : Sub ρ ρ') {c : Value} (hc : VR S ρ' (V s) c) {t : Nat} {v : AV} (hh : Holds ds V (E 0) (fun _ x => x.i = d.i ∨ L x.i) t v) :
    ∃ c', (a.put d.o.dst c).tmps[t]? = some c' ∧ VR S ρ' v c' := by
  by_cases hw : d.o.dst = some t
  · have hv : V s = v := by
      rcases hh with ⟨s1, d1, h1, h2, h3, h4, h5⟩ | ⟨h1, _⟩
      · have hle := h5 s d hd (.inl rfl) hw
        rcases Nat.lt_or_ge s s1 with h | h
        · exfalso
          have hb := (R.tmp s s1 d d1 h hd h1).1 t h3 (by simp [names, hw])
          rcases h2 with h2 | h2
          · have := R.inj _ _ _ _ h1 hd h2; omega
          · rw [R.bsd s1 d1 h1] at hb
            exact hn (I.cl _ _ h2 hb)
        · have : s1 = s := by omega
          subst this; exact h4
      · exact absurd hw (h1 s d hd (.inl rfl))
    subst hv
    rw [hw]
    exact ⟨c, by rw [Act.put]; simp only; rw [Array.getElem?_setIfInBounds_self_of_lt (by have := hdt t hw; have := I.nt_le; omega)], hc⟩
  · obtain ⟨c', h1, h2⟩ := I.env t v (hh.congr fun p q hq hqt => ⟨fun h => h.resolve_left fun e => by
      have := R.inj _ _ _ _ hq hd e
      subst this; rw [hd] at hq; cases hq; exact hw hqt, .inr⟩)
    refine ⟨c', ?_, h2.mono sub⟩
    cases hx : d.o.dst with
    | none => exact h1
    | some x =>
      rw [hx] at hw
      simp only [Act.put]
      rw [Array.getElem?_setIfInBounds_ne (fun e => hw (by rw [e]))]
      exact h1

theorem Inv.cl_next {i : Nat} (hb : ∀ x, (bsAt bs i).testBit x = true → L x) : ∀ j x, (j = i ∨ L j) → (bsAt bs j).testBit x = true → x = i ∨ L x := by
  rintro j x (rfl | h) hx
  · exact .inr (hb x hx)
  · exact .inr (I.cl j x h hx)

/-- An operation without effect has come. -/
theorem Inv.next_calm {s : Nat} {d : DOper} (hd : ds[s]? = some d) (hn : ¬ L d.i) (hb : ∀ x, d.bs.testBit x = true → L x) (hdt : ∀ t, d.o.dst = some t → t < nt) (hk : d.k ≠ .loud)
    {ρ' : Ren} (sub : Sub ρ ρ') {c : Value} (hc : VR S ρ' (V s) c) {w' : World} {g' : Nat → Option AObj}
    (hg : (A (s + 1) = A s ∧ g' = g) ∨ ∃ o, A (s + 1) = (A s).new o ∧ g' = fun id => if id = (A s).next then some o else g id)
    (hρ : ∀ id, id < (A s).next ∨ (A (s + 1)).next ≤ id → ρ' id = ρ id)
    (hbig : Big S w0 ρ0 (A 0) wi (A ds.length).next ρ' g' w') :
    Inv S w0 nt bs ds E A V ρ0 wi df (fun j => j = d.i ∨ L j) ρ' g' q (a.put d.o.dst c) w' := by
  have hs := R.lt hd
  have hqs : q ≤ s := by
    rcases Nat.lt_or_ge s q with h | h
    · exact absurd (I.lt s d hd h) hn
    · exact h
  have hAq := R.mono s q hqs (by omega)
  refine ⟨I.q_le, I.q_at, I.cl_next R (by rw [← R.bsd s d hd]; exact hb), fun p x h1 h2 => .inr (I.lt p x h1 h2), ?_, I.dom, ?_, ?_, ?_, ?_, hbig, fun t v hh => I.env_next R hd hn hdt sub hc hh, ?_, ?_⟩
  · rintro p x h1 h2 (h3 | h3)
    · have := R.inj _ _ _ _ h1 hd h3
      subst this; rw [hd] at h1; cases h1; exact absurd h2 hk
    · exact I.loud p x h1 h2 h3
  · intro id hid
    rcases hg with ⟨_, rfl⟩ | ⟨o, _, rfl⟩
    · exact I.lo id hid
    · simp only; rw [if_neg (by omega)]; exact I.lo id hid
  · intro id o hid hgo
    rcases hg with ⟨_, rfl⟩ | ⟨o', he, rfl⟩
    · obtain ⟨p, x, k1, k2, k3, k4⟩ := I.hi id o hid hgo
      exact ⟨p, x, k1, k2, .inr k3, k4⟩
    · simp only at hgo
      split at hgo
      · rename_i e
        cases hgo
        exact ⟨s, d, hd, hqs, .inl rfl, e, he⟩
      · obtain ⟨p, x, k1, k2, k3, k4⟩ := I.hi id o hid hgo
        exact ⟨p, x, k1, k2, .inr k3, k4⟩
  · intro p x o h1 h2 h3 h4
    by_cases hps : p = s
    · subst hps
      rw [hd] at h1; cases h1
      rcases hg with ⟨he, rfl⟩ | ⟨o', he, rfl⟩
      · rw [he] at h4
        have := congrArg AH.next h4
        simp at this
      · rw [h4] at he
        have := congrArg (fun z : AH => z.get (A p).next) he
        simp only [AH.get_new_same] at this
        simp only [if_true]; exact this.symm
    · have h3' : L x.i := h3.resolve_left fun e => hps (R.inj _ _ _ _ h1 hd e)
      have := I.new p x o h1 h2 h3' h4
      rcases hg with ⟨he, rfl⟩ | ⟨o', he, rfl⟩
      · exact this
      · simp only
        rw [if_neg ?_]
        · exact this
        · intro e
          have hp := R.lt h1
          have hnx : (A (p + 1)).next = (A p).next + 1 := by rw [h4]; rfl
          have hnx' : (A (s + 1)).next = (A s).next + 1 := by rw [he]; rfl
          rcases Nat.lt_or_ge p s with h | h
          · have := R.mono s (p + 1) h (by omega); omega
          · have := R.mono p (s + 1) (by omega) (by omega); omega
  · intro id h1 h2 h3
    rcases hg with ⟨he, rfl⟩ | ⟨o', he, rfl⟩
    · rw [hρ id (by rw [he]; omega)]; exact I.free id h1 h2 h3
    · simp only at h3
      split at h3
      · cases h3
      · rename_i hne
        have hnx' : (A (s + 1)).next = (A s).next + 1 := by rw [he]; rfl
        rw [hρ id (by omega)]; exact I.free id h1 h2 h3
  · cases hx : d.o.dst with
    | none => exact I.nt_le
    | some x => simp only [Act.put, Array.size_setIfInBounds]; exact I.nt_le
  · rw [put_defers]; exact I.defers

/-- An effect: all ahead of it has come, and none behind it that is an effect. -/
theorem Inv.ahead {s : Nat} {d : DOper} (hd : ds[s]? = some d) (hn : ¬ L d.i) (hb : ∀ x, d.bs.testBit x = true → L x) (hk : d.k = .loud) :
    q ≤ s ∧ ∀ (p : Nat) (x : DOper), ds[p]? = some x → q ≤ p → p < s → L x.i ∧ x.k ≠ .loud := by
  refine ⟨?_, fun p x h1 h2 h3 => ?_⟩
  · rcases Nat.lt_or_ge s q with h | h
    · exact absurd (I.lt s d hd h) hn
    · exact h
  · have hl := hb _ (R.loud s d hd hk p x h3 h1)
    refine ⟨hl, fun e => ?_⟩
    have := I.loud p x h1 e hl; omega

theorem Inv.next_loud {s : Nat} {d : DOper} (hd : ds[s]? = some d) (hn : ¬ L d.i) (hb : ∀ x, d.bs.testBit x = true → L x) (hdt : ∀ t, d.o.dst = some t → t < nt) (hk : d.k = .loud)
    {ρ' : Ren} (sub : Sub ρ ρ') {c : Value} (hc : VR S ρ' (V s) c) {w' : World} {g' : Nat → Option AObj}
    (hg : g' = fun id => if id < (A (s + 1)).next then (A (s + 1)).get id else g id) (hdom : ∀ id o, (A (s + 1)).get id = some o → id < (A (s + 1)).next)
    (hρ : ∀ id, id < (A s).next ∨ (A (s + 1)).next ≤ id → ρ' id = ρ id)
    (hbig : Big S w0 ρ0 (A 0) wi (A ds.length).next ρ' g' w') :
    Inv S w0 nt bs ds E A V ρ0 wi df (fun j => j = d.i ∨ L j) ρ' g' (s + 1) (a.put d.o.dst c) w' := by
  have hs := R.lt hd
  obtain ⟨hqs, hah⟩ := I.ahead R hd hn hb hk
  have hAq := R.mono s q hqs (by omega)
  have hAs := R.mono (s + 1) s (by omega) (by omega)
  refine ⟨by omega, .inr ⟨s, d, rfl, hd, hk⟩, I.cl_next R (by rw [← R.bsd s d hd]; exact hb), ?_, ?_, hdom, ?_, ?_, ?_, ?_, hbig, fun t v hh => I.env_next R hd hn hdt sub hc hh, ?_, ?_⟩
  · intro p x h1 h2
    rcases Nat.lt_or_ge p q with h | h
    · exact .inr (I.lt p x h1 h)
    · rcases Nat.lt_or_ge p s with h' | h'
      · exact .inr (hah p x h1 h h').1
      · have : p = s := by omega
        subst this; rw [hd] at h1; cases h1; exact .inl rfl
  · rintro p x h1 h2 (h3 | h3)
    · have := R.inj _ _ _ _ h1 hd h3; omega
    · have := I.loud p x h1 h2 h3; omega
  · intro id hid; subst hg; simp only; rw [if_pos hid]
  · intro id o hid hgo
    subst hg
    simp only at hgo
    rw [if_neg (by omega)] at hgo
    obtain ⟨p, x, k1, k2, k3, k4, k5⟩ := I.hi id o (by omega) hgo
    have hp := R.lt k1
    have hnx : (A (p + 1)).next = (A p).next + 1 := by rw [k5]; rfl
    refine ⟨p, x, k1, ?_, .inr k3, k4, k5⟩
    rcases Nat.lt_trichotomy p s with h | h | h
    · have := R.mono s (p + 1) h (by omega); omega
    · subst h; rw [hd] at k1; cases k1; exact absurd k3 hn
    · exact h
  · intro p x o h1 h2 h3 h4
    have h3' : L x.i := h3.resolve_left fun e => by have := R.inj _ _ _ _ h1 hd e; omega
    have := I.new p x o h1 (by omega) h3' h4
    have hm := R.mono p (s + 1) h2 (Nat.le_of_lt (R.lt h1))
    subst hg
    simp only
    rw [if_neg (by omega)]; exact this
  · intro id h1 h2 h3
    subst hg
    simp only at h3
    rw [if_neg (by omega)] at h3
    rw [hρ id (.inr h1)]; exact I.free id (by omega) h2 h3
  · cases hx : d.o.dst with
    | none => exact I.nt_le
    | some x => simp only [Act.put, Array.size_setIfInBounds]; exact I.nt_le
  · rw [put_defers]; exact I.defers
end inv
end Go.Proofs.YtkahmlbhgahbbaaGreat.Abs
