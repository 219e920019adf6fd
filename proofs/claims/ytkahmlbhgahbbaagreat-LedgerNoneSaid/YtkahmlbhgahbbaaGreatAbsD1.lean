/- A region whose order is open: what its operations look at, and the evaluator's own run of it. -/
import Derived.Test.YtkahmlbhgahbbaaGreatAbsX
set_option linter.unusedSimpArgs false
set_option linter.unusedVariables false
set_option linter.unusedSectionVars false
set_option linter.constructorNameAsVariable false
namespace Go.Proofs.YtkahmlbhgahbbaaGreat.Abs

/-! ### What an operation reads -/
section reads
variable {e e2 : Tr AV} {B : Nat → List AV}

theorem rd_congr {x : AO} (h : ∀ t ∈ x.tm, e.get t = e2.get t) : rd e x = rd e2 x := by
  cases x with
  | t n => exact h n (by simp [AO.tm])
  | c v => rfl
theorem rds_congr {l : List AO} (h : ∀ t ∈ aoL l, e.get t = e2.get t) : rds e l = rds e2 l := by
  induction l with
  | nil => rfl
  | cons x l ih =>
    simp only [aoL, List.mem_append] at h
    simp only [rds, rd_congr (x := x) (fun t ht => h t (.inl ht)), ih (fun t ht => h t (.inr ht))]
theorem rdo_congr {x : Option AO} (h : ∀ t ∈ aoO x, e.get t = e2.get t) : rdo e x = rdo e2 x := by
  cases x with
  | none => rfl
  | some x => simp only [rdo, rd_congr (x := x) h]
theorem fillP_congr {ps : List (Nat × Nat × AO)} (h : ∀ t ∈ aoP ps, e.get t = e2.get t) : ∀ cs, fillP e cs ps = fillP e2 cs ps := by
  induction ps with
  | nil => intro cs; rfl
  | cons p ps ih =>
    obtain ⟨o, n, x⟩ := p
    intro cs
    simp only [aoP, List.mem_append] at h
    simp only [fillP, rd_congr (x := x) (fun t ht => h t (.inl ht))]
    repeat' split
    all_goals first | rfl | exact ih (fun t ht => h t (.inr ht)) _

theorem aop_congr {op : AOp} (h : ∀ t ∈ op.tmps, e.get t = e2.get t) (k : AH) : aop B op e k = aop B op e2 k := by
  cases op <;> simp only [AOp.tmps, List.mem_append] at h
  case mov x => simp only [aop, rd_congr (x := x) h]
  case pick c a b => simp only [aop, rd_congr (x := c) fun t ht => h t (.inl ht), rd_congr (x := a) fun t ht => h t (.inr (.inl ht)), rd_congr (x := b) fun t ht => h t (.inr (.inr ht))]
  case alloc z => rfl
  case box x => simp only [aop, rd_congr (x := x) h]
  case build z ps => simp only [aop, fillP_congr h]
  case buildSl z ps => simp only [aop, fillP_congr h]
  case load x => simp only [aop, rd_congr (x := x) h]
  case store n a v => simp only [aop, rd_congr (x := a) fun t ht => h t (.inl ht), rd_congr (x := v) fun t ht => h t (.inr ht)]
  case nilchk x => simp only [aop, rd_congr (x := x) h]
  case bin op x y => simp only [aop, rd_congr (x := x) fun t ht => h t (.inl ht), rd_congr (x := y) fun t ht => h t (.inr ht)]
  case eq n p x y => simp only [aop, rd_congr (x := x) fun t ht => h t (.inl ht), rd_congr (x := y) fun t ht => h t (.inr ht)]
  case un op x => simp only [aop, rd_congr (x := x) h]
  case cvInt k x => simp only [aop, rd_congr (x := x) h]
  case cvStr x => simp only [aop, rd_congr (x := x) h]
  case cvBytes x => simp only [aop, rd_congr (x := x) h]
  case field x => simp only [aop, rd_congr (x := x) h]
  case faddr off x => simp only [aop, rd_congr (x := x) h]
  case idxV x y => simp only [aop, rd_congr (x := x) fun t ht => h t (.inl ht), rd_congr (x := y) fun t ht => h t (.inr ht)]
  case idxStr x y => simp only [aop, rd_congr (x := x) fun t ht => h t (.inl ht), rd_congr (x := y) fun t ht => h t (.inr ht)]
  case idxA x y => simp only [aop, rd_congr (x := x) fun t ht => h t (.inl ht), rd_congr (x := y) fun t ht => h t (.inr ht)]
  case idxS x y => simp only [aop, rd_congr (x := x) fun t ht => h t (.inl ht), rd_congr (x := y) fun t ht => h t (.inr ht)]
  case slS x lo hi mx => simp only [aop, rd_congr (x := x) fun t ht => h t (.inl ht), rdo_congr (x := lo) fun t ht => h t (.inr (.inl ht)), rdo_congr (x := hi) fun t ht => h t (.inr (.inr (.inl ht))), rdo_congr (x := mx) fun t ht => h t (.inr (.inr (.inr ht)))]
  case slStr x lo hi => simp only [aop, rd_congr (x := x) fun t ht => h t (.inl ht), rdo_congr (x := lo) fun t ht => h t (.inr (.inl ht)), rdo_congr (x := hi) fun t ht => h t (.inr (.inr ht))]
  case slA x lo hi mx => simp only [aop, rd_congr (x := x) fun t ht => h t (.inl ht), rdo_congr (x := lo) fun t ht => h t (.inr (.inl ht)), rdo_congr (x := hi) fun t ht => h t (.inr (.inr (.inl ht))), rdo_congr (x := mx) fun t ht => h t (.inr (.inr (.inr ht)))]
  case lookup x y => simp only [aop, rd_congr (x := x) fun t ht => h t (.inl ht), rd_congr (x := y) fun t ht => h t (.inr ht)]
  case mapup kk c a b => simp only [aop, rd_congr (x := c) fun t ht => h t (.inl ht), rd_congr (x := a) fun t ht => h t (.inr (.inl ht)), rd_congr (x := b) fun t ht => h t (.inr (.inr ht))]
  case mkmap => rfl
  case mksl x y => simp only [aop, rd_congr (x := x) fun t ht => h t (.inl ht), rd_congr (x := y) fun t ht => h t (.inr ht)]
  case mkfn f a b => simp only [aop, rds_congr (l := a) fun t ht => h t (.inl ht), rds_congr (l := b) fun t ht => h t (.inr ht)]
  case extract x i => simp only [aop, rd_congr (x := x) h]
  case mkif t x => simp only [aop, rd_congr (x := x) h]
  case append x y => simp only [aop, rd_congr (x := x) fun t ht => h t (.inl ht), rd_congr (x := y) fun t ht => h t (.inr ht)]
  case copy x y => simp only [aop, rd_congr (x := x) fun t ht => h t (.inl ht), rd_congr (x := y) fun t ht => h t (.inr ht)]
  case delete x y => simp only [aop, rd_congr (x := x) fun t ht => h t (.inl ht), rd_congr (x := y) fun t ht => h t (.inr ht)]
  case len x => simp only [aop, rd_congr (x := x) h]
  case lenMap x => simp only [aop, rd_congr (x := x) h]
  case range x => simp only [aop, rd_congr (x := x) h]
  case next x => simp only [aop, rd_congr (x := x) h]
  case entry x => simp only [aop, rd_congr (x := x) h]
  case mm x r => simp only [aop, rd_congr (x := x) fun t ht => h t (.inl ht), rds_congr (l := r) fun t ht => h t (.inr ht)]
  case call f args => rfl
  case callv f args => rfl
  case ext k args => simp only [aop, rds_congr h]
  case fail => rfl

theorem evOp_congr {call : Caller} {op : AOp} (h : ∀ t ∈ op.tmps, e.get t = e2.get t) (k : AH) : evOp B call op e k = evOp B call op e2 k := by
  cases op
  case call f args => simp only [AOp.tmps] at h; simp only [evOp, rds_congr h]
  case callv f args =>
    simp only [AOp.tmps, List.mem_append] at h
    simp only [evOp, rd_congr (x := f) fun t ht => h t (.inl ht), rds_congr (l := args) fun t ht => h t (.inr ht)]
  all_goals exact aop_congr (B := B) h k

theorem wanted_congr {g : Option (Nat × Bool)} (h : ∀ t ∈ (match g with | some (t, _) => [t] | none => []), e.get t = e2.get t) : wanted g e = wanted g e2 := by
  cases g with
  | none => rfl
  | some p => obtain ⟨t, b⟩ := p; simp only [wanted, h t (by simp)]

/-- Only some of the temporaries. -/
def restr (env : Tr AV) : List Nat → Tr AV
  | [] => .e
  | t :: r => match env.get t with
    | some v => (restr env r).set t v
    | none => restr env r

theorem restr_get (env : Tr AV) (ts : List Nat) (t : Nat) : (∀ v, (restr env ts).get t = some v → env.get t = some v ∧ t ∈ ts) ∧ (t ∈ ts → (restr env ts).get t = env.get t) := by
  induction ts with
  | nil => simp [restr]
  | cons x r ih =>
    unfold restr
    cases hx : env.get x with
    | some v =>
      simp only
      by_cases e : t = x
      · subst e; rw [Tr.get_set_same]; simp [hx]
      · rw [Tr.get_set_ne _ _ e]
        refine ⟨fun v hv => ⟨(ih.1 v hv).1, List.mem_cons_of_mem _ (ih.1 v hv).2⟩, fun hm => ih.2 ?_⟩
        rcases List.mem_cons.1 hm with h | h
        · exact absurd h e
        · exact h
    | none =>
      simp only
      refine ⟨fun v hv => ⟨(ih.1 v hv).1, List.mem_cons_of_mem _ (ih.1 v hv).2⟩, fun hm => ?_⟩
      by_cases hr : t ∈ r
      · exact ih.2 hr
      · rcases List.mem_cons.1 hm with h | h
        · subst h
          cases hg : (restr env r).get t with
          | none => exact hx.symm
          | some v => rw [(ih.1 v hg).1] at hx; cases hx
        · exact absurd h hr
end reads

/-! ### Values alike -/
mutual
theorem AV.beq_eq : ∀ {a b : AV}, a.beq b = true → a = b := by
  intro a b h
  cases a <;> cases b <;> simp only [AV.beq, Bool.and_eq_true, decide_eq_true_eq, beq_iff_eq, Bool.false_eq_true] at h
  all_goals first
    | rfl
    | (subst h; rfl)
    | (obtain ⟨rfl, rfl⟩ := h; rfl)
    | (obtain ⟨⟨rfl, rfl⟩, rfl⟩ := h; rfl)
    | (obtain ⟨⟨rfl, h1⟩, h2⟩ := h; rw [beqs_eq h1, beqs_eq h2])
    | (obtain ⟨rfl, h1⟩ := h; rw [AV.beq_eq h1])
    | (rw [beqs_eq h])
theorem beqs_eq : ∀ {a b : List AV}, beqs a b = true → a = b := by
  intro a b h
  cases a <;> cases b <;> simp only [beqs, Bool.and_eq_true, Bool.false_eq_true] at h
  · rfl
  · rw [AV.beq_eq h.1, beqs_eq h.2]
end

/-! ### Quiet operations and loads -/
section kinds
variable {B : Nat → List AV}
theorem newRow_quiet {cs : List AV} {k : Nat → AV} {h h' : AH} {v : AV} (e : newRow h cs k = .val v h') :
    ∃ o : AObj, o.live = true ∧ h' = h.new o ∧ ∀ h2 : AH, h2.next = h.next → newRow h2 cs k = .val v (h2.new o) := by
  unfold newRow at e
  split at e
  · rename_i hc
    simp only [forceL_eq, VO.val.injEq] at e
    refine ⟨.row cs, rfl, e.2.symm, fun h2 hn => ?_⟩
    simp only [newRow, hc, forceL_eq, hn, e.1]
  · cases e

theorem pure1_quiet {o : Option AV} {h h' : AH} {v : AV} (e : pure1 h o = .val v h') : h' = h ∧ ∀ h2 : AH, pure1 h2 o = .val v h2 := by
  cases o with
  | none => cases e
  | some x => cases e; exact ⟨rfl, fun _ => rfl⟩

theorem aop_quiet {op : AOp} (hk : op.kind = .quiet) {env : Tr AV} {h h' : AH} {v : AV} (e : aop B op env h = .val v h') :
    (h' = h ∧ ∀ h2, aop B op env h2 = .val v h2) ∨ ∃ o : AObj, o.live = true ∧ h' = h.new o ∧ ∀ h2 : AH, h2.next = h.next → aop B op env h2 = .val v (h2.new o) := by
  cases op <;> simp only [AOp.kind] at hk <;> (try cases hk) <;> simp only [aop] at e ⊢
  all_goals repeat' (split at e)
  all_goals first
    | (cases e; done)
    | exact .inl (pure1_quiet e)
    | exact .inr (newRow_quiet e)
    | (cases e; exact .inl ⟨rfl, fun _ => rfl⟩)
    | (cases e; exact .inr ⟨_, rfl, rfl, fun h2 hn => by rw [hn]⟩)
    | (simp only [forceL_eq] at e; cases e; refine .inl ⟨rfl, fun _ => ?_⟩; simp only [forceL_eq, *])
    | skip

theorem aop_load {op : AOp} (hk : op.kind = .load) {env : Tr AV} {h h' : AH} {v : AV} (e : aop B op env h = .val v h') : h' = h := by
  cases op <;> simp only [AOp.kind] at hk <;> (try cases hk) <;> simp only [aop] at e
  all_goals repeat' (split at e)
  all_goals first
    | (cases e; done)
    | exact (pure1_quiet e).1
    | (cases e; rfl)

theorem sameAt_spec {op : AOp} {env : Tr AV} {v : AV} {bs : Nat} {x : Nat} {hh : AH} {below : List (Nat × AH)} :
    ∀ above : List (Nat × AH), sameAt B op env v bs (above ++ (x, hh) :: below) = true → (∀ p ∈ above, bs.testBit p.1 = false) → ∃ h2, aop B op env hh = .val v h2 := by
  intro above
  induction above with
  | nil =>
    intro h _
    simp only [List.nil_append, sameAt] at h
    split at h
    · rename_i v' h2 he
      split at h
      · rename_i hb; rw [AV.beq_eq hb] at he; exact ⟨h2, he⟩
      · cases h
    · cases h
  | cons p above ih =>
    intro h ha
    obtain ⟨j, hj⟩ := p
    simp only [List.cons_append, sameAt] at h
    split at h
    · split at h
      · rw [ha (j, hj) (by simp)] at h
        exact ih h fun p hp => ha p (by simp [hp])
      · cases h
    · cases h

theorem loadAt_spec {op : AOp} {env : Tr AV} {v : AV} {bs : Nat} {x : Nat} {hh : AH} {below above : List (Nat × AH)} (h : loadAt B op env bs (above ++ (x, hh) :: below) = some v)
    (ha : ∀ p ∈ above, bs.testBit p.1 = false) : ∃ h2, aop B op env hh = .val v h2 := by
  cases above with
  | nil =>
    simp only [List.nil_append, loadAt] at h
    split at h
    · rename_i v' h2 he
      split at h
      · cases h; exact ⟨h2, he⟩
      · split at h
        · cases h; exact ⟨h2, he⟩
        · cases h
    · cases h
  | cons p above =>
    obtain ⟨j, hj⟩ := p
    simp only [List.cons_append, loadAt] at h
    split at h
    · rw [ha (j, hj) (by simp)] at h
      simp only at h
      split at h
      · cases h
        rename_i hs
        exact sameAt_spec above hs fun p hp => ha p (by simp [hp])
      · cases h
    · cases h
end kinds

/-! ### Bits -/
theorem testBit_two_pow' (p x : Nat) : (2 ^ p).testBit x = true → x = p := by
  rw [Nat.testBit_two_pow]
  intro h
  exact (of_decide_eq_true h).symm

theorem fold_bits {f : Nat → Nat} {x : Nat} : ∀ (ps : List Nat) (a : Nat), (ps.foldl (fun s j => s ||| 2 ^ j ||| f j) a).testBit x = true → a.testBit x = true ∨ ∃ p ∈ ps, x = p ∨ (f p).testBit x = true := by
  intro ps
  induction ps with
  | nil => intro a h; exact .inl h
  | cons p ps ih =>
    intro a h
    rcases ih _ h with h1 | ⟨q, hq, h1⟩
    · rw [Nat.testBit_or, Nat.testBit_or, Bool.or_eq_true, Bool.or_eq_true] at h1
      rcases h1 with (h1 | h1) | h1
      · exact .inl h1
      · exact .inr ⟨p, by simp, .inl (testBit_two_pow' _ _ h1)⟩
      · exact .inr ⟨p, by simp, .inr h1⟩
    · exact .inr ⟨q, by simp [hq], h1⟩

theorem befores_spec : ∀ (r : List Oper) (acc : List Nat), (∃ t, befores r acc = acc ++ t) ∧
    ∀ (k : Nat) o, r[k]? = some o → ∀ x, (bsAt (befores r acc) (acc.length + k)).testBit x = true → ∃ p ∈ preds o, x = p ∨ (bsAt (befores r acc) p).testBit x = true := by
  intro r
  induction r with
  | nil => intro acc; exact ⟨⟨[], by simp [befores]⟩, fun k o h => by simp at h⟩
  | cons o r ih =>
    intro acc
    simp only [befores]
    generalize hb : (preds o).foldl (fun s j => s ||| 2 ^ j ||| bsAt acc j) 0 = b
    obtain ⟨⟨t, ht⟩, h2⟩ := ih (acc ++ [b])
    refine ⟨⟨b :: t, by rw [ht]; simp⟩, fun k o' hk x hx => ?_⟩
    cases k with
    | zero =>
      simp at hk; subst hk
      have hbv : bsAt (befores r (acc ++ [b])) (acc.length + 0) = b := by rw [ht]; simp [bsAt]
      rw [hbv, ← hb] at hx
      rcases fold_bits _ _ hx with h | ⟨p, hp, h⟩
      · simp at h
      · refine ⟨p, hp, h.imp id fun h => ?_⟩
        have hlt : p < acc.length := by
          rcases Nat.lt_or_ge p acc.length with h' | h'
          · exact h'
          · simp [bsAt, List.getElem?_eq_none h'] at h
        have : bsAt (befores r (acc ++ [b])) p = bsAt acc p := by
          rw [ht]; unfold bsAt; rw [List.append_assoc, List.getElem?_append_left hlt]
        rw [this]; exact h
    | succ k =>
      have := h2 k o' (by simpa using hk) x (by rw [List.length_append, List.length_singleton]; rwa [Nat.add_assoc, Nat.add_comm 1 k])
      exact this
end Go.Proofs.YtkahmlbhgahbbaaGreat.Abs
