/- A region whose order is open: sound. -/
import Derived.Test.YtkahmlbhgahbbaaGreatAbsD3
set_option linter.unusedSimpArgs false
set_option linter.unusedVariables false
set_option linter.unusedSectionVars false
set_option linter.constructorNameAsVariable false
namespace Go.Proofs.YtkahmlbhgahbbaaGreat.Abs

theorem binds_any {md : Region.Mode} {e : Edge} (h : Region.binds .any e = true) : Region.binds md e = true := by
  unfold Region.binds at *
  cases hg : e.ground <;> simp [hg] at h ⊢

theorem evOp_calm {B : Nat → List AV} {call : Caller} {op : AOp} (h : op.kind ≠ .loud) (env : Tr AV) (k : AH) : evOp B call op env k = aop B op env k := by
  cases op <;> first | rfl | exact absurd rfl h

section step
variable {S : Sta} {w0 : World} {call : Caller} {nt : Nat} {ops : Array Oper} {bs : List Nat} {ds : List DOper} {E : Nat → Tr AV} {A : Nat → AH} {G : Nat → List (Nat × AH)} {V : Nat → AV} {X : Nat → Nat → Prop}

theorem any_step (ro : RoOk S w0) (hcall : CallerOk S w0 call) (R : Rn S call nt ops bs ds E A G V X) (rb : Option Nat) {Q : Exit → Act → World → Prop}
    {ρ0 : Ren} {wi : World} {df : List Deferred} {listed : Array Bool} (hsz : listed.size = ops.size) {ρ : Ren} {g : Nat → Option AObj} {q : Nat} {a : Act} {w : World} {md : Region.Mode}
    (I : Inv S w0 nt bs ds E A V ρ0 wi df (fun j => listed.getD j false = true) ρ g q a w) {i : Nat} (hi : i ∈ Region.ready md ops listed) (hX : ∀ p, X i p → listed.getD p false = true) {K : Act → World → Prop}
    (hK : ∀ a' w' ρ' g' q', Inv S w0 nt bs ds E A V ρ0 wi df (fun j => (listed.setIfInBounds i true).getD j false = true) ρ' g' q' a' w' → K a' w') :
    wpOpIn (fen rb) 0 S.P ops Q i K a w := by
  obtain ⟨hl0, o, ho, hedges⟩ := mem_ready.1 hi
  have hilt : i < ops.size := (Array.getElem?_eq_some_iff.1 ho).1
  obtain ⟨s, d, hd, rfl⟩ := R.onto i hilt
  obtain ⟨o', ho', co, hkind, hbits⟩ := R.src s d hd
  rw [ho] at ho'; cases ho'
  obtain ⟨c1, c2, c3, _⟩ := cOper_some co
  have hn : ¬ listed.getD d.i false = true := by
    intro h
    have : d.i < listed.size := by omega
    simp [this] at h hl0
    rw [hl0] at h; cases h
  have hb : ∀ x, d.bs.testBit x = true → listed.getD x false = true := by
    intro x hx
    obtain ⟨p, hp, h⟩ := hbits x hx
    have hlp : listed.getD p false = true := by
      rcases hp with hp | hp
      case inr => exact hX p hp
      unfold preds at hp
      rw [List.mem_filterMap] at hp
      obtain ⟨e, he, hpe⟩ := hp
      split at hpe
      · rename_i hbe
        cases hpe
        exact hedges e (by simpa using he) (binds_any hbe)
      · cases hpe
    rcases h with rfl | h
    · exact hlp
    · exact I.cl _ _ hlp h
  have hdt : ∀ t, d.o.dst = some t → t < nt := by rw [c2]; exact c3
  have L2 : (fun j => (listed.setIfInBounds d.i true).getD j false = true) = fun j => j = d.i ∨ listed.getD j false = true := by
    funext j
    by_cases e : j = d.i
    · subst e
      have : d.i < listed.size := by omega
      simp [this]
    · rw [getD_set_ne false (fun h => e h.symm)]
      simp [e]
  rw [L2] at hK
  have hs := R.lt hd
  have henv := I.envR R hd hn hb
  have hag : ∀ t ∈ names d.o, (E s).get t = (restr (E s) (names d.o)).get t := fun t ht => ((restr_get (E s) (names d.o) t).2 ht).symm
  have hgd : wanted d.o.guard (E s) = wanted d.o.guard (restr (E s) (names d.o)) := wanted_congr fun t ht => hag t (by
    unfold names
    exact List.mem_append_right _ (List.mem_append_right _ ht))
  have hop : ∀ t ∈ d.o.op.tmps, (E s).get t = (restr (E s) (names d.o)).get t := fun t ht => hag t (by
    unfold names
    exact List.mem_append_right _ (List.mem_append_left _ ht))
  obtain ⟨_, _, hle, hst⟩ := R.step s d hd
  have hNle := R.mono ds.length (s + 1) (by omega) (Nat.le_refl _)
  have h0s := R.mono s 0 (by omega) (by omega)
  unfold Go.wpOpIn
  simp only [ho]
  rcases hst with ⟨hw, hv, hA⟩ | ⟨hw, hst⟩
  · rw [hgd] at hw
    rw [if_neg (by rw [wanted_sound co henv hw]; simp)]
    refine ⟨fun _ _ => trivial, ?_⟩
    rw [← c2]
    have hvr : VR S ρ (V s) undef := by rw [hv]; exact undef_VR
    by_cases hk : d.k = .loud
    · obtain ⟨a1, a2⟩ := I.ahead R hd hn hb hk
      obtain ⟨b1, b2⟩ := I.agree R s a1 (by omega) a2
      have hgg : (fun id => if id < (A (s + 1)).next then (A (s + 1)).get id else g id) = g := by
        funext id
        rw [hA]
        split
        · rename_i h; exact (b2 id h).symm
        · rfl
      refine hK _ _ ρ g (s + 1) (I.next_loud R hd hn hb hdt hk (Sub.refl ρ) hvr hgg.symm (by rw [hA]; exact b1) (fun _ _ => rfl) I.big)
    · exact hK _ _ ρ g q (I.next_calm R hd hn hb hdt hk (Sub.refl ρ) hvr (.inl ⟨hA, rfl⟩) (fun _ _ => rfl) I.big)
  · rw [hgd] at hw
    rw [if_pos (wanted_sound co henv hw)]
    cases hk : d.k with
    | loud =>
      rw [hk] at hst
      rw [evOp_congr hop, c1] at hst
      obtain ⟨a1, a2⟩ := I.ahead R hd hn hb hk
      obtain ⟨b1, b2⟩ := I.agree R s a1 (by omega) a2
      have hsub : ∀ id o, (A s).get id = some o → g id = some o := fun id o h => by rw [b2 id (b1 id o h)]; exact h
      have hfree := (I.unseen R hd hn).1
      refine evOp_sound ro hcall (I.big.rel hsub b1) henv hst hfree rb fun ρ1 w1 c s1 v1 => ?_
      rw [← c2]
      refine hK _ _ ρ1 _ (s + 1) (I.next_loud R hd hn hb hdt hk (s1.sub hfree) v1 rfl s1.rel.dom s1.keep (I.big.join hsub s1 hfree h0s hNle fun id x hx => ?_))
      split at hx
      · exact .inl hx
      · rename_i hge
        refine .inr ⟨hx, ?_, .inr (by omega)⟩
        cases hz : (A s).get id with
        | none => rfl
        | some z => have := b1 id z hz; omega
    | quiet =>
      rw [hk] at hst
      simp only at hst
      rw [aop_congr hop] at hst
      have hnl : d.k ≠ .loud := by rw [hk]; simp
      have hq : d.o.op.kind = .quiet := by rw [← hkind, hk]
      have hrel : Rel S w0 ρ ⟨.e, (A s).next⟩ w := I.big.rel (fun id o h => by simp [AH.get] at h) (fun id o h => by simp [AH.get] at h)
      rcases aop_quiet hq hst with ⟨hA, hall⟩ | ⟨x, hxl, hA, hall⟩
      · have he := hall ⟨.e, (A s).next⟩
        rw [← evOp_calm (call := call) (by rw [hq]; simp), c1] at he
        refine evOp_sound ro hcall hrel henv he (fun id h1 h2 => by omega) rb fun ρ1 w1 c s1 v1 => ?_
        have hρ : ∀ id, ρ1 id = ρ id := fun id => s1.keep id (Nat.lt_or_ge _ _)
        rw [← c2]
        exact hK _ _ ρ1 g q (I.next_calm R hd hn hb hdt hnl (s1.sub fun id h1 h2 => by omega) v1 (.inl ⟨hA, rfl⟩) (fun id _ => hρ id)
          (I.big.join (fun id o h => by simp [AH.get] at h) s1 (fun id h1 h2 => by omega) h0s (by simp only; omega) fun id x hx => .inr ⟨hx, by simp [AH.get], Nat.lt_or_ge _ _⟩))
      · have he := hall ⟨.e, (A s).next⟩ rfl
        rw [← evOp_calm (call := call) (by rw [hq]; simp), c1] at he
        have hnx : (A (s + 1)).next = (A s).next + 1 := by rw [hA]; rfl
        obtain ⟨hfree, hnone⟩ := I.unseen R hd hn
        have hfr : Free ρ (A s).next ((⟨.e, (A s).next⟩ : AH).new x).next := by rw [hnx] at hfree; exact hfree
        refine evOp_sound ro hcall hrel henv he hfr rb fun ρ1 w1 c s1 v1 => ?_
        rw [← c2]
        refine hK _ _ ρ1 _ q (I.next_calm R hd hn hb hdt hnl (s1.sub hfr) v1 (.inr ⟨x, hA, rfl⟩) (fun id h => s1.keep id (by rw [hnx] at h; exact h))
          (I.big.join (fun id o h => by simp [AH.get] at h) s1 hfr h0s (by simp only [AH.next_new]; omega) fun id y hy => ?_))
        split at hy
        · rename_i e
          cases hy
          subst e
          exact .inl (AH.get_new_same ⟨.e, (A s).next⟩ x)
        · exact .inr ⟨hy, by simp [AH.get], by simp only [AH.next_new]; omega⟩
    | load =>
      rw [hk] at hst
      simp only at hst
      obtain ⟨hA, hld⟩ := hst
      have hnl : d.k ≠ .loud := by rw [hk]; simp
      have hq : d.o.op.kind = .load := by rw [← hkind, hk]
      have hqs : q ≤ s := by
        rcases Nat.lt_or_ge s q with h | h
        · exact absurd (I.lt s d hd h) hn
        · exact h
      obtain ⟨above, x, below, g1, g2⟩ := R.hist I.q_at s hqs (by omega)
      rw [g1] at hld
      obtain ⟨h2, he⟩ := loadAt_spec hld fun e he => by
        obtain ⟨p, dd, k1, k2, k3, k4⟩ := g2 e he
        cases hbit : d.bs.testBit e.1 with
        | false => rfl
        | true =>
          have := hb _ hbit
          rw [k4] at this
          have := I.loud p dd k1 k3 this
          omega
      rw [aop_load hq he] at he
      rw [aop_congr hop, ← evOp_calm (call := call) (by rw [hq]; simp), c1] at he
      have hsub : ∀ id o, (A q).get id = some o → g id = some o := fun id o h => by rw [I.lo id (I.dom id o h)]; exact h
      refine evOp_sound ro hcall (I.big.rel hsub I.dom) henv he (fun id h1 h2 => by omega) rb fun ρ1 w1 c s1 v1 => ?_
      have hρ : ∀ id, ρ1 id = ρ id := fun id => s1.keep id (Nat.lt_or_ge _ _)
      have h0q := R.mono q 0 (by omega) I.q_le
      have hNq := R.mono ds.length q I.q_le (Nat.le_refl _)
      rw [← c2]
      refine hK _ _ ρ1 g q (I.next_calm R hd hn hb hdt hnl (s1.sub fun id h1 h2 => by omega) v1 (.inl ⟨hA, rfl⟩) (fun id _ => hρ id)
        (I.big.join hsub s1 (fun id h1 h2 => by omega) h0q hNq fun id y hy => ?_))
      cases hz : (A q).get id with
      | none => exact .inr ⟨hy, rfl, Nat.lt_or_ge _ _⟩
      | some z => rw [hsub id z hz] at hy; cases hy; exact .inl rfl

theorem filter_lt {α : Type} {p p' : α → Bool} (hle : ∀ x, p' x = true → p x = true) : ∀ {l : List α} {x : α}, x ∈ l → p x = true → p' x = false → (l.filter p').length < (l.filter p).length := by
  have le : ∀ l : List α, (l.filter p').length ≤ (l.filter p).length := by
    intro l
    induction l with
    | nil => simp
    | cons a l ih =>
      cases h : p' a with
      | true => simp [h, hle a h]; exact ih
      | false => cases h2 : p a <;> simp [h, h2] <;> omega
  intro l
  induction l with
  | nil => intro x h; simp at h
  | cons a l ih =>
    intro x hx h1 h2
    rcases List.mem_cons.1 hx with rfl | hx
    · have := le l
      simp [h1, h2]; omega
    · have := ih hx h1 h2
      cases h : p' a with
      | true => simp [h, hle a h]; exact this
      | false => cases h2 : p a <;> simp [h, h2] <;> omega

def left (n : Nat) (listed : Array Bool) : Nat := ((List.range n).filter fun i => !listed.getD i false).length

/-- An order of what is left, each behind what it waits for. -/
def Valid (md : Region.Mode) (ops : Array Oper) : Array Bool → List Nat → Prop
  | listed, [] => ∀ i, i < ops.size → listed.getD i false = true
  | listed, i :: L => i ∈ Region.ready md ops listed ∧ Valid md ops (listed.setIfInBounds i true) L

theorem left_lt {md : Region.Mode} {listed : Array Bool} (hsz : listed.size = ops.size) {i : Nat} (hi : i ∈ Region.ready md ops listed) : left ops.size (listed.setIfInBounds i true) < left ops.size listed := by
  obtain ⟨h0, o, ho, _⟩ := mem_ready.1 hi
  have hilt : i < ops.size := (Array.getElem?_eq_some_iff.1 ho).1
  have hi' : i < listed.size := by omega
  unfold left
  refine filter_lt (fun x hx => ?_) (List.mem_range.2 hilt) ?_ ?_
  · by_cases e : i = x
    · subst e; simp [hi'] at hx
    · rwa [getD_set_ne false e] at hx
  · simp [hi'] at h0 ⊢; exact h0
  · simp [hi']

theorem left_zero {listed : Array Bool} (hf : left ops.size listed ≤ 0) : ∀ i, i < ops.size → listed.getD i false = true := by
  intro i hi
  cases h : listed.getD i false with
  | true => rfl
  | false =>
    have : i ∈ (List.range ops.size).filter fun i => !listed.getD i false := List.mem_filter.2 ⟨List.mem_range.2 hi, by simp only [h]; rfl⟩
    have := List.length_pos_of_mem this
    unfold left at hf; omega

theorem go_valid {md md2 : Region.Mode} (hmd : ∀ e, Region.binds md e = true → Region.binds md2 e = true) {L0 : List Nat} (htopo : topoOk md2 ops.toList ops.size L0 0 = true) :
    ∀ (fuel t : Nat) (listed : Array Bool), listed.size = ops.size → left ops.size listed ≤ fuel → Valid md ops listed (Region.linearise.go md ops fuel t listed []) := by
  intro fuel
  induction fuel with
  | zero => intro t listed _ hf; exact left_zero hf
  | succ fuel ih =>
    intro t listed hsz hf
    simp only [Region.linearise.go]
    change Valid md ops listed (match (Region.ready md ops listed)[t % (Region.ready md ops listed).length]? with
      | some i => Region.linearise.go md ops fuel (t / (Region.ready md ops listed).length) (listed.setIfInBounds i true) [i]
      | none => [].reverse)
    cases hi : (Region.ready md ops listed)[t % (Region.ready md ops listed).length]? with
    | none =>
      have hnil : Region.ready md ops listed = [] := by
        cases hr : Region.ready md ops listed with
        | nil => rfl
        | cons x xs =>
          rw [hr] at hi
          have hlt : t % (x :: xs).length < (x :: xs).length := Nat.mod_lt _ (by simp)
          simp at hi
          simp at hlt
          omega
      rcases topo_ready hmd hsz L0 0 htopo (fun j hj => by simp at hj) with h | ⟨i, hi⟩
      · exact h
      · rw [hnil] at hi; cases hi
    | some i =>
      simp only []
      rw [linearise_go_acc, List.reverse_singleton, List.singleton_append]
      have hm := List.mem_of_getElem? hi
      have := left_lt hsz hm
      exact ⟨hm, ih _ _ (by simpa using hsz) (by omega)⟩

theorem valid_lt {md : Region.Mode} : ∀ (L : List Nat) (listed : Array Bool), Valid md ops listed L → ∀ i ∈ L, i < ops.size := by
  intro L
  induction L with
  | nil => intro _ _ i h; cases h
  | cons x L ih =>
    intro listed h i hi
    rcases List.mem_cons.1 hi with rfl | hi
    · obtain ⟨_, o, ho, _⟩ := mem_ready.1 h.1
      exact (Array.getElem?_eq_some_iff.1 ho).1
    · exact ih _ h.2 i hi

theorem any_list (ro : RoOk S w0) (hcall : CallerOk S w0 call) (R : Rn S call nt ops bs ds E A G V X) (rb : Option Nat) {Q : Exit → Act → World → Prop}
    {ρ0 : Ren} {wi : World} {df : List Deferred} {md : Region.Mode}
    (hQ : ∀ a w ρ, Stp S w0 ρ0 (A 0) wi ρ (A ds.length) w → EnvR S ρ nt (E ds.length) a.tmps → a.defers = df → Q .normal a w) :
    ∀ (L : List Nat) (listed : Array Bool) (a : Act) (w : World) (ρ : Ren) (g : Nat → Option AObj) (q : Nat), listed.size = ops.size → Valid md ops listed L →
      (∀ pre i post p, L = pre ++ i :: post → X i p → p ∈ pre ∨ listed.getD p false = true) →
      Inv S w0 nt bs ds E A V ρ0 wi df (fun j => listed.getD j false = true) ρ g q a w → wpOpsIn (fen rb) 0 S.P ops Q L a w := by
  have done : ∀ (listed : Array Bool) (a : Act) (w : World) (ρ : Ren) (g : Nat → Option AObj) (q : Nat), (∀ i, i < ops.size → listed.getD i false = true) →
      Inv S w0 nt bs ds E A V ρ0 wi df (fun j => listed.getD j false = true) ρ g q a w → Q .normal a w := by
    intro listed a w ρ g q hall I
    have hin : ∀ (p : Nat) (d : DOper), ds[p]? = some d → listed.getD d.i false = true := fun p d h => by
      obtain ⟨o, ho, _⟩ := R.src p d h
      exact hall _ (Array.getElem?_eq_some_iff.1 ho).1
    obtain ⟨b1, b2⟩ := I.agree R ds.length I.q_le (Nat.le_refl _) fun p d h1 h2 _ => ⟨hin p d h1, fun e => by have := I.loud p d h1 e (hin p d h1); omega⟩
    refine hQ a w ρ (I.big.stp (fun id o h => by rw [b2 id (b1 id o h)]; exact h) b1 (R.mono _ 0 (Nat.zero_le _) (Nat.le_refl _))) ⟨I.nt_le, fun t v hv => ?_⟩ I.defers
    exact I.env t v ((R.holds _ (Nat.le_refl _) t v hv).congr fun p q h _ => ⟨fun _ => hin p q h, fun _ => R.lt h⟩)
  intro L
  induction L with
  | nil => intro listed a w ρ g q hsz hv _ I; simpa [wpOpsIn] using done listed a w ρ g q hv I
  | cons i L ih =>
    intro listed a w ρ g q hsz hv hx I
    rw [wpOpsIn_cons]
    refine any_step ro hcall R rb hsz I hv.1 (fun p hp => ?_) fun a' w' ρ' g' q' I' => ih _ a' w' ρ' g' q' (by simpa using hsz) hv.2 ?_ I'
    · rcases hx [] i L p rfl hp with h | h
      · cases h
      · exact h
    · intro pre j post p hL hp
      have hi : i < listed.size := by rw [hsz]; obtain ⟨_, o, ho, _⟩ := mem_ready.1 hv.1; exact (Array.getElem?_eq_some_iff.1 ho).1
      by_cases e : i = p
      · right; subst e; simp [hi]
      · rcases hx (i :: pre) j post p (by rw [hL]; rfl) hp with h | h
        · rcases List.mem_cons.1 h with h | h
          · exact absurd h.symm e
          · exact .inl h
        · right; rw [getD_set_ne false e]; exact h
end step

theorem dPick_some {aops : List AOper} {bs : List Nat} {i : Nat} {d : DOper} (h : dPick aops bs i = some d) : aops[i]? = some d.o ∧ d.k = d.o.op.kind ∧ d.i = i ∧ d.bs = bsAt bs i := by
  unfold dPick at h
  split at h
  · rename_i o ho; cases h; exact ⟨ho, rfl, rfl, rfl⟩
  · cases h

theorem mapO_get {α β : Type} {f : α → Option β} {l : List α} {r : List β} (h : mapO f l = some r) {i : Nat} {b : β} (hb : r[i]? = some b) : ∃ a, l[i]? = some a ∧ f a = some b := by
  obtain ⟨h1, h2⟩ := mapO_some h
  have hi : i < l.length := by rw [← h1]; exact (List.getElem?_eq_some_iff.1 hb).1
  obtain ⟨b', h3, h4⟩ := h2 i l[i] (List.getElem?_eq_getElem hi)
  rw [hb] at h3; cases h3
  exact ⟨_, List.getElem?_eq_getElem hi, h4⟩

/-- One of two comes first. -/
theorem first_of {i j : Nat} (hne : i ≠ j) : ∀ (L : List Nat), (∀ pre post, L = pre ++ i :: post → j ∈ pre) ∨ (∀ pre post, L = pre ++ j :: post → i ∈ pre) := by
  intro L
  induction L with
  | nil => left; intro pre post h; simp at h
  | cons x L ih =>
    by_cases h1 : x = i
    · right
      intro pre post h
      cases pre with
      | nil => simp at h; omega
      | cons y pre => simp at h; rw [← h.1, h1]; simp
    · by_cases h2 : x = j
      · left
        intro pre post h
        cases pre with
        | nil => simp at h; omega
        | cons y pre => simp at h; rw [← h.1, h2]; simp
      · rcases ih with ih | ih
        · left
          intro pre post h
          cases pre with
          | nil => simp at h; exact absurd h.1 h1
          | cons y pre => simp at h; exact List.mem_cons_of_mem _ (ih _ _ h.2)
        · right
          intro pre post h
          cases pre with
          | nil => simp at h; exact absurd h.1 h2
          | cons y pre => simp at h; exact List.mem_cons_of_mem _ (ih _ _ h.2)

section code
variable {S : Sta} {w0 : World}
theorem sched_valid {ops : Array Oper} (hedge : edgesOk ops.toList = true) (mixed : Bool) (t : Nat) : ∃ md, Valid md ops (Array.replicate ops.size false) (Region.schedule mixed ops t) := by
  have hle : left ops.size (Array.replicate ops.size false) ≤ ops.size := by
    unfold left
    exact Nat.le_trans (List.length_filter_le _ _) (by simp)
  unfold edgesOk at hedge
  split at hedge
  · rename_i htext
    unfold Region.schedule
    split
    · exact ⟨.any, go_valid (md2 := .text) (fun e h => binds_any h) (by simpa using htext) _ _ _ (by simp) hle⟩
    · split
      · exact ⟨.text, go_valid (md2 := .text) (fun e h => h) (by simpa using htext) _ _ _ (by simp) hle⟩
      · exact ⟨.gc, go_valid (md2 := .gc) (fun e h => h) (by simpa using hedge) _ _ _ (by simp) hle⟩
  · cases hedge

theorem inv_begin {call : Caller} {nt : Nat} {ops : Array Oper} {bs : List Nat} {ds : List DOper} {E : Nat → Tr AV} {A : Nat → AH} {G : Nat → List (Nat × AH)} {V : Nat → AV} {X : Nat → Nat → Prop}
    (R : Rn S call nt ops bs ds E A G V X) {ρ : Ren} {w : World} {a : Act} (r : Rel S w0 ρ (A 0) w) (henv : EnvR S ρ nt (E 0) a.tmps) (hf : Free ρ (A 0).next (A ds.length).next) :
    Inv S w0 nt bs ds E A V ρ { w with drawn := w.drawn + 1 } a.defers (fun j => (Array.replicate ops.size false).getD j false = true) ρ (A 0).get 0 a { w with drawn := w.drawn + 1 } := by
  have no : ∀ j, ¬ (Array.replicate ops.size false).getD j false = true := fun j h => by
    simp [Array.getD_eq_getD_getElem?, Array.getElem?_replicate] at h
    split at h <;> simp at h
  refine ⟨Nat.zero_le _, .inl rfl, fun i x hi => absurd hi (no i), fun p d _ hp => absurd hp (Nat.not_lt_zero _), fun p d _ _ hL => absurd hL (no _), r.dom, fun id _ => rfl, fun id o h1 h2 => ?_, fun p d o _ _ hL => absurd hL (no _), fun id h1 h2 _ => hf id h1 h2, ?_, fun t v hh => ?_, henv.1, rfl⟩
  · have := r.dom id o h2; omega
  · exact Big.of_rel (r.same rfl rfl rfl) (R.mono _ 0 (Nat.zero_le _) (Nat.le_refl _))
  · rcases hh with ⟨s, d, _, hL, _⟩ | ⟨_, hv⟩
    · exact absurd hL (no _)
    · exact henv.2 t v hv

theorem evD_sound {call : Caller} (ro : RoOk S w0) (hcall : CallerOk S w0 call) {nt : Nat} {ops : Array Oper} (rb : Option Nat) {Q : Exit → Act → World → Prop} {dops : List DOper} (hc : cDraw S.P nt ops = some dops)
    {ρ : Ren} {h : AH} {w : World} {a : Act} {env env' : Tr AV} {h' : AH} (r : Rel S w0 ρ h w) (henv : EnvR S ρ nt env a.tmps) (he : evD S.B call dops env h [(dops.length, h)] = .ok env' h') (hf : Free ρ h.next h'.next) (t : Nat)
    (K : ∀ ρ' a' w', Stp S w0 ρ h w ρ' h' w' → EnvR S ρ' nt env' a'.tmps → a'.defers = a.defers → Q .normal a' w') :
    wpOpsIn (fen rb) 0 S.P ops Q (Region.schedule (S.P.follows .mixedOrders) ops t) a { w with drawn := w.drawn + 1 } := by
  unfold cDraw at hc
  split at hc
  · cases hc
  · rename_i aops haops
    simp only at hc
    split at hc
    · cases hc
    · rename_i ds hds
      split at hc
      · rename_i hok
        cases hc
        simp only [Bool.and_eq_true] at hok
        obtain ⟨hedge, hord, htmp⟩ := hok
        obtain ⟨E, A, G, V, e0, a0, g0, e9, a9, hstep⟩ := evD_trace hcall.le _ he
        obtain ⟨on1, or1⟩ := orderOk_spec _ _ hord
        have hpick : ∀ (s : Nat) (d : DOper), dops[s]? = some d → aops[d.i]? = some d.o ∧ d.k = d.o.op.kind ∧ d.bs = bsAt (befores ops.toList []) d.i := by
          intro s d hd
          obtain ⟨i, _, hp⟩ := mapO_get hds hd
          obtain ⟨p1, p2, rfl, p4⟩ := dPick_some hp
          exact ⟨p1, p2, p4⟩
        have R : Rn S call nt ops (befores ops.toList []) dops E A G V (fun _ _ => False) := by
          refine ⟨fun s d hd => ?_, fun s d hd => (hpick s d hd).2.2, hstep, fun s d p q h1 h2 h3 => ?_, fun s d hd hk => ((or1 s d hd).2.2.2.2.1 hk), fun i hi => ?_, tmpsOk_spec _ htmp, ⟨_, by rw [g0, a0]⟩⟩
          · obtain ⟨p1, p2, p3⟩ := hpick s d hd
            obtain ⟨o, q1, q2⟩ := mapO_get haops p1
            refine ⟨o, by simpa using q1, q2, p2, fun x hx => ?_⟩
            rw [p3] at hx
            obtain ⟨p, k1, k2⟩ := (befores_spec ops.toList []).2 d.i o q1 x (by simpa using hx)
            exact ⟨p, .inl k1, k2⟩
          · rcases Nat.lt_trichotomy s p with h | h | h
            · exact absurd h3 ((or1 p q h2).2.2.1 s d h h1)
            · exact h
            · exact absurd h3.symm ((or1 s d h1).2.2.1 p q h h2)
          · rcases on1 i (by simpa using hi) with h | h
            · simp at h
            · exact h
        subst e0 a0
        rw [← e9, ← a9] at K
        rw [← a9] at hf
        obtain ⟨md, hv⟩ := sched_valid hedge (S.P.follows .mixedOrders) t
        exact any_list ro hcall R rb (wi := { w with drawn := w.drawn + 1 }) (fun a' w' ρ' s1 s2 s3 => K ρ' a' w' ((Stp.same (w' := { w with drawn := w.drawn + 1 }) r rfl rfl rfl).trans s1) s2 s3) _ _ a _ ρ _ 0 (by simp) hv (fun _ _ _ _ _ hx => absurd hx id) (inv_begin R r henv hf)
      · cases hc
end code
end Go.Proofs.YtkahmlbhgahbbaaGreat.Abs
