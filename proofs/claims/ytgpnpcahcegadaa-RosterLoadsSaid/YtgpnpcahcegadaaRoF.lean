/- What the functions do, shown by the logic. -/
import Derived.Test.YtgpnpcahcegadaaRoE
set_option linter.unusedSimpArgs false
set_option linter.unusedVariables false
set_option maxRecDepth 20000
namespace Go.Proofs.Ytgpnpcahcegadaa.RO
open Go.Proofs.Ytgpnpcahcegadaa.Abs
variable {B : Nat → List AV}
/-! ### What the steps do -/
theorem nodeS_zero {M : Nat} {s : RS} {node ix : Int} {addr : List Nat} (h : (nodeS M s node addr ix).2 = 0) :
    (0 ≤ node ∧ node < 8) ∧ (nodeS M s node addr ix).1 = { s with ns := putE s.ns ⟨keyN node.toNat, ⟨node, addr⟩, ix, ix⟩, l1 := maxI s.l1 ix } := by
  unfold nodeS at h ⊢
  split at h
  · cases h
  · rename_i h1
    split at h
    · cases h
    · rename_i h2
      split at h
      · cases h
      · rename_i h3
        rw [if_neg h1, if_neg h2, if_neg h3]
        exact ⟨Classical.not_not.1 h1, rfl⟩
theorem serviceS_zero {M : Nat} {s : RS} {x : KS} {ix : Int} (h : (serviceS M s x ix).2 = 0) :
    (0 ≤ x.node ∧ x.node < 8) ∧ (serviceS M s x ix).1 = { s with ss := putE s.ss ⟨keyS x.node.toNat x.id, x, ix, ix⟩, l2 := maxI s.l2 ix } := by
  unfold serviceS at h ⊢
  split at h
  · rename_i h1; exact absurd h h1
  · rename_i h1
    split at h
    · cases h
    · rename_i h3
      rw [if_neg h1, if_neg h3]
      obtain ⟨⟨n, hn, e⟩, _⟩ := wrongS_zero (Classical.not_not.1 h1)
      exact ⟨by rw [e]; simp only [Int.ofNat_eq_natCast]; omega, rfl⟩
theorem checkS_zero {M : Nat} {s : RS} {x : KC} {ix : Int} (h : (checkS M s x ix).2 = 0) :
    (0 ≤ x.node ∧ x.node < 8) ∧ (checkS M s x ix).1 = { s with cs := putE s.cs ⟨keyS x.node.toNat x.id, x, ix, ix⟩, l3 := maxI s.l3 ix } := by
  unfold checkS at h ⊢
  split at h
  · rename_i h1; exact absurd h h1
  · rename_i h1
    split at h
    · cases h
    · rename_i h3
      rw [if_neg h1, if_neg h3]
      obtain ⟨⟨n, hn, e⟩, _⟩ := wrongC_zero (Classical.not_not.1 h1)
      exact ⟨by rw [e]; simp only [Int.ofNat_eq_natCast]; omega, rfl⟩
theorem ks_node {M : Nat} {s : RS} {node ix : Int} {addr : List Nat} (ks : KsOk s) : KsOk (nodeS M s node addr ix).1 := by
  by_cases h : (nodeS M s node addr ix).2 = 0
  · obtain ⟨h1, e⟩ := nodeS_zero h
    rw [e]
    refine ⟨fun y hy => ?_, ks.ks, ks.kc⟩
    rcases mem_put hy with hy | ⟨hk, hv⟩
    · exact ks.kn y hy
    · exact ⟨node.toNat, by omega, by rw [hv]; simp only [Int.ofNat_eq_natCast]; omega, hk⟩
  · have e : (nodeS M s node addr ix).1 = s := by
      unfold nodeS at h ⊢
      split
      · rfl
      · split
        · rfl
        · split
          · rfl
          · rename_i h1 h2 h3
            rw [if_neg h1, if_neg h2, if_neg h3] at h
            exact absurd rfl h
    rw [e]; exact ks
theorem ks_service {M : Nat} {s : RS} {x : KS} {ix : Int} (ks : KsOk s) : KsOk (serviceS M s x ix).1 := by
  by_cases h : (serviceS M s x ix).2 = 0
  · obtain ⟨h1, e⟩ := serviceS_zero h
    rw [e]
    refine ⟨ks.kn, fun y hy => ?_, ks.kc⟩
    rcases mem_put hy with hy | ⟨hk, hv⟩
    · exact ks.ks y hy
    · exact ⟨x.node.toNat, by omega, by rw [hv]; simp only [Int.ofNat_eq_natCast]; omega, by rw [hv]; exact hk⟩
  · have e : (serviceS M s x ix).1 = s := by
      unfold serviceS at h ⊢
      split
      · rfl
      · split
        · rfl
        · rename_i h1 h2
          rw [if_neg h1, if_neg h2] at h
          exact absurd rfl h
    rw [e]; exact ks
theorem ks_check {M : Nat} {s : RS} {x : KC} {ix : Int} (ks : KsOk s) : KsOk (checkS M s x ix).1 := by
  by_cases h : (checkS M s x ix).2 = 0
  · obtain ⟨h1, e⟩ := checkS_zero h
    rw [e]
    refine ⟨ks.kn, ks.ks, fun y hy => ?_⟩
    rcases mem_put hy with hy | ⟨hk, hv⟩
    · exact ks.kc y hy
    · exact ⟨x.node.toNat, by omega, by rw [hv]; simp only [Int.ofNat_eq_natCast]; omega, by rw [hv]; exact hk⟩
  · have e : (checkS M s x ix).1 = s := by
      unfold checkS at h ⊢
      split
      · rfl
      · split
        · rfl
        · rename_i h1 h2
          rw [if_neg h1, if_neg h2] at h
          exact absurd rfl h
    rw [e]; exact ks
theorem ks_zero : KsOk rs0 := ⟨fun e he => (by cases he), fun e he => (by cases he), fun e he => (by cases he)⟩
/-! ### A load that succeeds lays what it is given -/
theorem two_puts {V : Type} {es : List (TE V)} {key : List Nat} {v : V} {mk ix : Int} (hb : AllBelow es key) : putE (putE es ⟨key, v, mk, mk⟩) ⟨key, v, ix, ix⟩ = es ++ [⟨key, v, mk, ix⟩] := by
  have h1 : putE es ⟨key, v, mk, mk⟩ = es ++ [⟨key, v, mk, mk⟩] := by
    have := put_below (Bs := []) (e := (⟨key, v, mk, mk⟩ : TE V)) hb
    rw [List.append_nil] at this
    rw [this]; rfl
  rw [h1]
  have h2 := put_below (Bs := [(⟨key, v, mk, mk⟩ : TE V)]) (e := (⟨key, v, ix, ix⟩ : TE V)) hb
  have h3 : putE [(⟨key, v, mk, mk⟩ : TE V)] ⟨key, v, ix, ix⟩ = [⟨key, v, mk, ix⟩] := if_pos rfl
  rw [h2, h3]
theorem max_le {a b c last : Int} (h1 : a ≤ last) (h2 : b ≤ last) (h3 : c ≤ last) : maxI (maxI a b) c ≤ last := by
  unfold maxI; split <;> (try split) <;> omega
theorem below_next {V : Type} {es : List (TE V)} {kp key : List Nat} {v : V} {mk ix : Int} (hb : ∀ e, e ∈ es → e.key = kp ∨ strLess e.key kp = true) (h : strLess kp key = true) :
    AllBelow es key ∧ ∀ e, e ∈ es ++ [(⟨key, v, mk, ix⟩ : TE V)] → e.key = key ∨ strLess e.key key = true := by
  have h1 : AllBelow es key := fun e he => by
    rcases hb e he with h2 | h2
    · rw [h2]; exact h
    · exact less_trans h2 h
  refine ⟨h1, fun e he => ?_⟩
  rcases List.mem_append.1 he with he | he
  · exact .inr (h1 e he)
  · rw [List.mem_singleton] at he; exact .inl (by rw [he])
theorem loadN_is {M : Nat} {last : Int} : ∀ {l : List (TE KN)} {s s' : RS} {kp : List Nat}, loadN M last l s kp = some s' → (∀ e, e ∈ s.ns → e.key = kp ∨ strLess e.key kp = true) → s.l1 ≤ last →
    ∃ l', s' = { s with ns := s.ns ++ l.map (fun e => ⟨keyN e.v.node.toNat, e.v, e.mke, e.ix⟩), l1 := l' } ∧ l' ≤ last := by
  intro l
  induction l with
  | nil =>
    intro s s' kp h hb hl
    cases h
    exact ⟨s.l1, by simp, hl⟩
  | cons e r ih =>
    intro s s' kp h hb hl
    unfold loadN at h
    split at h
    · rename_i hc
      obtain ⟨_, o1, o2, o3, o4, o5⟩ := hc
      obtain ⟨_, e1⟩ := nodeS_zero (by unfold stN at o4; exact o4)
      obtain ⟨_, e2⟩ := nodeS_zero (by unfold stN at o5; exact o5)
      have e3 : (stN M e (stN M e s e.mke).1 e.ix).1 = { s with ns := s.ns ++ [⟨keyN e.v.node.toNat, e.v, e.mke, e.ix⟩], l1 := maxI (maxI s.l1 e.mke) e.ix } := by
        obtain ⟨hb1, hb2⟩ := below_next (v := e.v) (mk := e.mke) (ix := e.ix) hb o1
        refine e2.trans ?_
        rw [e1]
        simp only [two_puts hb1]
      rw [e3] at h
      obtain ⟨hb1, hb2⟩ := below_next (v := e.v) (mk := e.mke) (ix := e.ix) hb o1
      obtain ⟨l', e4, h4⟩ := ih h hb2 (max_le hl (by omega) o3)
      exact ⟨l', by rw [e4]; simp, h4⟩
    · cases h
theorem loadS_is {M : Nat} {last : Int} : ∀ {l : List (TE KS)} {s s' : RS} {kp : List Nat}, loadS M last l s kp = some s' → (∀ e, e ∈ s.ss → e.key = kp ∨ strLess e.key kp = true) → s.l2 ≤ last →
    ∃ l', s' = { s with ss := s.ss ++ l.map (fun e => ⟨keyS e.v.node.toNat e.v.id, e.v, e.mke, e.ix⟩), l2 := l' } ∧ l' ≤ last := by
  intro l
  induction l with
  | nil =>
    intro s s' kp h hb hl
    cases h
    exact ⟨s.l2, by simp, hl⟩
  | cons e r ih =>
    intro s s' kp h hb hl
    unfold loadS at h
    split at h
    · rename_i hc
      obtain ⟨_, o1, o2, o3, o4, o5⟩ := hc
      obtain ⟨_, e1⟩ := serviceS_zero (by unfold stS at o4; exact o4)
      obtain ⟨_, e2⟩ := serviceS_zero (by unfold stS at o5; exact o5)
      obtain ⟨hb1, hb2⟩ := below_next (v := e.v) (mk := e.mke) (ix := e.ix) hb o1
      have e3 : (stS M e (stS M e s e.mke).1 e.ix).1 = { s with ss := s.ss ++ [⟨keyS e.v.node.toNat e.v.id, e.v, e.mke, e.ix⟩], l2 := maxI (maxI s.l2 e.mke) e.ix } := by
        refine e2.trans ?_
        rw [e1]
        simp only [two_puts hb1]
      rw [e3] at h
      obtain ⟨l', e4, h4⟩ := ih h hb2 (max_le hl (by omega) o3)
      exact ⟨l', by rw [e4]; simp, h4⟩
    · cases h
theorem loadC_is {M : Nat} {last : Int} : ∀ {l : List (TE KC)} {s s' : RS} {kp : List Nat}, loadC M last l s kp = some s' → (∀ e, e ∈ s.cs → e.key = kp ∨ strLess e.key kp = true) → s.l3 ≤ last →
    ∃ l', s' = { s with cs := s.cs ++ l.map (fun e => ⟨keyS e.v.node.toNat e.v.id, e.v, e.mke, e.ix⟩), l3 := l' } ∧ l' ≤ last := by
  intro l
  induction l with
  | nil =>
    intro s s' kp h hb hl
    cases h
    exact ⟨s.l3, by simp, hl⟩
  | cons e r ih =>
    intro s s' kp h hb hl
    unfold loadC at h
    split at h
    · rename_i hc
      obtain ⟨_, o1, o2, o3, o4, o5⟩ := hc
      obtain ⟨_, e1⟩ := checkS_zero (by unfold stC at o4; exact o4)
      obtain ⟨_, e2⟩ := checkS_zero (by unfold stC at o5; exact o5)
      obtain ⟨hb1, hb2⟩ := below_next (v := e.v) (mk := e.mke) (ix := e.ix) hb o1
      have e3 : (stC M e (stC M e s e.mke).1 e.ix).1 = { s with cs := s.cs ++ [⟨keyS e.v.node.toNat e.v.id, e.v, e.mke, e.ix⟩], l3 := maxI (maxI s.l3 e.mke) e.ix } := by
        refine e2.trans ?_
        rw [e1]
        simp only [two_puts hb1]
      rw [e3] at h
      obtain ⟨l', e4, h4⟩ := ih h hb2 (max_le hl (by omega) o3)
      exact ⟨l', by rw [e4]; simp, h4⟩
    · cases h
/-- All three. -/
noncomputable def loadAll (M : Nat) (l1 l2 l3 : Int) (nl : List (TE KN)) (sl : List (TE KS)) (cl : List (TE KC)) : Option RS :=
  ((loadN M l1 nl rs0 []).bind fun s => loadS M l2 sl s []).bind fun s => loadC M l3 cl s []
theorem loadAll_is {M : Nat} {l1 l2 l3 : Int} {nl : List (TE KN)} {sl : List (TE KS)} {cl : List (TE KC)} {s : RS} (h : loadAll M l1 l2 l3 nl sl cl = some s) (h1 : 0 ≤ l1) (h2 : 0 ≤ l2) (h3 : 0 ≤ l3) :
    s.ns = nl.map (fun e => ⟨keyN e.v.node.toNat, e.v, e.mke, e.ix⟩) ∧ s.ss = sl.map (fun e => ⟨keyS e.v.node.toNat e.v.id, e.v, e.mke, e.ix⟩) ∧ s.cs = cl.map (fun e => ⟨keyS e.v.node.toNat e.v.id, e.v, e.mke, e.ix⟩) ∧
    maxI s.l1 l1 = l1 ∧ maxI s.l2 l2 = l2 ∧ maxI s.l3 l3 = l3 := by
  unfold loadAll at h
  cases hN : loadN M l1 nl rs0 [] with
  | none => rw [hN] at h; cases h
  | some sN =>
    rw [hN] at h
    obtain ⟨a1, eN, b1⟩ := loadN_is hN (fun e he => by cases he) h1
    cases hS : loadS M l2 sl sN [] with
    | none => simp only [Option.bind_some, hS] at h; cases h
    | some sS =>
      simp only [Option.bind_some, hS] at h
      obtain ⟨a2, eS, b2⟩ := loadS_is hS (fun e he => by rw [eN] at he; cases he) (by rw [eN]; exact h2)
      obtain ⟨a3, eC, b3⟩ := loadC_is h (fun e he => by rw [eS, eN] at he; cases he) (by rw [eS, eN]; exact h3)
      have hm : ∀ a b : Int, a ≤ b → maxI a b = b := fun a b h => by unfold maxI; split <;> omega
      rw [eC, eS, eN]
      exact ⟨rfl, rfl, rfl, hm _ _ b1, hm _ _ b2, hm _ _ b3⟩
theorem RefAt.sub {H R : HL} {wp M : Nat} {s : RS} (h : RefAt B H wp M s R) : SubP R H := by
  obtain ⟨ps, v1, v2, v3, h1, h2, h3, e1, hp, o1, o2, o3, q⟩ := h
  refine ⟨(wp, .row (refC M v1 v2 v3 s)) :: (h1 ++ (h2 ++ h3)), q.trans (permF ?_)⟩
  intro f
  simp only [List.map_cons, List.map_append, List.sum_cons, List.sum_append]
  omega
theorem RefAt.ld {H R : HL} {wp M : Nat} {s : RS} {b : AA} {n : Nat} {l : List AV} (h : RefAt B H wp M s R) (k : Ld B R b n l) : Ld B H b n l := by
  obtain ⟨ps, v1, v2, v3, h1, h2, h3, e1, hp, o1, o2, o3, q⟩ := h
  exact Ld.perm q k.right.right.right.cons
theorem RefAt.sl {H R : HL} {wp M : Nat} {s : RS} {w : AV} {n : Nat} {xs : List (List AV)} (h : RefAt B H wp M s R) (k : SlIs B R w n xs) : SlIs B H w n xs := by
  obtain ⟨ps, v1, v2, v3, h1, h2, h3, e1, hp, o1, o2, o3, q⟩ := h
  exact SlIs.perm q (SlIs.cons (SlIs.right (SlIs.right (SlIs.right k))))
theorem RefAt.permR {H R R' : HL} {wp M : Nat} {s : RS} (h : RefAt B H wp M s R) (p : R.Perm R') : RefAt B H wp M s R' := by
  obtain ⟨ps, v1, v2, v3, h1, h2, h3, e1, hp, o1, o2, o3, q⟩ := h
  exact ⟨ps, v1, v2, v3, h1, h2, h3, e1, hp, o1, o2, o3, q.trans ((((p.append_left _).append_left _).append_left _).cons _)⟩
theorem RefAt.less {H R R1 : HL} {wp M : Nat} {s : RS} (h : RefAt B H wp M s R) (p : SubP R1 R) : ∃ H3, RefAt B H3 wp M s R1 ∧ SubP H3 H := by
  obtain ⟨ps, v1, v2, v3, h1, h2, h3, e1, hp, o1, o2, o3, q⟩ := h
  obtain ⟨X, pX⟩ := p
  refine ⟨_, ⟨ps, v1, v2, v3, h1, h2, h3, e1, hp, o1, o2, o3, List.Perm.refl _⟩, X, q.trans ?_⟩
  refine permF ?_
  intro f
  have := sum_perm pX f
  simp only [List.cons_append, List.map_cons, List.map_append, List.sum_cons, List.sum_append] at this ⊢
  omega
theorem RefAt.last {H R : HL} {wp M : Nat} {s : RS} (h : RefAt B H wp M s R) : ∃ v1 v2 v3 R', Tk H wp (.row (refC M v1 v2 v3 s)) R' ∧ v1.isCell = true ∧ v2.isCell = true ∧ v3.isCell = true ∧ ∀ k1 k2 k3 : Int, RefAt B ((wp, .row (refC M v1 v2 v3 { s with l1 := k1, l2 := k2, l3 := k3 })) :: R') wp M { s with l1 := k1, l2 := k2, l3 := k3 } R := by
  obtain ⟨ps, v1, v2, v3, h1, h2, h3, e1, hp, o1, o2, o3, q⟩ := h
  exact ⟨v1, v2, v3, _, q, o1.cell, o2.cell, o3.cell, fun k1 k2 k3 => ⟨ps, v1, v2, v3, h1, h2, h3, e1, hp, o1, o2, o3, List.Perm.refl _⟩⟩
theorem WD.gtT {T : Tr FnI} {t : EL} {H : HL} {HH : List (Nat × HL)} {Q : EL → HL → Prop} {os : List DOper} {k : Nat} {g : Option (Nat × Bool)} {i bs : Nat} {x y : AO} {m : Nat} (hg : wantedL g t = some true) (hx : gl t x = some (.int .i64 (.ofNat (m + 1)))) (hy : gl t y = some (.int .i64 (.ofNat 0)))
    (w : WD B T os ((k, .bool true) :: t) H HH Q) : WD B T (⟨⟨some k, .bin .gtr x y, g⟩, .quiet, i, bs⟩ :: os) t H HH Q := WD.cmp rfl hg hx hy (fun v hv => by
  have : v = true := hv.2 (by simp only [cmpP, Int.ofNat_eq_natCast]; omega)
  subst this; exact w)
theorem WD.gtF {T : Tr FnI} {t : EL} {H : HL} {HH : List (Nat × HL)} {Q : EL → HL → Prop} {os : List DOper} {k : Nat} {g : Option (Nat × Bool)} {i bs : Nat} {x y : AO} (hg : wantedL g t = some true) (hx : gl t x = some (.int .i64 (.ofNat 0))) (hy : gl t y = some (.int .i64 (.ofNat 0)))
    (w : WD B T os ((k, .bool false) :: t) H HH Q) : WD B T (⟨⟨some k, .bin .gtr x y, g⟩, .quiet, i, bs⟩ :: os) t H HH Q := WD.cmp rfl hg hx hy (fun v hv => by
  have : v = false := eq_false_of_ne_true (fun h => by have := hv.1 h; simp only [cmpP, Int.ofNat_eq_natCast] at this; omega)
  subst this; exact w)
theorem WD.pred {T : Tr FnI} {t : EL} {H : HL} {HH : List (Nat × HL)} {Q : EL → HL → Prop} {os : List DOper} {k : Nat} {g : Option (Nat × Bool)} {i bs : Nat} {x y : AO} {m : Nat} (hg : wantedL g t = some true) (hx : gl t x = some (.int .i64 (.ofNat (m + 1)))) (hy : gl t y = some (.int .i64 (.ofNat 1))) (h : m + 1 ≤ 9223372036854775807)
    (w : WD B T os ((k, .int .i64 (.ofNat m)) :: t) H HH Q) : WD B T (⟨⟨some k, .bin .sub x y, g⟩, .quiet, i, bs⟩ :: os) t H HH Q := WD.subN hg hx hy (by omega) h w
theorem WD.gtT2 {T : Tr FnI} {t : EL} {H : HL} {HH : List (Nat × HL)} {Q : EL → HL → Prop} {os : List DOper} {k : Nat} {g : Option (Nat × Bool)} {i bs : Nat} {x y : AO} {m j : Nat} (hg : wantedL g t = some true) (hx : gl t x = some (.int .i64 (.ofNat m))) (hy : gl t y = some (.int .i64 (.ofNat 0))) (hm : m = j + 1)
    (w : WD B T os ((k, .bool true) :: t) H HH Q) : WD B T (⟨⟨some k, .bin .gtr x y, g⟩, .quiet, i, bs⟩ :: os) t H HH Q := by
  subst hm; exact WD.gtT hg hx hy w
theorem WD.gtF2 {T : Tr FnI} {t : EL} {H : HL} {HH : List (Nat × HL)} {Q : EL → HL → Prop} {os : List DOper} {k : Nat} {g : Option (Nat × Bool)} {i bs : Nat} {x y : AO} {m : Nat} (hg : wantedL g t = some true) (hx : gl t x = some (.int .i64 (.ofNat m))) (hy : gl t y = some (.int .i64 (.ofNat 0))) (hm : m = 0)
    (w : WD B T os ((k, .bool false) :: t) H HH Q) : WD B T (⟨⟨some k, .bin .gtr x y, g⟩, .quiet, i, bs⟩ :: os) t H HH Q := by
  subst hm; exact WD.gtF hg hx hy w
theorem WD.pred2 {T : Tr FnI} {t : EL} {H : HL} {HH : List (Nat × HL)} {Q : EL → HL → Prop} {os : List DOper} {k : Nat} {g : Option (Nat × Bool)} {i bs : Nat} {x y : AO} {m j : Nat} (hg : wantedL g t = some true) (hx : gl t x = some (.int .i64 (.ofNat m))) (hy : gl t y = some (.int .i64 (.ofNat 1))) (hm : m = j + 1) (h : m ≤ 9223372036854775807)
    (w : WD B T os ((k, .int .i64 (.ofNat j)) :: t) H HH Q) : WD B T (⟨⟨some k, .bin .sub x y, g⟩, .quiet, i, bs⟩ :: os) t H HH Q := by
  subst hm; exact WD.pred hg hx hy h w
theorem keyN_pos {n : Nat} : strLess [] (keyN n) = true := rfl
theorem keyS_pos {n : Nat} {x : List Nat} : strLess [] (keyS n x) = true := rfl
set_option maxHeartbeats 16000000 in
theorem load5_ok {H0 : HL} {most l1 l2 l3 : Int} {vn vs vc : AV} {nl : List (TE KN)} {sl : List (TE KS × AV)} {cl : List (TE KC)} (hn : SlIs B H0 vn 4 (nl.map entN)) (hs : SlIs B H0 vs 7 (sl.map fun p => entS p.1 p.2)) (hc : SlIs B H0 vc 7 (cl.map entC))
    (ln : nl.length ≤ 9223372036854775807) (ls : sl.length ≤ 9223372036854775807) (lc : cl.length ≤ 9223372036854775807)
    (os : ∀ p, p ∈ sl → SvIs B [] p.1.v p.2) (oc : ∀ e, e ∈ cl → CkIs e.v) :
    WF B tab (.func 5) [.int .i64 most, vn, vs, vc, .agg [.int .u64 l1, .int .u64 l2, .int .u64 l3]] H0 fun r H' =>
      match ((loadN (mostOf most) l1 nl rs0 []).bind fun s => loadS (mostOf most) l2 (sl.map (·.1)) s []).bind fun s => loadC (mostOf most) l3 cl s [] with
      | none => r = .nilp ∧ H' = H0
      | some s => ∃ wp, r = .ptr ⟨false, wp, 0⟩ ∧ RsOk (mostOf most) s ∧ RefAt B H' wp (mostOf most) { s with l1 := l1, l2 := l2, l3 := l3 } H0 := by
  refine WF.lessP ?_
  refine WF.fn g5 rfl ?_
  have hM1 := mostOf_ge most
  have hM2 := mostOf_le most
  have cn := hn.cell
  have cs := hs.cell
  have cc := hc.cell
  refine WC.seq (WC.reg ?_)
  repeat' (first
    | apply WOps.nil | (apply WOps.bx; rfl; rfl; (first | rfl | ((repeat' (first | exact ac0 | apply ac1)) <;> (first | rfl | assumption))); intro _) | (apply WOps.purG; rfl; (intro _; rfl)))
  rename_i p9
  refine WC.seq (WC.reg ?_)
  repeat' (first
    | apply WOps.nil | (apply WOps.clA; rfl; rfl; exact new28_ok most; rintro _ H1 ⟨wp, rfl, h1⟩) | (apply WOps.purG; rfl; (intro _; rfl)))
  generalize mostOf most = M at *
  refine WC.cut2 (X := HL × RS) (fun _ => [(2, vs), (3, vc), (9, .ptr ⟨false, p9, 0⟩), (11, .ptr ⟨false, wp, 0⟩)]) (fun x => x.1) (fun x => RsOk M x.2 ∧ KsOk x.2 ∧ RefAt B x.1 wp M x.2 ((p9, .row [.int .u64 l1, .int .u64 l2, .int .u64 l3]) :: H0) ∧ loadN M l1 nl rs0 [] = some x.2) ?_ ?_
  · obtain ⟨i, hi⟩ : ∃ i : Nat, i = 0 := ⟨0, rfl⟩
    obtain ⟨H, s, kp, hH, ok, ks, hX, J, hkp⟩ : ∃ (H : HL) (s : RS) (kp : List Nat), H1 = H ∧ RsOk M s ∧ KsOk s ∧ RefAt B H wp M s ((p9, .row [.int .u64 l1, .int .u64 l2, .int .u64 l3]) :: H0) ∧ loadN M l1 nl rs0 [] = loadN M l1 (nl.drop i) s kp ∧ ((i = 0 ∧ kp = []) ∨ ∃ (j : Nat) (hj : j < nl.length) (m : Nat), i = j + 1 ∧ nl[j].v.node = .ofNat m ∧ kp = keyN m) := ⟨H1, rs0, [], rfl, (rs_zero hM1 hM2), ks_zero, h1, by subst hi; rfl, .inl ⟨hi, rfl⟩⟩
    repeat' (first
      | apply WOps.nil | apply WC.seq | apply WC.reg | apply WC.block | (apply WOps.purG; rfl; (intro _; rfl)))
    refine WC.loop ?_
    refine WL.heq (H' := H) hH ?_
    refine WL.le (t' := [(1, vn), (2, vs), (3, vc), (9, .ptr ⟨false, p9, 0⟩), (11, .ptr ⟨false, wp, 0⟩), (12, .int .i64 (.ofNat i))]) (by subst hi; exact Sub1.cons rfl (Sub1.cons rfl (Sub1.cons rfl (Sub1.cons rfl (Sub1.cons rfl (Sub1.cons rfl (Sub1.nil))))))) ?_
    have hle : i ≤ nl.length := by omega
    clear hi hH
    induction hm : nl.length - i using Nat.strongRecOn generalizing i H s kp with | _ q ih => ?_
    have hsl := hX.sl (SlIs.cons hn)
    apply WL.step
    refine WC.seq (WC.seq (WC.reg ?_))
    repeat' (first
      | apply WOps.nil | apply WC.skip | apply WC.exit | (apply WOps.lenS; rfl; rfl; exact hsl) | (apply WOps.cmp; rfl; rfl; rfl; rfl; intro _ _) | (apply WOps.purG; rfl; (intro _; rfl)) | (apply WC.condA; rfl; all_goals (intro hb; try subst hb)))
    all_goals rw [List.length_map] at *
    · have hlt : i < nl.length := by
        have h0 := ‹true = true ↔ cmpP BinOp.lss (Int.ofNat i) (Int.ofNat nl.length)›.1 rfl
        simp [cmpP] at h0; omega
      have hcm : (nl.map entN)[i]? = some (entN nl[i]) := by rw [List.getElem?_map, List.getElem?_eq_getElem hlt]; rfl
      have hdr : nl.drop i = nl[i] :: nl.drop (i + 1) := List.drop_eq_getElem_cons hlt
      rw [hdr] at J
      refine WC.seq (WC.block (WC.seq (WC.reg ?_)))
      repeat' (first
        | apply WOps.nil | (apply WOps.st; rfl; rfl; (first | exact tk0 | exact tk1 | exact tk2); rfl; (first | rfl | ((repeat' (first | exact ac0 | apply ac1)) <;> (first | rfl | assumption))); rfl) | (apply WOps.alc; rfl; intro _) | (apply WOps.ixSl; rfl; rfl; rfl; exact hsl; exact hcm; intro ax hax) | (apply WOps.ldG; rfl; rfl; exact hax; rfl) | (apply WOps.purG; rfl; (intro _; rfl)))
      rename_i p13
      have hR : RefAt B ((p13, .row (entN nl[i])) :: H) wp M s ((p13, .row (entN nl[i])) :: (p9, .row [.int .u64 l1, .int .u64 l2, .int .u64 l3]) :: H0) := hX.cons
      have hsl2 : SlIs B ((p13, .row (entN nl[i])) :: H) vn 4 (nl.map entN) := SlIs.cons hsl
      have bad : ∀ {H2 : HL} {s2 : RS}, RefAt B H2 wp M s2 ((p13, .row (entN nl[i])) :: (p9, .row [.int .u64 l1, .int .u64 l2, .int .u64 l3]) :: H0) → SubP H0 H2 := fun h => SubP.trans (SubP.of ((List.sublist_cons_self _ _).trans (List.sublist_cons_self _ _))) h.sub
      have hT : ¬ ((0 ≤ nl[i].v.node ∧ nl[i].v.node < 8) ∧ oneP (stN M nl[i]) s l1 kp (keyN nl[i].v.node.toNat) nl[i].mke nl[i].ix) → loadN M l1 nl rs0 [] = none := fun h => J.trans (if_neg h)
      have hG : ((0 ≤ nl[i].v.node ∧ nl[i].v.node < 8) ∧ oneP (stN M nl[i]) s l1 kp (keyN nl[i].v.node.toNat) nl[i].mke nl[i].ix) → loadN M l1 nl rs0 [] = loadN M l1 (nl.drop (i + 1)) (stN M nl[i] (stN M nl[i] s nl[i].mke).1 nl[i].ix).1 (keyN nl[i].v.node.toNat) := fun h => J.trans (if_pos h)
      clear J
      have d0 : ∀ {H2 : HL} {s2 : RS}, RefAt B H2 wp M s2 ((p13, .row (entN nl[i])) :: (p9, .row [.int .u64 l1, .int .u64 l2, .int .u64 l3]) :: H0) → Ld B H2 ⟨false, p13, 0⟩ 1 [.int .i64 nl[i].v.node] := fun h => h.ld (Ld.own Tk.head rfl)
      have d1 : ∀ {H2 : HL} {s2 : RS}, RefAt B H2 wp M s2 ((p13, .row (entN nl[i])) :: (p9, .row [.int .u64 l1, .int .u64 l2, .int .u64 l3]) :: H0) → Ld B H2 ⟨false, p13, 1⟩ 1 [.str nl[i].v.addr] := fun h => h.ld (Ld.own Tk.head rfl)
      have d2 : ∀ {H2 : HL} {s2 : RS}, RefAt B H2 wp M s2 ((p13, .row (entN nl[i])) :: (p9, .row [.int .u64 l1, .int .u64 l2, .int .u64 l3]) :: H0) → Ld B H2 ⟨false, p13, 2⟩ 1 [.int .u64 nl[i].mke] := fun h => h.ld (Ld.own Tk.head rfl)
      have d3 : ∀ {H2 : HL} {s2 : RS}, RefAt B H2 wp M s2 ((p13, .row (entN nl[i])) :: (p9, .row [.int .u64 l1, .int .u64 l2, .int .u64 l3]) :: H0) → Ld B H2 ⟨false, p13, 3⟩ 1 [.int .u64 nl[i].ix] := fun h => h.ld (Ld.own Tk.head rfl)
      have dl : ∀ {H2 : HL} {s2 : RS}, RefAt B H2 wp M s2 ((p13, .row (entN nl[i])) :: (p9, .row [.int .u64 l1, .int .u64 l2, .int .u64 l3]) :: H0) → Ld B H2 ⟨false, p9, 0⟩ 1 [.int .u64 l1] := fun h => h.ld (Ld.own (Tk.tail Tk.head) rfl)
      rcases hkp with ⟨rfl, rfl⟩ | ⟨j, hj, m, rfl, hm2, rfl⟩
      · repeat' (first
          | apply WOps.nil | apply WC.seq | apply WC.reg | apply WC.skip | apply WC.ret | (apply WC.condT; rfl) | apply WC.dreg | apply WD.nil | (apply WD.gtF; rfl; rfl; rfl) | (apply WD.load; rfl; (first | (apply at1; exact rd_ld rfl (d0 hR) rfl; rfl) | (apply at2; exact rd_ld rfl (d0 hR) rfl; repeat' (first | exact same0 | (apply same1; exact rd_ld rfl (d0 hR) rfl; rfl) | (apply same2; exact rd_ld rfl (d0 hR) rfl))))) | (apply WD.load; rfl; (first | (apply at1; exact rd_ld rfl (d0 r1) rfl; rfl) | (apply at2; exact rd_ld rfl (d0 r1) rfl; repeat' (first | exact same0 | (apply same1; exact rd_ld rfl (d0 r1) rfl; rfl) | (apply same2; exact rd_ld rfl (d0 r1) rfl))))) | (apply WD.load; rfl; (first | (apply at1; exact rd_ld rfl (d1 hR) rfl; rfl) | (apply at2; exact rd_ld rfl (d1 hR) rfl; repeat' (first | exact same0 | (apply same1; exact rd_ld rfl (d1 hR) rfl; rfl) | (apply same2; exact rd_ld rfl (d1 hR) rfl))))) | (apply WD.load; rfl; (first | (apply at1; exact rd_ld rfl (d1 r1) rfl; rfl) | (apply at2; exact rd_ld rfl (d1 r1) rfl; repeat' (first | exact same0 | (apply same1; exact rd_ld rfl (d1 r1) rfl; rfl) | (apply same2; exact rd_ld rfl (d1 r1) rfl))))) | (apply WD.load; rfl; (first | (apply at1; exact rd_ld rfl (d2 hR) rfl; rfl) | (apply at2; exact rd_ld rfl (d2 hR) rfl; repeat' (first | exact same0 | (apply same1; exact rd_ld rfl (d2 hR) rfl; rfl) | (apply same2; exact rd_ld rfl (d2 hR) rfl))))) | (apply WD.load; rfl; (first | (apply at1; exact rd_ld rfl (d3 hR) rfl; rfl) | (apply at2; exact rd_ld rfl (d3 hR) rfl; repeat' (first | exact same0 | (apply same1; exact rd_ld rfl (d3 hR) rfl; rfl) | (apply same2; exact rd_ld rfl (d3 hR) rfl))))) | (apply WD.load; rfl; (first | (apply at1; exact rd_ld rfl (d3 r1) rfl; rfl) | (apply at2; exact rd_ld rfl (d3 r1) rfl; repeat' (first | exact same0 | (apply same1; exact rd_ld rfl (d3 r1) rfl; rfl) | (apply same2; exact rd_ld rfl (d3 r1) rfl))))) | (apply WD.load; rfl; (first | (apply at1; exact rd_ld rfl (dl hR) rfl; rfl) | (apply at2; exact rd_ld rfl (dl hR) rfl; repeat' (first | exact same0 | (apply same1; exact rd_ld rfl (dl hR) rfl; rfl) | (apply same2; exact rd_ld rfl (dl hR) rfl))))) | (apply WD.clA; rfl; rfl; exact nodeR_ok (node := nl[0].v.node) (addr := nl[0].v.addr) ok ks hR; rintro _ H2 ⟨rfl, r1⟩) | (apply WD.clA; rfl; rfl; exact nodeR_ok (node := nl[0].v.node) (addr := nl[0].v.addr) (rs_node ok) (ks_node ks) r1; rintro _ H3 ⟨rfl, r2⟩) | (apply WOps.addN; rfl; rfl; rfl; omega) | (apply WOps.purG; rfl; (intro _; rfl)) | (apply WD.cmp; rfl; rfl; rfl; rfl; intro _ _) | (apply WD.pur; rfl; (intro _; rfl)) | (apply WD.skp; rfl) | (apply WD.skpL; rfl) | (apply WD.skpX; rfl) | (apply WC.condA; rfl; all_goals (intro hb; try subst hb)) | (apply WD.ask; rfl; all_goals (intro hb; first | subst hb | fail_if_success (cases hb))))
        · have q := ‹true = true ↔ cmpP BinOp.gtr nl[0].mke nl[0].ix›.1 rfl
          rw [hT (fun h => by have h2 := h.2.2.1; have q2 : nl[0].mke > nl[0].ix := q; omega)]
          exact ⟨trivial, [_], ⟨_, [], rfl, rfl, rfl⟩, H0, ⟨rfl, rfl⟩, bad hR⟩
        · have q := ‹true = true ↔ cmpP BinOp.gtr nl[0].ix l1›.1 rfl
          rw [hT (fun h => by have h2 := h.2.2.2.1; have q2 : nl[0].ix > l1 := q; omega)]
          exact ⟨trivial, [_], ⟨_, [], rfl, rfl, rfl⟩, H0, ⟨rfl, rfl⟩, bad hR⟩
        · have q := ‹true = true ↔ cmpP BinOp.neq (Int.ofNat (nodeS M s nl[0].v.node nl[0].v.addr nl[0].mke).2) _›.1 rfl
          rw [hT (fun h => q (congrArg Int.ofNat (h.2.2.2.2.1 : (nodeS M s nl[0].v.node nl[0].v.addr nl[0].mke).2 = 0)))]
          exact ⟨trivial, [_], ⟨_, [], rfl, rfl, rfl⟩, H0, ⟨rfl, rfl⟩, bad r1⟩
        · have q := ‹true = true ↔ cmpP BinOp.neq (Int.ofNat (nodeS M (nodeS M s nl[0].v.node nl[0].v.addr nl[0].mke).1 nl[0].v.node nl[0].v.addr nl[0].ix).2) _›.1 rfl
          rw [hT (fun h => q (congrArg Int.ofNat (h.2.2.2.2.2 : (nodeS M (nodeS M s nl[0].v.node nl[0].v.addr nl[0].mke).1 nl[0].v.node nl[0].v.addr nl[0].ix).2 = 0)))]
          exact ⟨trivial, [_], ⟨_, [], rfl, rfl, rfl⟩, H0, ⟨rfl, rfl⟩, bad r2⟩
        · have q1 := eq_of_ff ‹false = true ↔ cmpP BinOp.gtr nl[0].mke nl[0].ix›
          have q2 := eq_of_ff ‹false = true ↔ cmpP BinOp.gtr nl[0].ix l1›
          have q3 : (nodeS M s nl[0].v.node nl[0].v.addr nl[0].mke).2 = 0 := by
            have q := eq_of_ff ‹false = true ↔ cmpP BinOp.neq (Int.ofNat (nodeS M s nl[0].v.node nl[0].v.addr nl[0].mke).2) _›
            simp only [cmpP, Classical.not_not, Int.ofNat_eq_natCast] at q; omega
          have q4 : (nodeS M (nodeS M s nl[0].v.node nl[0].v.addr nl[0].mke).1 nl[0].v.node nl[0].v.addr nl[0].ix).2 = 0 := by
            have q := eq_of_ff ‹false = true ↔ cmpP BinOp.neq (Int.ofNat (nodeS M (nodeS M s nl[0].v.node nl[0].v.addr nl[0].mke).1 nl[0].v.node nl[0].v.addr nl[0].ix).2) _›
            simp only [cmpP, Classical.not_not, Int.ofNat_eq_natCast] at q; omega
          simp only [cmpP] at q1 q2
          have hd := (nodeS_zero q3).1
          have hC := hG ⟨hd, keyN_pos, by omega, by omega, q3, q4⟩
          obtain ⟨H4, h4, s4⟩ := r2.less (R1 := (p9, .row [.int .u64 l1, .int .u64 l2, .int .u64 l3]) :: H0) (SubP.of (List.sublist_cons_self _ _))
          refine WL.le (Sub1.cons rfl (Sub1.cons rfl (Sub1.cons rfl (Sub1.cons rfl (Sub1.cons rfl (Sub1.cons rfl (Sub1.nil))))))) (WL.lessP s4 (ih _ (by omega) (0 + 1) H4 (nodeS M (nodeS M s nl[0].v.node nl[0].v.addr nl[0].mke).1 nl[0].v.node nl[0].v.addr nl[0].ix).1 (keyN nl[0].v.node.toNat) (rs_node (rs_node ok)) (ks_node (ks_node ks)) h4 hC (.inr ⟨0, hlt, nl[0].v.node.toNat, rfl, ?_, rfl⟩) (by omega) rfl))
          simp only [Int.ofNat_eq_natCast]; omega
      · have hcj : (nl.map entN)[j]? = some (entN nl[j]) := by rw [List.getElem?_map, List.getElem?_eq_getElem hj]; rfl
        repeat' (first
          | apply WOps.nil | apply WC.seq | apply WC.reg | apply WC.skip | apply WC.ret | (apply WC.condT; rfl) | apply WC.dreg | apply WD.nil | (apply WD.gtT; rfl; rfl; rfl) | (apply WD.pred; rfl; rfl; rfl; omega) | (apply WD.ixSl; rfl; rfl; rfl; exact hsl2; exact hcj; intro ay hay) | (apply WD.load; rfl; (first | (apply at1; exact rd_ld rfl (Ld.part (hay _ hsl2) 0 1 (by omega)) rfl; rfl) | (apply at2; exact rd_ld rfl (Ld.part (hay _ hsl2) 0 1 (by omega)) rfl; repeat' (first | exact same0 | (apply same1; exact rd_ld rfl (Ld.part (hay _ hsl2) 0 1 (by omega)) rfl; rfl) | (apply same2; exact rd_ld rfl (Ld.part (hay _ hsl2) 0 1 (by omega)) rfl))))) | (apply WD.load; rfl; (first | (apply at1; exact rd_ld rfl (d0 hR) rfl; rfl) | (apply at2; exact rd_ld rfl (d0 hR) rfl; repeat' (first | exact same0 | (apply same1; exact rd_ld rfl (d0 hR) rfl; rfl) | (apply same2; exact rd_ld rfl (d0 hR) rfl))))) | (apply WD.load; rfl; (first | (apply at1; exact rd_ld rfl (d0 r1) rfl; rfl) | (apply at2; exact rd_ld rfl (d0 r1) rfl; repeat' (first | exact same0 | (apply same1; exact rd_ld rfl (d0 r1) rfl; rfl) | (apply same2; exact rd_ld rfl (d0 r1) rfl))))) | (apply WD.load; rfl; (first | (apply at1; exact rd_ld rfl (d1 hR) rfl; rfl) | (apply at2; exact rd_ld rfl (d1 hR) rfl; repeat' (first | exact same0 | (apply same1; exact rd_ld rfl (d1 hR) rfl; rfl) | (apply same2; exact rd_ld rfl (d1 hR) rfl))))) | (apply WD.load; rfl; (first | (apply at1; exact rd_ld rfl (d1 r1) rfl; rfl) | (apply at2; exact rd_ld rfl (d1 r1) rfl; repeat' (first | exact same0 | (apply same1; exact rd_ld rfl (d1 r1) rfl; rfl) | (apply same2; exact rd_ld rfl (d1 r1) rfl))))) | (apply WD.load; rfl; (first | (apply at1; exact rd_ld rfl (d2 hR) rfl; rfl) | (apply at2; exact rd_ld rfl (d2 hR) rfl; repeat' (first | exact same0 | (apply same1; exact rd_ld rfl (d2 hR) rfl; rfl) | (apply same2; exact rd_ld rfl (d2 hR) rfl))))) | (apply WD.load; rfl; (first | (apply at1; exact rd_ld rfl (d3 hR) rfl; rfl) | (apply at2; exact rd_ld rfl (d3 hR) rfl; repeat' (first | exact same0 | (apply same1; exact rd_ld rfl (d3 hR) rfl; rfl) | (apply same2; exact rd_ld rfl (d3 hR) rfl))))) | (apply WD.load; rfl; (first | (apply at1; exact rd_ld rfl (d3 r1) rfl; rfl) | (apply at2; exact rd_ld rfl (d3 r1) rfl; repeat' (first | exact same0 | (apply same1; exact rd_ld rfl (d3 r1) rfl; rfl) | (apply same2; exact rd_ld rfl (d3 r1) rfl))))) | (apply WD.load; rfl; (first | (apply at1; exact rd_ld rfl (dl hR) rfl; rfl) | (apply at2; exact rd_ld rfl (dl hR) rfl; repeat' (first | exact same0 | (apply same1; exact rd_ld rfl (dl hR) rfl; rfl) | (apply same2; exact rd_ld rfl (dl hR) rfl))))) | (apply WD.clA; rfl; rfl; exact nodeR_ok (node := nl[j + 1].v.node) (addr := nl[j + 1].v.addr) ok ks hR; rintro _ H2 ⟨rfl, r1⟩) | (apply WD.clA; rfl; rfl; exact nodeR_ok (node := nl[j + 1].v.node) (addr := nl[j + 1].v.addr) (rs_node ok) (ks_node ks) r1; rintro _ H3 ⟨rfl, r2⟩) | (apply WOps.addN; rfl; rfl; rfl; omega) | (apply WOps.purG; rfl; (intro _; rfl)) | (apply WD.cmp; rfl; rfl; rfl; rfl; intro _ _) | (apply WD.pur; rfl; (intro _; rfl)) | (apply WD.skp; rfl) | (apply WD.skpL; rfl) | (apply WD.skpX; rfl) | (apply WC.condA; rfl; all_goals (intro hb; try subst hb)) | (apply WD.ask; rfl; all_goals (intro hb; first | subst hb | fail_if_success (cases hb))))
        · have q := ‹true = true ↔ cmpP BinOp.geq nl[j].v.node nl[j + 1].v.node›.1 rfl
          rw [hT (fun h => by
            have h2 := keyN_less.1 h.2.1
            have h3 := h.1
            have q2 : nl[j].v.node ≥ nl[j + 1].v.node := q
            rw [hm2] at q2
            simp only [Int.ofNat_eq_natCast] at q2
            omega)]
          exact ⟨trivial, [_], ⟨_, [], rfl, rfl, rfl⟩, H0, ⟨rfl, rfl⟩, bad hR⟩
        · have q := ‹true = true ↔ cmpP BinOp.gtr nl[j + 1].mke nl[j + 1].ix›.1 rfl
          rw [hT (fun h => by have h2 := h.2.2.1; have q2 : nl[j + 1].mke > nl[j + 1].ix := q; omega)]
          exact ⟨trivial, [_], ⟨_, [], rfl, rfl, rfl⟩, H0, ⟨rfl, rfl⟩, bad hR⟩
        · have q := ‹true = true ↔ cmpP BinOp.gtr nl[j + 1].ix l1›.1 rfl
          rw [hT (fun h => by have h2 := h.2.2.2.1; have q2 : nl[j + 1].ix > l1 := q; omega)]
          exact ⟨trivial, [_], ⟨_, [], rfl, rfl, rfl⟩, H0, ⟨rfl, rfl⟩, bad hR⟩
        · have q := ‹true = true ↔ cmpP BinOp.neq (Int.ofNat (nodeS M s nl[j + 1].v.node nl[j + 1].v.addr nl[j + 1].mke).2) _›.1 rfl
          rw [hT (fun h => q (congrArg Int.ofNat (h.2.2.2.2.1 : (nodeS M s nl[j + 1].v.node nl[j + 1].v.addr nl[j + 1].mke).2 = 0)))]
          exact ⟨trivial, [_], ⟨_, [], rfl, rfl, rfl⟩, H0, ⟨rfl, rfl⟩, bad r1⟩
        · have q := ‹true = true ↔ cmpP BinOp.neq (Int.ofNat (nodeS M (nodeS M s nl[j + 1].v.node nl[j + 1].v.addr nl[j + 1].mke).1 nl[j + 1].v.node nl[j + 1].v.addr nl[j + 1].ix).2) _›.1 rfl
          rw [hT (fun h => q (congrArg Int.ofNat (h.2.2.2.2.2 : (nodeS M (nodeS M s nl[j + 1].v.node nl[j + 1].v.addr nl[j + 1].mke).1 nl[j + 1].v.node nl[j + 1].v.addr nl[j + 1].ix).2 = 0)))]
          exact ⟨trivial, [_], ⟨_, [], rfl, rfl, rfl⟩, H0, ⟨rfl, rfl⟩, bad r2⟩
        · have q1 := eq_of_ff ‹false = true ↔ cmpP BinOp.gtr nl[j + 1].mke nl[j + 1].ix›
          have q2 := eq_of_ff ‹false = true ↔ cmpP BinOp.gtr nl[j + 1].ix l1›
          have q3 : (nodeS M s nl[j + 1].v.node nl[j + 1].v.addr nl[j + 1].mke).2 = 0 := by
            have q := eq_of_ff ‹false = true ↔ cmpP BinOp.neq (Int.ofNat (nodeS M s nl[j + 1].v.node nl[j + 1].v.addr nl[j + 1].mke).2) _›
            simp only [cmpP, Classical.not_not, Int.ofNat_eq_natCast] at q; omega
          have q4 : (nodeS M (nodeS M s nl[j + 1].v.node nl[j + 1].v.addr nl[j + 1].mke).1 nl[j + 1].v.node nl[j + 1].v.addr nl[j + 1].ix).2 = 0 := by
            have q := eq_of_ff ‹false = true ↔ cmpP BinOp.neq (Int.ofNat (nodeS M (nodeS M s nl[j + 1].v.node nl[j + 1].v.addr nl[j + 1].mke).1 nl[j + 1].v.node nl[j + 1].v.addr nl[j + 1].ix).2) _›
            simp only [cmpP, Classical.not_not, Int.ofNat_eq_natCast] at q; omega
          simp only [cmpP] at q1 q2
          have hd := (nodeS_zero q3).1
          have hC := hG ⟨hd, keyN_less.2 (by
            have q0 := eq_of_ff ‹false = true ↔ cmpP BinOp.geq nl[j].v.node nl[j + 1].v.node›
            simp only [cmpP] at q0
            rw [hm2] at q0
            simp only [Int.ofNat_eq_natCast] at q0
            omega), by omega, by omega, q3, q4⟩
          obtain ⟨H4, h4, s4⟩ := r2.less (R1 := (p9, .row [.int .u64 l1, .int .u64 l2, .int .u64 l3]) :: H0) (SubP.of (List.sublist_cons_self _ _))
          refine WL.le (Sub1.cons rfl (Sub1.cons rfl (Sub1.cons rfl (Sub1.cons rfl (Sub1.cons rfl (Sub1.cons rfl (Sub1.nil))))))) (WL.lessP s4 (ih _ (by omega) (j + 1 + 1) H4 (nodeS M (nodeS M s nl[j + 1].v.node nl[j + 1].v.addr nl[j + 1].mke).1 nl[j + 1].v.node nl[j + 1].v.addr nl[j + 1].ix).1 (keyN nl[j + 1].v.node.toNat) (rs_node (rs_node ok)) (ks_node (ks_node ks)) h4 hC (.inr ⟨j + 1, hlt, nl[j + 1].v.node.toNat, rfl, ?_, rfl⟩) (by omega) rfl))
          simp only [Int.ofNat_eq_natCast]; omega
    · have hge : ¬ i < nl.length := by
        have h0 := eq_of_ff ‹false = true ↔ cmpP BinOp.lss (Int.ofNat i) (Int.ofNat nl.length)›
        simp [cmpP] at h0; omega
      have e : nl.drop i = [] := List.drop_eq_nil_of_le (by omega)
      exact ⟨(H, s), Sub1.cons rfl (Sub1.cons rfl (Sub1.cons rfl (Sub1.cons rfl (Sub1.nil)))), SubP.refl, ok, ks, hX, by rw [J, e]; rfl⟩
  rintro ⟨HN, sN⟩ ⟨okN, ksN, XN, JN⟩
  simp only at okN ksN XN JN
  refine WC.cut2 (X := HL × RS) (fun _ => [(3, vc), (9, .ptr ⟨false, p9, 0⟩), (11, .ptr ⟨false, wp, 0⟩)]) (fun x => x.1) (fun x => RsOk M x.2 ∧ KsOk x.2 ∧ RefAt B x.1 wp M x.2 ((p9, .row [.int .u64 l1, .int .u64 l2, .int .u64 l3]) :: H0) ∧ ((loadN M l1 nl rs0 []).bind fun s => loadS M l2 (sl.map (·.1)) s []) = some x.2) ?_ ?_
  · obtain ⟨i, hi⟩ : ∃ i : Nat, i = 0 := ⟨0, rfl⟩
    obtain ⟨H, s, kp, hH, ok, ks, hX, J, hkp⟩ : ∃ (H : HL) (s : RS) (kp : List Nat), HN = H ∧ RsOk M s ∧ KsOk s ∧ RefAt B H wp M s ((p9, .row [.int .u64 l1, .int .u64 l2, .int .u64 l3]) :: H0) ∧ ((loadN M l1 nl rs0 []).bind fun s => loadS M l2 (sl.map (·.1)) s []) = loadS M l2 ((sl.map (·.1)).drop i) s kp ∧ ((i = 0 ∧ kp = []) ∨ ∃ (j : Nat) (hj : j < sl.length) (m : Nat), i = j + 1 ∧ sl[j].1.v.node = .ofNat m ∧ kp = keyS m sl[j].1.v.id) := ⟨HN, sN, [], rfl, okN, ksN, XN, by subst hi; rw [JN]; rfl, .inl ⟨hi, rfl⟩⟩
    repeat' (first
      | apply WOps.nil | apply WC.seq | apply WC.reg | apply WC.block | (apply WOps.purG; rfl; (intro _; rfl)))
    refine WC.loop ?_
    refine WL.heq (H' := H) hH ?_
    refine WL.le (t' := [(2, vs), (3, vc), (9, .ptr ⟨false, p9, 0⟩), (11, .ptr ⟨false, wp, 0⟩), (14, .int .i64 (.ofNat i))]) (by subst hi; exact Sub1.cons rfl (Sub1.cons rfl (Sub1.cons rfl (Sub1.cons rfl (Sub1.cons rfl (Sub1.nil)))))) ?_
    have hle : i ≤ sl.length := by omega
    clear hi hH
    induction hm : sl.length - i using Nat.strongRecOn generalizing i H s kp with | _ q ih => ?_
    have hsl := hX.sl (SlIs.cons hs)
    apply WL.step
    refine WC.seq (WC.seq (WC.reg ?_))
    repeat' (first
      | apply WOps.nil | apply WC.skip | apply WC.exit | (apply WOps.lenS; rfl; rfl; exact hsl) | (apply WOps.cmp; rfl; rfl; rfl; rfl; intro _ _) | (apply WOps.purG; rfl; (intro _; rfl)) | (apply WC.condA; rfl; all_goals (intro hb; try subst hb)))
    all_goals rw [List.length_map] at *
    · have hlt : i < sl.length := by
        have h0 := ‹true = true ↔ cmpP BinOp.lss (Int.ofNat i) (Int.ofNat sl.length)›.1 rfl
        simp [cmpP] at h0; omega
      have hcm : (sl.map fun p => entS p.1 p.2)[i]? = some (entS sl[i].1 sl[i].2) := by rw [List.getElem?_map, List.getElem?_eq_getElem hlt]; rfl
      have hdr : (sl.map (·.1)).drop i = sl[i].1 :: (sl.map (·.1)).drop (i + 1) := by rw [List.drop_eq_getElem_cons (by rw [List.length_map]; exact hlt), List.getElem_map]
      rw [hdr] at J
      have hos := os _ (List.getElem_mem hlt)
      have ct := hos.t.cell
      refine WC.seq (WC.block (WC.seq (WC.reg ?_)))
      repeat' (first
        | apply WOps.nil | (apply WOps.st; rfl; rfl; (first | exact tk0 | exact tk1 | exact tk2); rfl; (first | rfl | ((repeat' (first | exact ac0 | apply ac1)) <;> (first | rfl | assumption))); rfl) | (apply WOps.alc; rfl; intro _) | (apply WOps.ixSl; rfl; rfl; rfl; exact hsl; exact hcm; intro ax hax) | (apply WOps.ldG; rfl; rfl; exact hax; rfl) | (apply WOps.purG; rfl; (intro _; rfl)))
      rename_i p13
      have hR : RefAt B ((p13, .row (entS sl[i].1 sl[i].2)) :: H) wp M s ((p13, .row (entS sl[i].1 sl[i].2)) :: (p9, .row [.int .u64 l1, .int .u64 l2, .int .u64 l3]) :: H0) := hX.cons
      have hsl2 : SlIs B ((p13, .row (entS sl[i].1 sl[i].2)) :: H) vs 7 (sl.map fun p => entS p.1 p.2) := SlIs.cons hsl
      have bad : ∀ {H2 : HL} {s2 : RS}, RefAt B H2 wp M s2 ((p13, .row (entS sl[i].1 sl[i].2)) :: (p9, .row [.int .u64 l1, .int .u64 l2, .int .u64 l3]) :: H0) → SubP H0 H2 := fun h => SubP.trans (SubP.of ((List.sublist_cons_self _ _).trans (List.sublist_cons_self _ _))) h.sub
      have hT : ¬ ((0 ≤ sl[i].1.v.node ∧ sl[i].1.v.node < 8) ∧ oneP (stS M sl[i].1) s l2 kp (keyS sl[i].1.v.node.toNat sl[i].1.v.id) sl[i].1.mke sl[i].1.ix) → ((loadN M l1 nl rs0 []).bind fun s => loadS M l2 (sl.map (·.1)) s []) = none := fun h => J.trans (if_neg h)
      have hG : ((0 ≤ sl[i].1.v.node ∧ sl[i].1.v.node < 8) ∧ oneP (stS M sl[i].1) s l2 kp (keyS sl[i].1.v.node.toNat sl[i].1.v.id) sl[i].1.mke sl[i].1.ix) → ((loadN M l1 nl rs0 []).bind fun s => loadS M l2 (sl.map (·.1)) s []) = loadS M l2 ((sl.map (·.1)).drop (i + 1)) (stS M sl[i].1 (stS M sl[i].1 s sl[i].1.mke).1 sl[i].1.ix).1 (keyS sl[i].1.v.node.toNat sl[i].1.v.id) := fun h => J.trans (if_pos h)
      clear J
      have d0 : ∀ {H2 : HL} {s2 : RS}, RefAt B H2 wp M s2 ((p13, .row (entS sl[i].1 sl[i].2)) :: (p9, .row [.int .u64 l1, .int .u64 l2, .int .u64 l3]) :: H0) → Ld B H2 ⟨false, p13, 0⟩ 1 [.int .i64 sl[i].1.v.node] := fun h => h.ld (Ld.own Tk.head rfl)
      have d1 : ∀ {H2 : HL} {s2 : RS}, RefAt B H2 wp M s2 ((p13, .row (entS sl[i].1 sl[i].2)) :: (p9, .row [.int .u64 l1, .int .u64 l2, .int .u64 l3]) :: H0) → Ld B H2 ⟨false, p13, 1⟩ 1 [.str sl[i].1.v.id] := fun h => h.ld (Ld.own Tk.head rfl)
      have d2 : ∀ {H2 : HL} {s2 : RS}, RefAt B H2 wp M s2 ((p13, .row (entS sl[i].1 sl[i].2)) :: (p9, .row [.int .u64 l1, .int .u64 l2, .int .u64 l3]) :: H0) → Ld B H2 ⟨false, p13, 5⟩ 1 [.int .u64 sl[i].1.mke] := fun h => h.ld (Ld.own Tk.head rfl)
      have d3 : ∀ {H2 : HL} {s2 : RS}, RefAt B H2 wp M s2 ((p13, .row (entS sl[i].1 sl[i].2)) :: (p9, .row [.int .u64 l1, .int .u64 l2, .int .u64 l3]) :: H0) → Ld B H2 ⟨false, p13, 6⟩ 1 [.int .u64 sl[i].1.ix] := fun h => h.ld (Ld.own Tk.head rfl)
      have dw : ∀ {H2 : HL} {s2 : RS}, RefAt B H2 wp M s2 ((p13, .row (entS sl[i].1 sl[i].2)) :: (p9, .row [.int .u64 l1, .int .u64 l2, .int .u64 l3]) :: H0) → Ld B H2 ⟨false, p13, 0⟩ 7 (entS sl[i].1 sl[i].2) := fun h => h.ld (Ld.own Tk.head rfl)
      have dl : ∀ {H2 : HL} {s2 : RS}, RefAt B H2 wp M s2 ((p13, .row (entS sl[i].1 sl[i].2)) :: (p9, .row [.int .u64 l1, .int .u64 l2, .int .u64 l3]) :: H0) → Ld B H2 ⟨false, p9, 1⟩ 1 [.int .u64 l2] := fun h => h.ld (Ld.own (Tk.tail Tk.head) rfl)
      refine WC.cut2 (X := Unit) (fun _ => [(2, vs), (3, vc), (9, .ptr ⟨false, p9, 0⟩), (11, .ptr ⟨false, wp, 0⟩), (14, .int .i64 (.ofNat i)), (15, .ptr ⟨false, p13, 0⟩)]) (fun _ => (p13, .row (entS sl[i].1 sl[i].2)) :: H) (fun _ => 0 ≤ sl[i].1.v.node → strLess kp (keyS sl[i].1.v.node.toNat sl[i].1.v.id) = true) ?_ ?_
      · rcases hkp with ⟨hi0, hk0⟩ | ⟨j, hj, m, hi1, hm2, hk1⟩
        · repeat' (first
            | apply WC.seq | apply WC.skip | (apply WC.condF; rfl) | apply WC.dreg | apply WD.nil | (apply WD.gtF2; rfl; rfl; rfl; exact hi0) | (apply WD.pur; rfl; (intro _; rfl)) | (apply WD.skp; rfl) | (apply WD.skpL; rfl))
          exact ⟨(), Sub1.cons rfl (Sub1.cons rfl (Sub1.cons rfl (Sub1.cons rfl (Sub1.cons rfl (Sub1.cons rfl (Sub1.nil)))))), SubP.refl, fun _ => by rw [hk0]; exact keyS_pos⟩
        · have hcj : (sl.map fun p => entS p.1 p.2)[j]? = some (entS sl[j].1 sl[j].2) := by rw [List.getElem?_map, List.getElem?_eq_getElem hj]; rfl
          repeat' (first
            | apply WOps.nil | apply WC.seq | apply WC.reg | apply WC.skip | apply WC.ret | (apply WC.condT; rfl) | (apply WC.condF; rfl) | apply WC.dreg | apply WD.nil | (apply WD.gtT2; rfl; rfl; rfl; exact hi1) | (apply WD.pred2; rfl; rfl; rfl; exact hi1; omega) | (apply WD.ixSl; rfl; rfl; rfl; exact hsl2; exact hcj; intro ay hay) | (apply WD.load; rfl; (first | (apply at1; exact rd_ld rfl (Ld.part (hay _ hsl2) 0 1 (by omega)) rfl; rfl) | (apply at2; exact rd_ld rfl (Ld.part (hay _ hsl2) 0 1 (by omega)) rfl; repeat' (first | exact same0 | (apply same1; exact rd_ld rfl (Ld.part (hay _ hsl2) 0 1 (by omega)) rfl; rfl) | (apply same2; exact rd_ld rfl (Ld.part (hay _ hsl2) 0 1 (by omega)) rfl))))) | (apply WD.load; rfl; (first | (apply at1; exact rd_ld rfl (Ld.part (hay _ hsl2) 1 1 (by omega)) rfl; rfl) | (apply at2; exact rd_ld rfl (Ld.part (hay _ hsl2) 1 1 (by omega)) rfl; repeat' (first | exact same0 | (apply same1; exact rd_ld rfl (Ld.part (hay _ hsl2) 1 1 (by omega)) rfl; rfl) | (apply same2; exact rd_ld rfl (Ld.part (hay _ hsl2) 1 1 (by omega)) rfl))))) | (apply WD.load; rfl; (first | (apply at1; exact rd_ld rfl (d0 hR) rfl; rfl) | (apply at2; exact rd_ld rfl (d0 hR) rfl; repeat' (first | exact same0 | (apply same1; exact rd_ld rfl (d0 hR) rfl; rfl) | (apply same2; exact rd_ld rfl (d0 hR) rfl))))) | (apply WD.load; rfl; (first | (apply at1; exact rd_ld rfl (d1 hR) rfl; rfl) | (apply at2; exact rd_ld rfl (d1 hR) rfl; repeat' (first | exact same0 | (apply same1; exact rd_ld rfl (d1 hR) rfl; rfl) | (apply same2; exact rd_ld rfl (d1 hR) rfl))))) | (apply WOps.purG; rfl; (intro _; rfl)) | (apply WD.cmp; rfl; rfl; rfl; rfl; intro _ _) | (apply WD.cmpT; rfl; rfl; rfl; rfl; intro _ _) | (apply WD.pur; rfl; (intro _; rfl)) | (apply WD.skp; rfl) | (apply WD.skpL; rfl) | (apply WC.condA; rfl; all_goals (intro hb; try subst hb)) | (apply WD.ask; rfl; all_goals (intro hb; first | subst hb | fail_if_success (cases hb))))
          all_goals first
            | (have q := ‹true = true ↔ cmpP BinOp.gtr sl[j].1.v.node sl[i].1.v.node›.1 rfl
               rw [hT (fun h => by
                 have h2 := h.1
                 have h3 := keyS_less.1 (hk1 ▸ h.2.1)
                 have q2 : sl[j].1.v.node > sl[i].1.v.node := q
                 rw [hm2] at q2
                 simp only [Int.ofNat_eq_natCast] at q2
                 rcases h3 with h3 | ⟨h3, _⟩ <;> omega)]
               exact ⟨trivial, [_], ⟨_, [], rfl, rfl, rfl⟩, H0, ⟨rfl, rfl⟩, bad hR⟩)
            | (have q := ‹true = true ↔ cmpP BinOp.eql sl[j].1.v.node sl[i].1.v.node›.1 rfl
               have q3 := ‹true = true ↔ cmpS BinOp.geq sl[j].1.v.id sl[i].1.v.id›.1 rfl
               rw [hT (fun h => by
                 have h2 := h.1
                 have h3 := keyS_less.1 (hk1 ▸ h.2.1)
                 have q2 : sl[j].1.v.node = sl[i].1.v.node := q
                 rw [hm2] at q2
                 simp only [Int.ofNat_eq_natCast] at q2
                 rcases h3 with h3 | ⟨_, h3⟩
                 · omega
                 · exact q3 h3)]
               exact ⟨trivial, [_], ⟨_, [], rfl, rfl, rfl⟩, H0, ⟨rfl, rfl⟩, bad hR⟩)
            | (have q := ‹true = true ↔ cmpP BinOp.eql sl[j].1.v.node sl[i].1.v.node›.1 rfl
               have q3 := eq_of_ff ‹false = true ↔ cmpS BinOp.geq sl[j].1.v.id sl[i].1.v.id›
               refine ⟨(), Sub1.cons rfl (Sub1.cons rfl (Sub1.cons rfl (Sub1.cons rfl (Sub1.cons rfl (Sub1.cons rfl (Sub1.nil)))))), SubP.refl, fun hge0 => ?_⟩
               rw [hk1]
               refine keyS_less.2 (.inr ⟨?_, Classical.not_not.1 q3⟩)
               have q2 : sl[j].1.v.node = sl[i].1.v.node := q
               rw [hm2] at q2
               simp only [Int.ofNat_eq_natCast] at q2
               omega)
            | (have q := eq_of_ff ‹false = true ↔ cmpP BinOp.gtr sl[j].1.v.node sl[i].1.v.node›
               have q3 := eq_of_ff ‹false = true ↔ cmpP BinOp.eql sl[j].1.v.node sl[i].1.v.node›
               refine ⟨(), Sub1.cons rfl (Sub1.cons rfl (Sub1.cons rfl (Sub1.cons rfl (Sub1.cons rfl (Sub1.cons rfl (Sub1.nil)))))), SubP.refl, fun hge0 => ?_⟩
               rw [hk1]
               refine keyS_less.2 (.inl ?_)
               simp only [cmpP] at q q3
               rw [hm2] at q q3
               simp only [Int.ofNat_eq_natCast] at q q3
               omega)
      intro _ hord
      repeat' (first
        | apply WOps.nil | apply WC.seq | apply WC.reg | apply WC.skip | apply WC.ret | (apply WC.condT; rfl) | (apply WOps.ldG; rfl; rfl; (first | exact ld0 rfl | exact ld1 rfl | exact ld2 rfl); rfl) | (apply WOps.ldG; rfl; rfl; exact d3 r1; rfl) | (apply WOps.ldG; rfl; rfl; exact dl hR; rfl) | (apply WOps.ldG; rfl; rfl; exact dw r1; rfl) | (apply WOps.clA; rfl; rfl; exact serviceR_ok (jm := sl[i].1.mke) (ji := sl[i].1.ix) ok ks hR hos; rintro _ H2 ⟨rfl, r1⟩) | (apply WOps.clA; rfl; rfl; exact serviceR_ok (jm := sl[i].1.mke) (ji := sl[i].1.ix) (rs_service ok) (ks_service ks) r1 hos; rintro _ H3 ⟨rfl, r2⟩) | (apply WOps.addN; rfl; rfl; rfl; omega) | (apply WOps.cmp; rfl; rfl; rfl; rfl; intro _ _) | (apply WOps.purG; rfl; (intro _; rfl)) | (apply WOps.skp; rfl) | (apply WOps.ask; rfl; all_goals (intro hb; first | subst hb | fail_if_success (cases hb))) | (apply WC.condA; rfl; all_goals (intro hb; try subst hb)))
      · have q := ‹true = true ↔ cmpP BinOp.gtr sl[i].1.mke sl[i].1.ix›.1 rfl
        rw [hT (fun h => by have h2 := h.2.2.1; have q2 : sl[i].1.mke > sl[i].1.ix := q; omega)]
        exact ⟨trivial, [_], ⟨_, [], rfl, rfl, rfl⟩, H0, ⟨rfl, rfl⟩, bad hR⟩
      · have q := ‹true = true ↔ cmpP BinOp.gtr sl[i].1.ix l2›.1 rfl
        rw [hT (fun h => by have h2 := h.2.2.2.1; have q2 : sl[i].1.ix > l2 := q; omega)]
        exact ⟨trivial, [_], ⟨_, [], rfl, rfl, rfl⟩, H0, ⟨rfl, rfl⟩, bad hR⟩
      · have q := ‹true = true ↔ cmpP BinOp.neq (Int.ofNat (serviceS M s sl[i].1.v sl[i].1.mke).2) _›.1 rfl
        rw [hT (fun h => q (congrArg Int.ofNat (h.2.2.2.2.1 : (serviceS M s sl[i].1.v sl[i].1.mke).2 = 0)))]
        exact ⟨trivial, [_], ⟨_, [], rfl, rfl, rfl⟩, H0, ⟨rfl, rfl⟩, bad r1⟩
      · have q := ‹true = true ↔ cmpP BinOp.neq (Int.ofNat (serviceS M (serviceS M s sl[i].1.v sl[i].1.mke).1 sl[i].1.v sl[i].1.ix).2) _›.1 rfl
        rw [hT (fun h => q (congrArg Int.ofNat (h.2.2.2.2.2 : (serviceS M (serviceS M s sl[i].1.v sl[i].1.mke).1 sl[i].1.v sl[i].1.ix).2 = 0)))]
        exact ⟨trivial, [_], ⟨_, [], rfl, rfl, rfl⟩, H0, ⟨rfl, rfl⟩, bad r2⟩
      · have q1 := eq_of_ff ‹false = true ↔ cmpP BinOp.gtr sl[i].1.mke sl[i].1.ix›
        have q2 := eq_of_ff ‹false = true ↔ cmpP BinOp.gtr sl[i].1.ix l2›
        have q3 : (serviceS M s sl[i].1.v sl[i].1.mke).2 = 0 := by
          have q := eq_of_ff ‹false = true ↔ cmpP BinOp.neq (Int.ofNat (serviceS M s sl[i].1.v sl[i].1.mke).2) _›
          simp only [cmpP, Classical.not_not, Int.ofNat_eq_natCast] at q; omega
        have q4 : (serviceS M (serviceS M s sl[i].1.v sl[i].1.mke).1 sl[i].1.v sl[i].1.ix).2 = 0 := by
          have q := eq_of_ff ‹false = true ↔ cmpP BinOp.neq (Int.ofNat (serviceS M (serviceS M s sl[i].1.v sl[i].1.mke).1 sl[i].1.v sl[i].1.ix).2) _›
          simp only [cmpP, Classical.not_not, Int.ofNat_eq_natCast] at q; omega
        simp only [cmpP] at q1 q2
        have hd := (serviceS_zero q3).1
        have hC := hG ⟨hd, hord hd.1, by omega, by omega, q3, q4⟩
        obtain ⟨H4, h4, s4⟩ := r2.less (R1 := (p9, .row [.int .u64 l1, .int .u64 l2, .int .u64 l3]) :: H0) (SubP.of (List.sublist_cons_self _ _))
        refine WL.le (Sub1.cons rfl (Sub1.cons rfl (Sub1.cons rfl (Sub1.cons rfl (Sub1.cons rfl (Sub1.nil)))))) (WL.lessP s4 (ih _ (by omega) (i + 1) H4 (serviceS M (serviceS M s sl[i].1.v sl[i].1.mke).1 sl[i].1.v sl[i].1.ix).1 (keyS sl[i].1.v.node.toNat sl[i].1.v.id) (rs_service (rs_service ok)) (ks_service (ks_service ks)) h4 hC (.inr ⟨i, hlt, sl[i].1.v.node.toNat, rfl, ?_, rfl⟩) (by omega) rfl))
        simp only [Int.ofNat_eq_natCast]; omega
    · have hge : ¬ i < sl.length := by
        have h0 := eq_of_ff ‹false = true ↔ cmpP BinOp.lss (Int.ofNat i) (Int.ofNat sl.length)›
        simp [cmpP] at h0; omega
      have e : (sl.map (·.1)).drop i = [] := List.drop_eq_nil_of_le (by rw [List.length_map]; omega)
      exact ⟨(H, s), Sub1.cons rfl (Sub1.cons rfl (Sub1.cons rfl (Sub1.nil))), SubP.refl, ok, ks, hX, by rw [J, e]; rfl⟩
  rintro ⟨HS, sS⟩ ⟨okS, ksS, XS, JS⟩
  simp only at okS ksS XS JS
  refine WC.cut2 (X := HL × RS) (fun _ => [(9, .ptr ⟨false, p9, 0⟩), (11, .ptr ⟨false, wp, 0⟩)]) (fun x => x.1) (fun x => RsOk M x.2 ∧ KsOk x.2 ∧ RefAt B x.1 wp M x.2 ((p9, .row [.int .u64 l1, .int .u64 l2, .int .u64 l3]) :: H0) ∧ (((loadN M l1 nl rs0 []).bind fun s => loadS M l2 (sl.map (·.1)) s []).bind fun s => loadC M l3 cl s []) = some x.2) ?_ ?_
  · obtain ⟨i, hi⟩ : ∃ i : Nat, i = 0 := ⟨0, rfl⟩
    obtain ⟨H, s, kp, hH, ok, ks, hX, J, hkp⟩ : ∃ (H : HL) (s : RS) (kp : List Nat), HS = H ∧ RsOk M s ∧ KsOk s ∧ RefAt B H wp M s ((p9, .row [.int .u64 l1, .int .u64 l2, .int .u64 l3]) :: H0) ∧ (((loadN M l1 nl rs0 []).bind fun s => loadS M l2 (sl.map (·.1)) s []).bind fun s => loadC M l3 cl s []) = loadC M l3 (cl.drop i) s kp ∧ ((i = 0 ∧ kp = []) ∨ ∃ (j : Nat) (hj : j < cl.length) (m : Nat), i = j + 1 ∧ cl[j].v.node = .ofNat m ∧ kp = keyS m cl[j].v.id) := ⟨HS, sS, [], rfl, okS, ksS, XS, by subst hi; rw [JS]; rfl, .inl ⟨hi, rfl⟩⟩
    repeat' (first
      | apply WOps.nil | apply WC.seq | apply WC.reg | apply WC.block | (apply WOps.purG; rfl; (intro _; rfl)))
    refine WC.loop ?_
    refine WL.heq (H' := H) hH ?_
    refine WL.le (t' := [(3, vc), (9, .ptr ⟨false, p9, 0⟩), (11, .ptr ⟨false, wp, 0⟩), (16, .int .i64 (.ofNat i))]) (by subst hi; exact Sub1.cons rfl (Sub1.cons rfl (Sub1.cons rfl (Sub1.cons rfl (Sub1.nil))))) ?_
    have hle : i ≤ cl.length := by omega
    clear hi hH
    induction hm : cl.length - i using Nat.strongRecOn generalizing i H s kp with | _ q ih => ?_
    have hsl := hX.sl (SlIs.cons hc)
    apply WL.step
    refine WC.seq (WC.seq (WC.reg ?_))
    repeat' (first
      | apply WOps.nil | apply WC.skip | apply WC.exit | (apply WOps.lenS; rfl; rfl; exact hsl) | (apply WOps.cmp; rfl; rfl; rfl; rfl; intro _ _) | (apply WOps.purG; rfl; (intro _; rfl)) | (apply WC.condA; rfl; all_goals (intro hb; try subst hb)))
    all_goals rw [List.length_map] at *
    · have hlt : i < cl.length := by
        have h0 := ‹true = true ↔ cmpP BinOp.lss (Int.ofNat i) (Int.ofNat cl.length)›.1 rfl
        simp [cmpP] at h0; omega
      have hcm : (cl.map entC)[i]? = some (entC cl[i]) := by rw [List.getElem?_map, List.getElem?_eq_getElem hlt]; rfl
      have hdr : cl.drop i = cl[i] :: cl.drop (i + 1) := List.drop_eq_getElem_cons hlt
      rw [hdr] at J
      have hoc := oc _ (List.getElem_mem hlt)
      refine WC.seq (WC.block (WC.seq (WC.reg ?_)))
      repeat' (first
        | apply WOps.nil | (apply WOps.st; rfl; rfl; (first | exact tk0 | exact tk1 | exact tk2); rfl; (first | rfl | ((repeat' (first | exact ac0 | apply ac1)) <;> (first | rfl | assumption))); rfl) | (apply WOps.alc; rfl; intro _) | (apply WOps.ixSl; rfl; rfl; rfl; exact hsl; exact hcm; intro ax hax) | (apply WOps.ldG; rfl; rfl; exact hax; rfl) | (apply WOps.purG; rfl; (intro _; rfl)))
      rename_i p13
      have hR : RefAt B ((p13, .row (entC cl[i])) :: H) wp M s ((p13, .row (entC cl[i])) :: (p9, .row [.int .u64 l1, .int .u64 l2, .int .u64 l3]) :: H0) := hX.cons
      have hsl2 : SlIs B ((p13, .row (entC cl[i])) :: H) vc 7 (cl.map entC) := SlIs.cons hsl
      have bad : ∀ {H2 : HL} {s2 : RS}, RefAt B H2 wp M s2 ((p13, .row (entC cl[i])) :: (p9, .row [.int .u64 l1, .int .u64 l2, .int .u64 l3]) :: H0) → SubP H0 H2 := fun h => SubP.trans (SubP.of ((List.sublist_cons_self _ _).trans (List.sublist_cons_self _ _))) h.sub
      have hT : ¬ ((0 ≤ cl[i].v.node ∧ cl[i].v.node < 8) ∧ oneP (stC M cl[i]) s l3 kp (keyS cl[i].v.node.toNat cl[i].v.id) cl[i].mke cl[i].ix) → (((loadN M l1 nl rs0 []).bind fun s => loadS M l2 (sl.map (·.1)) s []).bind fun s => loadC M l3 cl s []) = none := fun h => J.trans (if_neg h)
      have hG : ((0 ≤ cl[i].v.node ∧ cl[i].v.node < 8) ∧ oneP (stC M cl[i]) s l3 kp (keyS cl[i].v.node.toNat cl[i].v.id) cl[i].mke cl[i].ix) → (((loadN M l1 nl rs0 []).bind fun s => loadS M l2 (sl.map (·.1)) s []).bind fun s => loadC M l3 cl s []) = loadC M l3 (cl.drop (i + 1)) (stC M cl[i] (stC M cl[i] s cl[i].mke).1 cl[i].ix).1 (keyS cl[i].v.node.toNat cl[i].v.id) := fun h => J.trans (if_pos h)
      clear J
      have d0 : ∀ {H2 : HL} {s2 : RS}, RefAt B H2 wp M s2 ((p13, .row (entC cl[i])) :: (p9, .row [.int .u64 l1, .int .u64 l2, .int .u64 l3]) :: H0) → Ld B H2 ⟨false, p13, 0⟩ 1 [.int .i64 cl[i].v.node] := fun h => h.ld (Ld.own Tk.head rfl)
      have d1 : ∀ {H2 : HL} {s2 : RS}, RefAt B H2 wp M s2 ((p13, .row (entC cl[i])) :: (p9, .row [.int .u64 l1, .int .u64 l2, .int .u64 l3]) :: H0) → Ld B H2 ⟨false, p13, 1⟩ 1 [.str cl[i].v.id] := fun h => h.ld (Ld.own Tk.head rfl)
      have d2 : ∀ {H2 : HL} {s2 : RS}, RefAt B H2 wp M s2 ((p13, .row (entC cl[i])) :: (p9, .row [.int .u64 l1, .int .u64 l2, .int .u64 l3]) :: H0) → Ld B H2 ⟨false, p13, 5⟩ 1 [.int .u64 cl[i].mke] := fun h => h.ld (Ld.own Tk.head rfl)
      have d3 : ∀ {H2 : HL} {s2 : RS}, RefAt B H2 wp M s2 ((p13, .row (entC cl[i])) :: (p9, .row [.int .u64 l1, .int .u64 l2, .int .u64 l3]) :: H0) → Ld B H2 ⟨false, p13, 6⟩ 1 [.int .u64 cl[i].ix] := fun h => h.ld (Ld.own Tk.head rfl)
      have dw : ∀ {H2 : HL} {s2 : RS}, RefAt B H2 wp M s2 ((p13, .row (entC cl[i])) :: (p9, .row [.int .u64 l1, .int .u64 l2, .int .u64 l3]) :: H0) → Ld B H2 ⟨false, p13, 0⟩ 7 (entC cl[i]) := fun h => h.ld (Ld.own Tk.head rfl)
      have dl : ∀ {H2 : HL} {s2 : RS}, RefAt B H2 wp M s2 ((p13, .row (entC cl[i])) :: (p9, .row [.int .u64 l1, .int .u64 l2, .int .u64 l3]) :: H0) → Ld B H2 ⟨false, p9, 2⟩ 1 [.int .u64 l3] := fun h => h.ld (Ld.own (Tk.tail Tk.head) rfl)
      refine WC.cut2 (X := Unit) (fun _ => [(3, vc), (9, .ptr ⟨false, p9, 0⟩), (11, .ptr ⟨false, wp, 0⟩), (16, .int .i64 (.ofNat i)), (17, .ptr ⟨false, p13, 0⟩)]) (fun _ => (p13, .row (entC cl[i])) :: H) (fun _ => 0 ≤ cl[i].v.node → strLess kp (keyS cl[i].v.node.toNat cl[i].v.id) = true) ?_ ?_
      · rcases hkp with ⟨hi0, hk0⟩ | ⟨j, hj, m, hi1, hm2, hk1⟩
        · repeat' (first
            | apply WC.seq | apply WC.skip | (apply WC.condF; rfl) | apply WC.dreg | apply WD.nil | (apply WD.gtF2; rfl; rfl; rfl; exact hi0) | (apply WD.pur; rfl; (intro _; rfl)) | (apply WD.skp; rfl) | (apply WD.skpL; rfl))
          exact ⟨(), Sub1.cons rfl (Sub1.cons rfl (Sub1.cons rfl (Sub1.cons rfl (Sub1.cons rfl (Sub1.nil))))), SubP.refl, fun _ => by rw [hk0]; exact keyS_pos⟩
        · have hcj : (cl.map entC)[j]? = some (entC cl[j]) := by rw [List.getElem?_map, List.getElem?_eq_getElem hj]; rfl
          repeat' (first
            | apply WOps.nil | apply WC.seq | apply WC.reg | apply WC.skip | apply WC.ret | (apply WC.condT; rfl) | (apply WC.condF; rfl) | apply WC.dreg | apply WD.nil | (apply WD.gtT2; rfl; rfl; rfl; exact hi1) | (apply WD.pred2; rfl; rfl; rfl; exact hi1; omega) | (apply WD.ixSl; rfl; rfl; rfl; exact hsl2; exact hcj; intro ay hay) | (apply WD.load; rfl; (first | (apply at1; exact rd_ld rfl (Ld.part (hay _ hsl2) 0 1 (by omega)) rfl; rfl) | (apply at2; exact rd_ld rfl (Ld.part (hay _ hsl2) 0 1 (by omega)) rfl; repeat' (first | exact same0 | (apply same1; exact rd_ld rfl (Ld.part (hay _ hsl2) 0 1 (by omega)) rfl; rfl) | (apply same2; exact rd_ld rfl (Ld.part (hay _ hsl2) 0 1 (by omega)) rfl))))) | (apply WD.load; rfl; (first | (apply at1; exact rd_ld rfl (Ld.part (hay _ hsl2) 1 1 (by omega)) rfl; rfl) | (apply at2; exact rd_ld rfl (Ld.part (hay _ hsl2) 1 1 (by omega)) rfl; repeat' (first | exact same0 | (apply same1; exact rd_ld rfl (Ld.part (hay _ hsl2) 1 1 (by omega)) rfl; rfl) | (apply same2; exact rd_ld rfl (Ld.part (hay _ hsl2) 1 1 (by omega)) rfl))))) | (apply WD.load; rfl; (first | (apply at1; exact rd_ld rfl (d0 hR) rfl; rfl) | (apply at2; exact rd_ld rfl (d0 hR) rfl; repeat' (first | exact same0 | (apply same1; exact rd_ld rfl (d0 hR) rfl; rfl) | (apply same2; exact rd_ld rfl (d0 hR) rfl))))) | (apply WD.load; rfl; (first | (apply at1; exact rd_ld rfl (d1 hR) rfl; rfl) | (apply at2; exact rd_ld rfl (d1 hR) rfl; repeat' (first | exact same0 | (apply same1; exact rd_ld rfl (d1 hR) rfl; rfl) | (apply same2; exact rd_ld rfl (d1 hR) rfl))))) | (apply WOps.purG; rfl; (intro _; rfl)) | (apply WD.cmp; rfl; rfl; rfl; rfl; intro _ _) | (apply WD.cmpT; rfl; rfl; rfl; rfl; intro _ _) | (apply WD.pur; rfl; (intro _; rfl)) | (apply WD.skp; rfl) | (apply WD.skpL; rfl) | (apply WC.condA; rfl; all_goals (intro hb; try subst hb)) | (apply WD.ask; rfl; all_goals (intro hb; first | subst hb | fail_if_success (cases hb))))
          all_goals first
            | (have q := ‹true = true ↔ cmpP BinOp.gtr cl[j].v.node cl[i].v.node›.1 rfl
               rw [hT (fun h => by
                 have h2 := h.1
                 have h3 := keyS_less.1 (hk1 ▸ h.2.1)
                 have q2 : cl[j].v.node > cl[i].v.node := q
                 rw [hm2] at q2
                 simp only [Int.ofNat_eq_natCast] at q2
                 rcases h3 with h3 | ⟨h3, _⟩ <;> omega)]
               exact ⟨trivial, [_], ⟨_, [], rfl, rfl, rfl⟩, H0, ⟨rfl, rfl⟩, bad hR⟩)
            | (have q := ‹true = true ↔ cmpP BinOp.eql cl[j].v.node cl[i].v.node›.1 rfl
               have q3 := ‹true = true ↔ cmpS BinOp.geq cl[j].v.id cl[i].v.id›.1 rfl
               rw [hT (fun h => by
                 have h2 := h.1
                 have h3 := keyS_less.1 (hk1 ▸ h.2.1)
                 have q2 : cl[j].v.node = cl[i].v.node := q
                 rw [hm2] at q2
                 simp only [Int.ofNat_eq_natCast] at q2
                 rcases h3 with h3 | ⟨_, h3⟩
                 · omega
                 · exact q3 h3)]
               exact ⟨trivial, [_], ⟨_, [], rfl, rfl, rfl⟩, H0, ⟨rfl, rfl⟩, bad hR⟩)
            | (have q := ‹true = true ↔ cmpP BinOp.eql cl[j].v.node cl[i].v.node›.1 rfl
               have q3 := eq_of_ff ‹false = true ↔ cmpS BinOp.geq cl[j].v.id cl[i].v.id›
               refine ⟨(), Sub1.cons rfl (Sub1.cons rfl (Sub1.cons rfl (Sub1.cons rfl (Sub1.cons rfl (Sub1.nil))))), SubP.refl, fun hge0 => ?_⟩
               rw [hk1]
               refine keyS_less.2 (.inr ⟨?_, Classical.not_not.1 q3⟩)
               have q2 : cl[j].v.node = cl[i].v.node := q
               rw [hm2] at q2
               simp only [Int.ofNat_eq_natCast] at q2
               omega)
            | (have q := eq_of_ff ‹false = true ↔ cmpP BinOp.gtr cl[j].v.node cl[i].v.node›
               have q3 := eq_of_ff ‹false = true ↔ cmpP BinOp.eql cl[j].v.node cl[i].v.node›
               refine ⟨(), Sub1.cons rfl (Sub1.cons rfl (Sub1.cons rfl (Sub1.cons rfl (Sub1.cons rfl (Sub1.nil))))), SubP.refl, fun hge0 => ?_⟩
               rw [hk1]
               refine keyS_less.2 (.inl ?_)
               simp only [cmpP] at q q3
               rw [hm2] at q q3
               simp only [Int.ofNat_eq_natCast] at q q3
               omega)
      intro _ hord
      repeat' (first
        | apply WOps.nil | apply WC.seq | apply WC.reg | apply WC.skip | apply WC.ret | (apply WC.condT; rfl) | (apply WOps.ldG; rfl; rfl; (first | exact ld0 rfl | exact ld1 rfl | exact ld2 rfl); rfl) | (apply WOps.ldG; rfl; rfl; exact d3 r1; rfl) | (apply WOps.ldG; rfl; rfl; exact dl hR; rfl) | (apply WOps.ldG; rfl; rfl; exact dw r1; rfl) | (apply WOps.clA; rfl; rfl; exact checkR_ok (jm := cl[i].mke) (ji := cl[i].ix) ok ks hR hoc; rintro _ H2 ⟨rfl, r1⟩) | (apply WOps.clA; rfl; rfl; exact checkR_ok (jm := cl[i].mke) (ji := cl[i].ix) (rs_check ok) (ks_check ks) r1 hoc; rintro _ H3 ⟨rfl, r2⟩) | (apply WOps.addN; rfl; rfl; rfl; omega) | (apply WOps.cmp; rfl; rfl; rfl; rfl; intro _ _) | (apply WOps.purG; rfl; (intro _; rfl)) | (apply WOps.skp; rfl) | (apply WOps.ask; rfl; all_goals (intro hb; first | subst hb | fail_if_success (cases hb))) | (apply WC.condA; rfl; all_goals (intro hb; try subst hb)))
      · have q := ‹true = true ↔ cmpP BinOp.gtr cl[i].mke cl[i].ix›.1 rfl
        rw [hT (fun h => by have h2 := h.2.2.1; have q2 : cl[i].mke > cl[i].ix := q; omega)]
        exact ⟨trivial, [_], ⟨_, [], rfl, rfl, rfl⟩, H0, ⟨rfl, rfl⟩, bad hR⟩
      · have q := ‹true = true ↔ cmpP BinOp.gtr cl[i].ix l3›.1 rfl
        rw [hT (fun h => by have h2 := h.2.2.2.1; have q2 : cl[i].ix > l3 := q; omega)]
        exact ⟨trivial, [_], ⟨_, [], rfl, rfl, rfl⟩, H0, ⟨rfl, rfl⟩, bad hR⟩
      · have q := ‹true = true ↔ cmpP BinOp.neq (Int.ofNat (checkS M s cl[i].v cl[i].mke).2) _›.1 rfl
        rw [hT (fun h => q (congrArg Int.ofNat (h.2.2.2.2.1 : (checkS M s cl[i].v cl[i].mke).2 = 0)))]
        exact ⟨trivial, [_], ⟨_, [], rfl, rfl, rfl⟩, H0, ⟨rfl, rfl⟩, bad r1⟩
      · have q := ‹true = true ↔ cmpP BinOp.neq (Int.ofNat (checkS M (checkS M s cl[i].v cl[i].mke).1 cl[i].v cl[i].ix).2) _›.1 rfl
        rw [hT (fun h => q (congrArg Int.ofNat (h.2.2.2.2.2 : (checkS M (checkS M s cl[i].v cl[i].mke).1 cl[i].v cl[i].ix).2 = 0)))]
        exact ⟨trivial, [_], ⟨_, [], rfl, rfl, rfl⟩, H0, ⟨rfl, rfl⟩, bad r2⟩
      · have q1 := eq_of_ff ‹false = true ↔ cmpP BinOp.gtr cl[i].mke cl[i].ix›
        have q2 := eq_of_ff ‹false = true ↔ cmpP BinOp.gtr cl[i].ix l3›
        have q3 : (checkS M s cl[i].v cl[i].mke).2 = 0 := by
          have q := eq_of_ff ‹false = true ↔ cmpP BinOp.neq (Int.ofNat (checkS M s cl[i].v cl[i].mke).2) _›
          simp only [cmpP, Classical.not_not, Int.ofNat_eq_natCast] at q; omega
        have q4 : (checkS M (checkS M s cl[i].v cl[i].mke).1 cl[i].v cl[i].ix).2 = 0 := by
          have q := eq_of_ff ‹false = true ↔ cmpP BinOp.neq (Int.ofNat (checkS M (checkS M s cl[i].v cl[i].mke).1 cl[i].v cl[i].ix).2) _›
          simp only [cmpP, Classical.not_not, Int.ofNat_eq_natCast] at q; omega
        simp only [cmpP] at q1 q2
        have hd := (checkS_zero q3).1
        have hC := hG ⟨hd, hord hd.1, by omega, by omega, q3, q4⟩
        obtain ⟨H4, h4, s4⟩ := r2.less (R1 := (p9, .row [.int .u64 l1, .int .u64 l2, .int .u64 l3]) :: H0) (SubP.of (List.sublist_cons_self _ _))
        refine WL.le (Sub1.cons rfl (Sub1.cons rfl (Sub1.cons rfl (Sub1.cons rfl (Sub1.nil))))) (WL.lessP s4 (ih _ (by omega) (i + 1) H4 (checkS M (checkS M s cl[i].v cl[i].mke).1 cl[i].v cl[i].ix).1 (keyS cl[i].v.node.toNat cl[i].v.id) (rs_check (rs_check ok)) (ks_check (ks_check ks)) h4 hC (.inr ⟨i, hlt, cl[i].v.node.toNat, rfl, ?_, rfl⟩) (by omega) rfl))
        simp only [Int.ofNat_eq_natCast]; omega
    · have hge : ¬ i < cl.length := by
        have h0 := eq_of_ff ‹false = true ↔ cmpP BinOp.lss (Int.ofNat i) (Int.ofNat cl.length)›
        simp [cmpP] at h0; omega
      have e : cl.drop i = [] := List.drop_eq_nil_of_le (by omega)
      exact ⟨(H, s), Sub1.cons rfl (Sub1.cons rfl (Sub1.nil)), SubP.refl, ok, ks, hX, by rw [J, e]; rfl⟩
  rintro ⟨HC, sC⟩ ⟨okC, ksC, XC, JC⟩
  simp only at okC ksC XC JC
  rw [JC]
  obtain ⟨v1, v2, v3, R', tk, c1, c2, c3, back⟩ := XC.last
  have dl := XC.ld (B := B) (Ld.own Tk.head (n := 3) (l := [.int .u64 l1, .int .u64 l2, .int .u64 l3]) (off := 0) rfl)
  repeat' (first
    | apply WOps.nil | apply WC.seq | apply WC.reg | apply WC.ret | (apply WOps.ldG; rfl; rfl; exact dl; rfl) | (apply WOps.st; rfl; rfl; exact tk; rfl; rfl; rfl) | (apply WOps.purG; rfl; (intro _; rfl)))
  obtain ⟨H4, h4, s4⟩ := (back l1 l2 l3).less (R1 := H0) (SubP.of (List.sublist_cons_self _ _))
  exact ⟨trivial, [_], ⟨_, [], rfl, rfl, rfl⟩, H4, ⟨wp, rfl, okC, h4⟩, s4⟩
end Go.Proofs.Ytgpnpcahcegadaa.RO
