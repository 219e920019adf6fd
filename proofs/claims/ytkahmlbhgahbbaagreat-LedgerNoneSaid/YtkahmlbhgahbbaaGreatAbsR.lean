/- The relation between the evaluator's values and heap and the model's values and world. -/
import Derived.Test.YtkahmlbhgahbbaaGreatAbsC
import Derived.Laws.Sem
import Derived.Laws.World
set_option linter.unusedSimpArgs false
set_option linter.unusedVariables false
set_option linter.unusedSectionVars false
set_option linter.constructorNameAsVariable false
namespace Go.Proofs.YtkahmlbhgahbbaaGreat.Abs

/-! ### Maps -/
theorem beq_f {a b : Nat} (h : Nat.beq a b = false) : a ≠ b := by
  intro e
  subst e
  simp at h

namespace Tr
variable {α : Type}
theorem get_single : ∀ (f k : Nat) (a : α) (j : Nat), k < f → (single f k a).get j = if j = k then some a else none := by
  intro f
  induction f with
  | zero => intro k a j h; omega
  | succ f ih =>
    intro k a j h
    cases k with
    | zero => cases j <;> simp [single, get] <;> (split <;> rfl)
    | succ k =>
      have h1 : k / 2 < f := by omega
      simp only [single]
      cases hk : Nat.beq (k % 2) 0 with
      | true =>
        have hk' : k % 2 = 0 := by simpa using hk
        simp only
        cases j with
        | zero => simp [get]
        | succ j =>
          simp only [get]
          cases hj : Nat.beq (j % 2) 0 with
          | true =>
            have hj' : j % 2 = 0 := by simpa using hj
            simp only [ih _ _ _ h1]
            by_cases e : j / 2 = k / 2
            · rw [if_pos e, if_pos (by omega)]
            · rw [if_neg e, if_neg (by omega)]
          | false =>
            have hj' : j % 2 ≠ 0 := beq_f hj
            simp only
            rw [if_neg (by omega)]
      | false =>
        have hk' : k % 2 ≠ 0 := beq_f hk
        simp only
        cases j with
        | zero => simp [get]
        | succ j =>
          simp only [get]
          cases hj : Nat.beq (j % 2) 0 with
          | false =>
            have hj' : j % 2 ≠ 0 := beq_f hj
            simp only [ih _ _ _ h1]
            by_cases e : j / 2 = k / 2
            · rw [if_pos e, if_pos (by omega)]
            · rw [if_neg e, if_neg (by omega)]
          | true =>
            have hj' : j % 2 = 0 := by simpa using hj
            simp only [get]
            rw [if_neg (by omega)]

theorem nl_eq (v : Option α) (x r : Tr α) : nl v x r = .n v x r := by cases x <;> rfl
theorem nr_eq (v : Option α) (l x : Tr α) : nr v l x = .n v l x := by cases x <;> rfl

theorem get_set : ∀ (t : Tr α) (k : Nat) (a : α) (j : Nat), (t.set k a).get j = if j = k then some a else t.get j := by
  intro t
  induction t with
  | e => intro k a j; simp only [set, get_single _ _ _ _ (Nat.lt_succ_self k), get]
  | n v l r ihl ihr =>
    intro k a j
    cases k with
    | zero => cases j <;> simp [set, get]
    | succ k =>
      simp only [set]
      cases hk : Nat.beq (k % 2) 0 with
      | true =>
        have hk' : k % 2 = 0 := by simpa using hk
        simp only
        rw [nl_eq]
        cases j with
        | zero => simp [get]
        | succ j =>
          simp only [get]
          cases hj : Nat.beq (j % 2) 0 with
          | true =>
            have hj' : j % 2 = 0 := by simpa using hj
            simp only [ihl]
            by_cases e : j / 2 = k / 2
            · rw [if_pos e, if_pos (by omega)]
            · rw [if_neg e, if_neg (by omega)]
          | false =>
            have hj' : j % 2 ≠ 0 := beq_f hj
            simp only
            rw [if_neg (by omega)]
      | false =>
        have hk' : k % 2 ≠ 0 := beq_f hk
        simp only
        rw [nr_eq]
        cases j with
        | zero => simp [get]
        | succ j =>
          simp only [get]
          cases hj : Nat.beq (j % 2) 0 with
          | false =>
            have hj' : j % 2 ≠ 0 := beq_f hj
            simp only [ihr]
            by_cases e : j / 2 = k / 2
            · rw [if_pos e, if_pos (by omega)]
            · rw [if_neg e, if_neg (by omega)]
          | true =>
            have hj' : j % 2 = 0 := by simpa using hj
            simp only
            rw [if_neg (by omega)]

theorem get_set_same (t : Tr α) (k : Nat) (a : α) : (t.set k a).get k = some a := by rw [get_set, if_pos rfl]
theorem get_set_ne (t : Tr α) {k j : Nat} (a : α) (h : j ≠ k) : (t.set k a).get j = t.get j := by rw [get_set, if_neg h]
@[simp] theorem get_e (k : Nat) : (Tr.e : Tr α).get k = none := by cases k <;> rfl
end Tr

@[simp] theorem forceL_eq {α β : Type} (l : List α) (c : List α → β) : forceL l c = c l := by
  induction l generalizing c with
  | nil => rfl
  | cons a l ih => simp only [forceL, ih]
@[simp] theorem forceV_eq {β : Type} (v : AV) (c : AV → β) : forceV v c = c v := by
  unfold forceV
  split
  · split <;> (split <;> rfl)
  · split <;> rfl
  · simp
  · rfl

theorem takeN_some {α : Type} : ∀ {l : List α} {n : Nat} {r : List α}, takeN l n = some r → r.length = n ∧ (∀ j, j < n → r[j]? = l[j]?) ∧ n ≤ l.length ∧ r = l.take n := by
  intro l n
  induction n generalizing l with
  | zero => intro r h; cases l <;> simp [takeN] at h <;> subst h <;> simp
  | succ n ih =>
    intro r h
    cases l with
    | nil => simp [takeN] at h
    | cons x l =>
      simp only [takeN] at h
      cases hl : takeN l n with
      | none => simp [hl] at h
      | some t =>
        simp only [hl, Option.some.injEq] at h
        subst h
        obtain ⟨a, b, c, d⟩ := ih hl
        refine ⟨by simp [a], fun j hj => ?_, by simpa using c, by simp [d]⟩
        cases j with
        | zero => rfl
        | succ j => simpa using b j (by omega)

theorem putAt_some {α : Type} {cs : List α} {off : Nat} {vs r : List α} (h : putAt cs off vs = some r) :
    off + vs.length ≤ cs.length ∧ r = cs.take off ++ (vs ++ cs.drop (off + vs.length)) := by
  unfold putAt at h
  split at h
  · rename_i hb
    exact ⟨by simpa using hb, (Option.some.inj h).symm⟩
  · cases h

theorem putAt_get {α : Type} {cs : List α} {off : Nat} {vs r : List α} (h : putAt cs off vs = some r) (j : Nat) :
    r[j]? = if off ≤ j ∧ j < off + vs.length then vs[j - off]? else cs[j]? := by
  obtain ⟨hl, rfl⟩ := putAt_some h
  have hlen : (cs.take off).length = off := by simp; omega
  by_cases h1 : j < off
  · rw [if_neg (by omega), List.getElem?_append_left (by omega)]
    simp [List.getElem?_take, h1]
  · rw [List.getElem?_append_right (by omega), hlen]
    by_cases h2 : j < off + vs.length
    · rw [if_pos ⟨by omega, h2⟩, List.getElem?_append_left (by omega)]
    · rw [if_neg (by omega), List.getElem?_append_right (by omega), List.getElem?_drop]
      congr 1
      omega

theorem putAt_length {α : Type} {cs : List α} {off : Nat} {vs r : List α} (h : putAt cs off vs = some r) : r.length = cs.length := by
  obtain ⟨hl, rfl⟩ := putAt_some h
  simp
  omega

theorem allCell_iff (l : List AV) : allCell l = true ↔ ∀ v ∈ l, v.isCell = true := by
  induction l with
  | nil => simp [allCell]
  | cons a l ih => simp only [allCell]; cases h : a.isCell <;> simp [h, ih]

theorem mapO_some {α β : Type} {f : α → Option β} : ∀ {l : List α} {r : List β}, mapO f l = some r →
    r.length = l.length ∧ ∀ (i : Nat) (a : α), l[i]? = some a → ∃ b, r[i]? = some b ∧ f a = some b := by
  intro l
  induction l with
  | nil => intro r h; simp [mapO] at h; subst h; simp
  | cons a l ih =>
    intro r h
    simp only [mapO] at h
    cases hf : f a with
    | none => simp [hf] at h
    | some b =>
      cases hm : mapO f l with
      | none => simp [hf, hm] at h
      | some t =>
        simp only [hf, hm, Option.some.injEq] at h
        subst h
        obtain ⟨hl, hi⟩ := ih hm
        refine ⟨by simp [hl], fun i c hc => ?_⟩
        cases i with
        | zero => simp at hc; subst hc; exact ⟨b, rfl, hf⟩
        | succ i => simpa using hi i c (by simpa using hc)

theorem mapO_cons {α β : Type} {f : α → Option β} {a : α} {l : List α} {r : List β} (h : mapO f (a :: l) = some r) : ∃ b t, f a = some b ∧ mapO f l = some t ∧ r = b :: t := by
  simp only [mapO] at h
  cases hf : f a with
  | none => simp [hf] at h
  | some b =>
    cases hm : mapO f l with
    | none => simp [hf, hm] at h
    | some t => simp only [hf, hm, Option.some.injEq] at h; exact ⟨b, t, rfl, rfl, h.symm⟩

/-! ### The relation -/
structure Loc where
  b : Nat
  base : Nat
  tot : Nat

abbrev Ren := Nat → Option Loc

structure Sta where
  P : Program
  B : Nat → List AV
  ro : Nat → Addr
  tok : Nat → Value

def AddrR (S : Sta) (ρ : Ren) (a : AA) (x : Addr) : Prop :=
  match a.ro with
  | true => x = ⟨(S.ro a.id).block, (S.ro a.id).off + a.off, none⟩
  | false => ∃ l, ρ a.id = some l ∧ x = ⟨l.b, l.base + a.off, none⟩

def SlR (S : Sta) (ρ : Ren) (a : AA) (len esz : Nat) (x : Addr) (cap : Nat) : Prop :=
  (len = 0 ∧ cap = 0) ∨ (AddrR S ρ a x ∧ len ≤ cap ∧ (a.ro = false → ∀ l, ρ a.id = some l → l.base + a.off + cap * esz ≤ l.tot))

def FnR (ρ : Ren) (f : AFn) (x : Fn) : Prop :=
  match f with
  | .func n => x = .func n
  | .yield l => ∃ lo, ρ l = some lo ∧ x = .yield lo.b

mutual
def VR (S : Sta) (ρ : Ren) : AV → Value → Prop
  | .bool b, c => c = .bool b
  | .int k n, c => c = .int k n
  | .str s, c => ∃ b, c = .string b ∧ byteL b.data.toList = s
  | .ptr a, c => ∃ x, c = .pointer (some x) ∧ AddrR S ρ a x
  | .nilp, c => c = .pointer none
  | .sl a len esz, c => ∃ x cap, c = .slice (some x) len cap ∧ SlR S ρ a len esz x cap
  | .nilsl, c => c = .slice none 0 0
  | .map id, c => ∃ l, ρ id = some l ∧ c = .map (some l.b)
  | .nilmap, c => c = .map none
  | .fn f a b, c => ∃ fn x y, c = .func fn x y ∧ FnR ρ f fn ∧ VRs S ρ a x.toList ∧ VRs S ρ b y.toList
  | .nilfn, c => c = .nilFunc
  | .iface t v, c => ∃ x, c = .iface t x ∧ VR S ρ v x
  | .nilif, c => c = .nilIface
  | .agg cs, c => ∃ x, c = .agg x ∧ VRs S ρ cs x.toList
  | .tup vs, c => ∃ x, c = .tuple x ∧ VRs S ρ vs x.toList
  | .opq i, c => c = S.tok i ∧ (S.tok i).oneCell' = true
def VRs (S : Sta) (ρ : Ren) : List AV → List Value → Prop
  | [], [] => True
  | a :: as, c :: cs => VR S ρ a c ∧ VRs S ρ as cs
  | _, _ => False
end

/-- The renaming goes on. -/
def Sub (ρ ρ' : Ren) : Prop := ∀ id l, ρ id = some l → ρ' id = some l
theorem Sub.refl (ρ : Ren) : Sub ρ ρ := fun _ _ h => h
theorem Sub.trans {a b c : Ren} (h : Sub a b) (k : Sub b c) : Sub a c := fun id l x => k id l (h id l x)

theorem AddrR.mono {S : Sta} {ρ ρ' : Ren} (h : Sub ρ ρ') {a : AA} {x : Addr} (k : AddrR S ρ a x) : AddrR S ρ' a x := by
  unfold AddrR at *
  split
  · rename_i e; simpa [e] using k
  · rename_i e; simp only [e] at k; obtain ⟨l, h1, h2⟩ := k; exact ⟨l, h _ _ h1, h2⟩

theorem SlR.mono {S : Sta} {ρ ρ' : Ren} (h : Sub ρ ρ') {a : AA} {len esz : Nat} {x : Addr} {cap : Nat} (k : SlR S ρ a len esz x cap) : SlR S ρ' a len esz x cap := by
  rcases k with k | ⟨k1, k2, k3⟩
  · exact .inl k
  · refine .inr ⟨k1.mono h, k2, fun hr l hl => k3 hr l ?_⟩
    unfold AddrR at k1
    simp only [hr] at k1
    obtain ⟨l', h1, _⟩ := k1
    rw [h _ _ h1] at hl
    rw [← Option.some.inj hl]; exact h1

theorem FnR.mono {ρ ρ' : Ren} (h : Sub ρ ρ') {f : AFn} {x : Fn} (k : FnR ρ f x) : FnR ρ' f x := by
  cases f with
  | func n => exact k
  | yield l => obtain ⟨lo, h1, h2⟩ := k; exact ⟨lo, h _ _ h1, h2⟩

mutual
theorem VR.mono {S : Sta} {ρ ρ' : Ren} (h : Sub ρ ρ') : ∀ {v : AV} {c : Value}, VR S ρ v c → VR S ρ' v c
  | .bool _, _, k => k
  | .int _ _, _, k => k
  | .str _, _, k => k
  | .ptr _, _, ⟨x, h1, h2⟩ => ⟨x, h1, h2.mono h⟩
  | .nilp, _, k => k
  | .sl _ _ _, _, ⟨x, cap, h1, h2⟩ => ⟨x, cap, h1, h2.mono h⟩
  | .nilsl, _, k => k
  | .map _, _, ⟨l, h1, h2⟩ => ⟨l, h _ _ h1, h2⟩
  | .nilmap, _, k => k
  | .fn _ _ _, _, ⟨fn, x, y, h1, h2, h3, h4⟩ => ⟨fn, x, y, h1, h2.mono h, VRs.mono h h3, VRs.mono h h4⟩
  | .nilfn, _, k => k
  | .iface _ _, _, ⟨x, h1, h2⟩ => ⟨x, h1, VR.mono h h2⟩
  | .nilif, _, k => k
  | .agg _, _, ⟨x, h1, h2⟩ => ⟨x, h1, VRs.mono h h2⟩
  | .tup _, _, ⟨x, h1, h2⟩ => ⟨x, h1, VRs.mono h h2⟩
  | .opq _, _, k => k
theorem VRs.mono {S : Sta} {ρ ρ' : Ren} (h : Sub ρ ρ') : ∀ {vs : List AV} {cs : List Value}, VRs S ρ vs cs → VRs S ρ' vs cs
  | [], [], _ => trivial
  | _ :: _, _ :: _, ⟨h1, h2⟩ => ⟨VR.mono h h1, VRs.mono h h2⟩
end

theorem VRs.iff {S : Sta} {ρ : Ren} : ∀ {vs : List AV} {cs : List Value}, VRs S ρ vs cs ↔ vs.length = cs.length ∧ ∀ (i : Nat) (v : AV), vs[i]? = some v → ∃ c, cs[i]? = some c ∧ VR S ρ v c
  | [], [] => by simp [VRs]
  | [], _ :: _ => by simp [VRs]
  | _ :: _, [] => by simp [VRs]
  | a :: as, c :: cs => by
    simp only [VRs, VRs.iff (vs := as) (cs := cs), List.length_cons]
    constructor
    · rintro ⟨h1, h2, h3⟩
      refine ⟨by omega, fun i v hv => ?_⟩
      cases i with
      | zero => simp at hv; subst hv; exact ⟨c, rfl, h1⟩
      | succ i => simpa using h3 i v (by simpa using hv)
    · rintro ⟨h1, h2⟩
      refine ⟨?_, by omega, fun i v hv => ?_⟩
      · obtain ⟨c', hc, hv⟩ := h2 0 a rfl
        simp at hc; subst hc; exact hv
      · simpa using h2 (i + 1) v (by simpa using hv)

theorem VRs.length {S : Sta} {ρ : Ren} {vs : List AV} {cs : List Value} (h : VRs S ρ vs cs) : vs.length = cs.length := (VRs.iff.1 h).1
theorem VRs.get {S : Sta} {ρ : Ren} {vs : List AV} {cs : List Value} (h : VRs S ρ vs cs) {i : Nat} {v : AV} (hv : vs[i]? = some v) : ∃ c, cs[i]? = some c ∧ VR S ρ v c := (VRs.iff.1 h).2 i v hv
theorem VRs.append {S : Sta} {ρ : Ren} {a b : List AV} {c d : List Value} (h : VRs S ρ a c) (k : VRs S ρ b d) : VRs S ρ (a ++ b) (c ++ d) := by
  induction a generalizing c with
  | nil => cases c with
    | nil => exact k
    | cons _ _ => exact h.elim
  | cons x a ih => cases c with
    | nil => exact h.elim
    | cons y c => exact ⟨h.1, ih h.2⟩
theorem VRs.drop {S : Sta} {ρ : Ren} {a : List AV} {c : List Value} (n : Nat) (h : VRs S ρ a c) : VRs S ρ (a.drop n) (c.drop n) := by
  induction n generalizing a c with
  | zero => simpa using h
  | succ n ih => cases a <;> cases c <;> first | trivial | exact h.elim | exact ih h.2
theorem VRs.take {S : Sta} {ρ : Ren} {a : List AV} {c : List Value} (n : Nat) (h : VRs S ρ a c) : VRs S ρ (a.take n) (c.take n) := by
  induction n generalizing a c with
  | zero => simp [VRs]
  | succ n ih => cases a <;> cases c <;> first | trivial | exact h.elim | exact ⟨h.1, ih h.2⟩

theorem VR.cell {S : Sta} {ρ : Ren} {v : AV} {c : Value} (h : VR S ρ v c) (hv : v.isCell = true) : c.oneCell' = true := by
  cases v <;> simp [AV.isCell] at hv <;> simp only [VR] at h
  case str => obtain ⟨_, rfl, _⟩ := h; rfl
  case ptr => obtain ⟨_, rfl, _⟩ := h; rfl
  case sl => obtain ⟨_, _, rfl, _⟩ := h; rfl
  case map => obtain ⟨_, _, rfl⟩ := h; rfl
  case fn => obtain ⟨_, _, _, rfl, _⟩ := h; rfl
  case iface => obtain ⟨_, rfl, _⟩ := h; rfl
  case opq => obtain ⟨rfl, h⟩ := h; exact h
  all_goals (subst h; rfl)

theorem cells_one {c : Value} (h : c.oneCell' = true) : c.cells = #[c] := by cases c <;> first | rfl | simp [Value.oneCell'] at h

/-- A value's cells. -/
theorem VR.cells {S : Sta} {ρ : Ren} {v : AV} {c : Value} (h : VR S ρ v c) (hv : allCell v.cells = true) : VRs S ρ v.cells c.cells.toList := by
  cases hv' : v.isCell with
  | true =>
    have hc := h.cell hv'
    rw [cells_one hc]
    have : v.cells = [v] := by cases v <;> first | rfl | simp [AV.isCell] at hv'
    rw [this]
    exact ⟨h, trivial⟩
  | false =>
    cases v <;> simp [AV.isCell] at hv'
    case agg cs => obtain ⟨x, rfl, hx⟩ := h; exact hx
    case tup vs => simp [AV.cells, allCell, AV.isCell] at hv

/-- A frame's temporaries. -/
def EnvR (S : Sta) (ρ : Ren) (nt : Nat) (env : Tr AV) (tmps : Array Value) : Prop :=
  nt ≤ tmps.size ∧ ∀ t v, env.get t = some v → ∃ c, tmps[t]? = some c ∧ VR S ρ v c

theorem EnvR.mono {S : Sta} {ρ ρ' : Ren} (h : Sub ρ ρ') {nt : Nat} {env : Tr AV} {tmps : Array Value} (k : EnvR S ρ nt env tmps) : EnvR S ρ' nt env tmps :=
  ⟨k.1, fun t v hv => let ⟨c, h1, h2⟩ := k.2 t v hv; ⟨c, h1, h2.mono h⟩⟩

theorem EnvR.set {S : Sta} {ρ : Ren} {nt : Nat} {env : Tr AV} {tmps : Array Value} (k : EnvR S ρ nt env tmps) {d : Nat} (hd : d < nt) {v : AV} {c : Value} (hv : VR S ρ v c) :
    EnvR S ρ nt (env.set d v) (tmps.setIfInBounds d c) := by
  refine ⟨by simpa using k.1, fun t x hx => ?_⟩
  by_cases e : t = d
  · subst e
    rw [Tr.get_set_same] at hx
    cases hx
    exact ⟨c, by rw [Array.getElem?_setIfInBounds_self_of_lt (by have := k.1; omega)], hv⟩
  · rw [Tr.get_set_ne _ _ e] at hx
    obtain ⟨y, h1, h2⟩ := k.2 t x hx
    exact ⟨y, by rw [Array.getElem?_setIfInBounds_ne (fun h => e h.symm)]; exact h1, h2⟩

/-- The code of a jump. -/
def AJump.code : AJump → Code
  | .exit id => .exit id
  | .ret => .ret

def EntR (S : Sta) (ρ : Ren) (e : AV × AV × Nat) (c : MapEntry) : Prop := VR S ρ e.1 c.key ∧ VR S ρ e.2.1 c.val ∧ c.born = e.2.2

def EntRs (S : Sta) (ρ : Ren) : List (AV × AV × Nat) → List MapEntry → Prop
  | [], [] => True
  | e :: es, c :: cs => EntR S ρ e c ∧ EntRs S ρ es cs
  | _, _ => False

theorem EntRs.mono {S : Sta} {ρ ρ' : Ren} (h : Sub ρ ρ') : ∀ {es : List (AV × AV × Nat)} {cs : List MapEntry}, EntRs S ρ es cs → EntRs S ρ' es cs
  | [], [], _ => trivial
  | _ :: _, _ :: _, ⟨⟨h1, h2, h3⟩, h4⟩ => ⟨⟨h1.mono h, h2.mono h, h3⟩, h4.mono h⟩

/-- An object and its block. -/
def ObjR (S : Sta) (ρ : Ren) (o : AObj) (heap : Array Obj) (l : Loc) : Prop :=
  match o with
  | .row cs => ∃ c e fz, heap[l.b]? = some (.cells c e fz) ∧ c.size = l.tot ∧ l.base + cs.length ≤ l.tot ∧
      (∀ (j : Nat) (v : AV), cs[j]? = some v → v.isCell = true ∧ ∃ x, c[l.base + j]? = some x ∧ VR S ρ v x) ∧ (∀ i, i < l.tot → ¬ (fz.1 ≤ i ∧ i < fz.2))
  | .map es clock => ∃ ces : Array MapEntry, heap[l.b]? = some (.map ces clock) ∧ EntRs S ρ es ces.toList
  | .loop st pend env nt ps asg body d => ∃ L : Loop, heap[l.b]? = some (.loop L) ∧ L.state = st ∧ L.pending = pend.map AJump.code ∧ EnvR S ρ nt env L.tmps ∧ L.params.toList = ps ∧
      comp S.P nt L.assign = some asg ∧ comp S.P nt L.body = some body ∧ ∃ ld, ρ d = some ld ∧ L.defers = ld.b
  | .iter m since seen last => l.base = 0 ∧ ∃ mo, heap[l.b]? = some (.mapIter mo since seen.toArray last) ∧ ((m = none ∧ mo = none) ∨ ∃ id lm, m = some id ∧ ρ id = some lm ∧ mo = some lm.b)
  | .defd => heap[l.b]? = some (.deferred (some []))
  | .dead => True

def AObj.live : AObj → Bool
  | .dead => false
  | _ => true

theorem ObjR.mono {S : Sta} {ρ ρ' : Ren} (h : Sub ρ ρ') {o : AObj} {heap : Array Obj} {l : Loc} (k : ObjR S ρ o heap l) : ObjR S ρ' o heap l := by
  cases o with
  | row cs =>
    obtain ⟨c, e, fz, h1, h2, h3, h4, h5⟩ := k
    exact ⟨c, e, fz, h1, h2, h3, fun j v hv => let ⟨a, x, b1, b2⟩ := h4 j v hv; ⟨a, x, b1, b2.mono h⟩, h5⟩
  | map es clock => obtain ⟨ces, h1, h2⟩ := k; exact ⟨ces, h1, h2.mono h⟩
  | loop st pend env nt ps asg body d =>
    obtain ⟨L, h1, h2, h3, h4, h5, h6, h7, ld, h8, h9⟩ := k
    exact ⟨L, h1, h2, h3, h4.mono h, h5, h6, h7, ld, h _ _ h8, h9⟩
  | iter m since seen last =>
    obtain ⟨h0, mo, h1, h2⟩ := k
    refine ⟨h0, mo, h1, ?_⟩
    rcases h2 with h2 | ⟨id, lm, h3, h4, h5⟩
    · exact .inl h2
    · exact .inr ⟨id, lm, h3, h _ _ h4, h5⟩
  | defd => exact k
  | dead => trivial

theorem ObjR.heap {S : Sta} {ρ : Ren} {o : AObj} {heap heap' : Array Obj} {l : Loc} (k : ObjR S ρ o heap l) (h : heap'[l.b]? = heap[l.b]?) : ObjR S ρ o heap' l := by
  cases o <;> simp only [ObjR, h] at * <;> exact k

/-- The evaluator's heap and the world. -/
structure Rel (S : Sta) (w0 : World) (ρ : Ren) (h : AH) (w : World) : Prop where
  dom : ∀ id o, h.get id = some o → id < h.next
  obj : ∀ id o, h.get id = some o → o.live = true → ∃ l, ρ id = some l ∧ w0.heap.size ≤ l.b ∧ ObjR S ρ o w.heap l
  inj : ∀ i j oi oj li lj, h.get i = some oi → oi.live = true → h.get j = some oj → oj.live = true → ρ i = some li → ρ j = some lj → li.b = lj.b → i = j
  old : ∀ b, b < w0.heap.size → w.heap[b]? = w0.heap[b]?
  size : w0.heap.size ≤ w.heap.size
  os : w.os = w0.os
  output : w.output = w0.output

/-- Is a block one of the heap's? -/
def Owned (ρ : Ren) (h : AH) (b : Nat) : Prop := ∃ id o l, h.get id = some o ∧ o.live = true ∧ ρ id = some l ∧ l.b = b

theorem ObjR.block_lt {S : Sta} {ρ : Ren} {o : AObj} {heap : Array Obj} {l : Loc} (hl : o.live = true) (k : ObjR S ρ o heap l) : l.b < heap.size := by
  have : ∃ x, heap[l.b]? = some x := by
    cases o with
    | row cs => obtain ⟨c, e, fz, h1, _⟩ := k; exact ⟨_, h1⟩
    | map es clock => obtain ⟨ces, h1, _⟩ := k; exact ⟨_, h1⟩
    | loop st pend env nt ps asg body d => obtain ⟨L, h1, _⟩ := k; exact ⟨_, h1⟩
    | iter m since seen last => obtain ⟨_, mo, h1, _⟩ := k; exact ⟨_, h1⟩
    | defd => exact ⟨_, k⟩
    | dead => simp [AObj.live] at hl
  obtain ⟨x, hx⟩ := this
  exact (Array.getElem?_eq_some_iff.1 hx).1

theorem Rel.owned_lt {S : Sta} {w0 : World} {ρ : Ren} {h : AH} {w : World} (r : Rel S w0 ρ h w) {b : Nat} (ho : Owned ρ h b) : b < w.heap.size := by
  obtain ⟨id, o, l, h1, h2, h3, rfl⟩ := ho
  obtain ⟨l', h4, _, h5⟩ := r.obj id o h1 h2
  rw [h3] at h4; cases h4
  exact h5.block_lt h2

/-- What came of a part of a run. -/
structure Stp (S : Sta) (w0 : World) (ρ : Ren) (h : AH) (w : World) (ρ' : Ren) (h' : AH) (w' : World) : Prop where
  keep : ∀ id, (id < h.next ∨ h'.next ≤ id) → ρ' id = ρ id
  le : h.next ≤ h'.next
  rel : Rel S w0 ρ' h' w'
  frame : ∀ b, b < w.heap.size → ¬ Owned ρ h b → w'.heap[b]? = w.heap[b]?
  grow : w.heap.size ≤ w'.heap.size
  own : ∀ b, Owned ρ' h' b → Owned ρ h b ∨ w.heap.size ≤ b

/-- Names that are not taken yet. -/
def Free (ρ : Ren) (a b : Nat) : Prop := ∀ id, a ≤ id → id < b → ρ id = none

theorem Stp.sub {S : Sta} {w0 : World} {ρ : Ren} {h : AH} {w : World} {ρ' : Ren} {h' : AH} {w' : World} (s : Stp S w0 ρ h w ρ' h' w') (f : Free ρ h.next h'.next) : Sub ρ ρ' := by
  intro id l hl
  rw [s.keep id ?_]; exact hl
  rcases Nat.lt_or_ge id h.next with h1 | h1
  · exact .inl h1
  · rcases Nat.lt_or_ge id h'.next with h2 | h2
    · rw [f id h1 h2] at hl; cases hl
    · exact .inr h2

theorem Stp.refl {S : Sta} {w0 : World} {ρ : Ren} {h : AH} {w : World} (r : Rel S w0 ρ h w) : Stp S w0 ρ h w ρ h w :=
  ⟨fun _ _ => rfl, Nat.le_refl _, r, fun _ _ _ => rfl, Nat.le_refl _, fun _ ho => .inl ho⟩

theorem Stp.trans {S : Sta} {w0 : World} {ρ : Ren} {h : AH} {w : World} {ρ1 : Ren} {h1 : AH} {w1 : World} {ρ2 : Ren} {h2 : AH} {w2 : World}
    (a : Stp S w0 ρ h w ρ1 h1 w1) (b : Stp S w0 ρ1 h1 w1 ρ2 h2 w2) : Stp S w0 ρ h w ρ2 h2 w2 := by
  refine ⟨fun id hid => ?_, Nat.le_trans a.le b.le, b.rel, fun x hx hno => ?_, Nat.le_trans a.grow b.grow, fun x hx => ?_⟩
  · have l1 := a.le; have l2 := b.le
    rw [b.keep id (by omega), a.keep id (by omega)]
  · have hx1 := Nat.lt_of_lt_of_le hx a.grow
    rw [b.frame x hx1 (fun ho => ?_), a.frame x hx hno]
    rcases a.own x ho with h | h
    · exact hno h
    · omega
  · rcases b.own x hx with h | h
    · exact a.own x h
    · exact .inr (Nat.le_trans a.grow h)

/-- Only the heap, the os and the output are spoken of. -/
theorem Rel.same {S : Sta} {w0 : World} {ρ : Ren} {h : AH} {w w' : World} (r : Rel S w0 ρ h w) (e : w'.heap = w.heap) (eo : w'.os = w.os) (ep : w'.output = w.output) : Rel S w0 ρ h w' :=
  ⟨r.dom, fun id o h1 h2 => by rw [e]; exact r.obj id o h1 h2, r.inj, fun b hb => by rw [e]; exact r.old b hb, by rw [e]; exact r.size, eo.trans r.os, ep.trans r.output⟩

theorem Stp.same {S : Sta} {w0 : World} {ρ : Ren} {h : AH} {w w' : World} (r : Rel S w0 ρ h w) (e : w'.heap = w.heap) (eo : w'.os = w.os) (ep : w'.output = w.output) : Stp S w0 ρ h w ρ h w' :=
  ⟨fun _ _ => rfl, Nat.le_refl _, r.same e eo ep, fun b _ _ => by rw [e], by rw [e]; exact Nat.le_refl _, fun _ ho => .inl ho⟩

def Ren.put (ρ : Ren) (id : Nat) (l : Loc) : Ren := fun j => if j = id then some l else ρ j
theorem Ren.put_same (ρ : Ren) (id : Nat) (l : Loc) : (ρ.put id l) id = some l := by simp [Ren.put]
theorem Ren.put_ne (ρ : Ren) {id j : Nat} (l : Loc) (h : j ≠ id) : (ρ.put id l) j = ρ j := by simp [Ren.put, h]
theorem Ren.sub_put {ρ : Ren} {id : Nat} (l : Loc) (h : ρ id = none) : Sub ρ (ρ.put id l) := by
  intro j x hj
  by_cases e : j = id
  · subst e; rw [h] at hj; cases hj
  · rw [Ren.put_ne _ _ e]; exact hj

@[simp] theorem AH.get_new_same (h : AH) (o : AObj) : (h.new o).get h.next = some o := by simp [AH.new, AH.get, Tr.get_set_same]
theorem AH.get_new_ne (h : AH) (o : AObj) {id : Nat} (e : id ≠ h.next) : (h.new o).get id = h.get id := by simp [AH.new, AH.get, Tr.get_set_ne _ _ e]
@[simp] theorem AH.next_new (h : AH) (o : AObj) : (h.new o).next = h.next + 1 := rfl
@[simp] theorem AH.get_put_same (h : AH) (id : Nat) (o : AObj) : (h.put id o).get id = some o := by simp [AH.put, AH.get, Tr.get_set_same]
theorem AH.get_put_ne (h : AH) (o : AObj) {id j : Nat} (e : j ≠ id) : (h.put id o).get j = h.get j := by simp [AH.put, AH.get, Tr.get_set_ne _ _ e]
@[simp] theorem AH.next_put (h : AH) (id : Nat) (o : AObj) : (h.put id o).next = h.next := rfl

/-- A new object. -/
theorem Stp.new {S : Sta} {w0 : World} {ρ : Ren} {h : AH} {w w' : World} (r : Rel S w0 ρ h w) (o : AObj) (ob : Obj) (l : Loc) (hl : l.b = w.heap.size) (hf : ρ h.next = none)
    (hh : w'.heap = w.heap.push ob) (ho : w'.os = w.os) (hp : w'.output = w.output)
    (hr : ObjR S (ρ.put h.next l) o (w.heap.push ob) l) : Stp S w0 ρ h w (ρ.put h.next l) (h.new o) w' := by
  have hsub := Ren.sub_put l hf
  have keep : ∀ b, b < w.heap.size → w'.heap[b]? = w.heap[b]? := fun b hb => by rw [hh, Array.getElem?_push]; simp [Nat.ne_of_lt hb]
  have old_ne : ∀ {id x}, h.get id = some x → id ≠ h.next := fun hx => Nat.ne_of_lt (r.dom _ _ hx)
  refine ⟨fun id hid => Ren.put_ne _ _ (by simp at hid; omega), by simp, ⟨fun id x hx => ?_, fun id x hx hlv => ?_, ?_, fun b hb => ?_, ?_, ho.trans r.os, hp.trans r.output⟩, fun b hb _ => keep b hb, by rw [hh]; simp, ?_⟩
  · by_cases e : id = h.next
    · subst e; simp
    · rw [AH.get_new_ne _ _ e] at hx; have := r.dom _ _ hx; simp; omega
  · by_cases e : id = h.next
    · subst e
      rw [AH.get_new_same] at hx; cases hx
      exact ⟨l, Ren.put_same _ _ _, by rw [hl]; exact r.size, by rw [hh]; exact hr⟩
    · rw [AH.get_new_ne _ _ e] at hx
      obtain ⟨l', h1, h2, h3⟩ := r.obj id x hx hlv
      exact ⟨l', hsub _ _ h1, h2, (h3.mono hsub).heap (keep _ (h3.block_lt hlv))⟩
  · intro i j oi oj li lj hi hil hj hjl hli hlj hb
    by_cases ei : i = h.next
    · by_cases ej : j = h.next
      · rw [ei, ej]
      · exfalso
        rw [AH.get_new_ne _ _ ej] at hj
        obtain ⟨l', h1, _, h3⟩ := r.obj j oj hj hjl
        rw [Ren.put_ne _ _ ej] at hlj; rw [h1] at hlj; cases hlj
        subst ei; rw [Ren.put_same] at hli; cases hli
        have := h3.block_lt hjl; omega
    · by_cases ej : j = h.next
      · exfalso
        rw [AH.get_new_ne _ _ ei] at hi
        obtain ⟨l', h1, _, h3⟩ := r.obj i oi hi hil
        rw [Ren.put_ne _ _ ei] at hli; rw [h1] at hli; cases hli
        subst ej; rw [Ren.put_same] at hlj; cases hlj
        have := h3.block_lt hil; omega
      · rw [AH.get_new_ne _ _ ei] at hi; rw [AH.get_new_ne _ _ ej] at hj
        rw [Ren.put_ne _ _ ei] at hli; rw [Ren.put_ne _ _ ej] at hlj
        exact r.inj i j oi oj li lj hi hil hj hjl hli hlj hb
  · rw [keep b (Nat.lt_of_lt_of_le hb r.size)]; exact r.old b hb
  · rw [hh]; simp; have := r.size; omega
  · rintro b ⟨id, x, l', hx, hlv, hl', rfl⟩
    by_cases e : id = h.next
    · subst e; rw [Ren.put_same] at hl'; cases hl'; exact .inr (by omega)
    · rw [AH.get_new_ne _ _ e] at hx; rw [Ren.put_ne _ _ e] at hl'
      exact .inl ⟨id, x, l', hx, hlv, hl', rfl⟩

/-- An object turned, in its own block. -/
theorem Stp.put {S : Sta} {w0 : World} {ρ : Ren} {h : AH} {w w' : World} (r : Rel S w0 ρ h w) {id : Nat} {o o' : AObj} {l : Loc} (hg : h.get id = some o) (hlive : o.live = true) (hl : ρ id = some l)
    (keep : ∀ b, b ≠ l.b → w'.heap[b]? = w.heap[b]?) (hs : w'.heap.size = w.heap.size) (ho : w'.os = w.os) (hp : w'.output = w.output)
    (hr : o'.live = true → ObjR S ρ o' w'.heap l) : Stp S w0 ρ h w ρ (h.put id o') w' := by
  obtain ⟨l0, h1, h2, h3⟩ := r.obj id o hg hlive
  rw [hl] at h1; cases h1
  have own_ne : ∀ {j x lj}, h.get j = some x → x.live = true → ρ j = some lj → j ≠ id → lj.b ≠ l.b := fun hj hjl hlj hne hb => hne (r.inj _ _ _ _ _ _ hj hjl hg hlive hlj hl hb)
  refine ⟨fun _ _ => rfl, by simp, ⟨fun j x hx => ?_, fun j x hx hlv => ?_, ?_, fun b hb => ?_, by rw [hs]; exact r.size, ho.trans r.os, hp.trans r.output⟩, fun b hb hno => keep b fun e => hno ⟨id, o, l, hg, hlive, hl, e.symm⟩, by rw [hs]; exact Nat.le_refl _, ?_⟩
  · by_cases e : j = id
    · subst e; exact r.dom _ _ hg
    · rw [AH.get_put_ne _ _ e] at hx; exact r.dom _ _ hx
  · by_cases e : j = id
    · subst e; rw [AH.get_put_same] at hx; cases hx; exact ⟨l, hl, h2, hr hlv⟩
    · rw [AH.get_put_ne _ _ e] at hx
      obtain ⟨lj, a1, a2, a3⟩ := r.obj j x hx hlv
      exact ⟨lj, a1, a2, a3.heap (keep _ (own_ne hx hlv a1 e))⟩
  · intro i j oi oj li lj hi hil hj hjl hli hlj hb
    by_cases ei : i = id
    · by_cases ej : j = id
      · rw [ei, ej]
      · rw [AH.get_put_ne _ _ ej] at hj; subst ei
        exact r.inj i j o oj li lj hg hlive hj hjl hli hlj hb
    · rw [AH.get_put_ne _ _ ei] at hi
      by_cases ej : j = id
      · subst ej; exact r.inj i j oi o li lj hi hil hg hlive hli hlj hb
      · rw [AH.get_put_ne _ _ ej] at hj; exact r.inj i j oi oj li lj hi hil hj hjl hli hlj hb
  · rw [keep b (by omega)]; exact r.old b hb
  · rintro b ⟨j, x, lj, hx, hlv, hlj, rfl⟩
    by_cases e : j = id
    · subst e; rw [hl] at hlj; cases hlj; exact .inl ⟨j, o, l, hg, hlive, hl, rfl⟩
    · rw [AH.get_put_ne _ _ e] at hx; exact .inl ⟨j, x, lj, hx, hlv, hlj, rfl⟩
end Go.Proofs.YtkahmlbhgahbbaaGreat.Abs
