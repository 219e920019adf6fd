/- Ranges over a map, where no more than one entry can come next: sound. -/
import Derived.Test.YtkahmlbhgahbbaaGreatAbsP
set_option linter.unusedSimpArgs false
set_option linter.unusedVariables false
set_option linter.unusedSectionVars false
set_option linter.constructorNameAsVariable false
namespace Go.Proofs.YtkahmlbhgahbbaaGreat.Abs
theorem memN_contains : ∀ {b : Nat} {l : List Nat}, memN b l = l.contains b := by
  intro b l
  induction l with
  | nil => rfl
  | cons x l ih =>
    simp only [memN, List.contains_cons]
    cases h : Nat.beq b x with
    | true => have := Nat.eq_of_beq_eq_true h; subst this; simp
    | false =>
      have : (b == x) = false := by
        cases hq : (b == x) with
        | true => have := beq_iff_eq.1 hq; subst this; rw [Nat.beq_refl] at h; cases h
        | false => rfl
      rw [this, ih]; rfl
/-- Are all that the last step saw gone, and others there? -/
def goneC (L : List MapEntry) (seen : List Nat) (last : Nat) : Bool := !seen.isEmpty && !L.isEmpty && L.all (fun e => decide (e.born ≥ last))
def leftC (L : List MapEntry) (seen : List Nat) : List MapEntry := L.filter fun e => !seen.contains e.born
theorem gone_no {L : List MapEntry} {seen : List Nat} {last : Nat} (hg : goneC L seen last = false) : ¬ ((¬ seen = [] ∧ ¬ L = []) ∧ ∀ (i : Nat) (x : i < L.length), last ≤ L[i].born) := by
  rintro ⟨⟨a, b⟩, c⟩
  have : goneC L seen last = true := by
    simp only [goneC, Bool.and_eq_true, Bool.not_eq_true', List.isEmpty_eq_false_iff, List.all_eq_true, decide_eq_true_eq]
    refine ⟨⟨a, b⟩, fun e he => ?_⟩
    obtain ⟨i, hi, rfl⟩ := List.getElem_of_mem he
    exact c i hi
  rw [hg] at this; cases this
theorem left_old {L : List MapEntry} {seen : List Nat} {since : Nat} : L.filter (fun a => decide (a.born < since) && !decide (a.born ∈ seen)) = (leftC L seen).filter (fun a => decide (a.born < since)) := by
  rw [leftC, List.filter_filter]
  exact List.filter_congr fun a _ => by simp
theorem left_new {L : List MapEntry} {seen : List Nat} {since : Nat} : L.filter (fun a => decide (since ≤ a.born) && !decide (a.born ∈ seen)) = (leftC L seen).filter (fun a => decide (since ≤ a.born)) := by
  rw [leftC, List.filter_filter]
  exact List.filter_congr fun a _ => by simp
theorem old_none {L : List MapEntry} {seen : List Nat} {since : Nat} : (∀ a, a ∈ L → a.born < since → a.born ∈ seen) ↔ (leftC L seen).filter (fun a => decide (a.born < since)) = [] := by
  rw [List.filter_eq_nil_iff]
  constructor
  · intro h a ha
    simp only [leftC, List.mem_filter] at ha
    have := h a ha.1
    simp only [decide_eq_true_eq]
    intro hb
    have h2 := this hb
    simp [h2] at ha
  · intro h a ha hb
    by_cases hs : a.born ∈ seen
    · exact hs
    · exact absurd (decide_eq_true hb) (h a (by simp [leftC, ha, hs]))
theorem run_next_over {P : Program} {w : World} {b mb since last clock : Nat} {seen : List Nat} {L : List MapEntry} {ty : TypeId} (h1 : w.heap[b]? = some (.mapIter (some mb) since seen.toArray last)) (h2 : w.heap[mb]? = some (.map L.toArray clock)) (hg : goneC L seen last = false) (hl : leftC L seen = []) :
    (Instr.next (.pointer (some ⟨b, 0, none⟩)) false ty).run P w = .ok (.tuple #[.bool false]) w := by
  have g1 := run_getObj (P := P) h1 (by intros; simp)
  have g2 := run_getObj (P := P) h2 (by intros; simp)
  have hn := gone_no hg
  have ho := left_old (L := L) (seen := seen) (since := since)
  have hw := left_new (L := L) (seen := seen) (since := since)
  have he := old_none (L := L) (seen := seen) (since := since)
  rw [hl] at ho hw he
  simp only [List.filter_nil, iff_true] at ho hw he
  simp [Instr.next, g1, g2]
  rw [if_neg hn]
  rw [if_pos he]
  simp [ho, hw, Question.forced]
theorem run_next_one {P : Program} {w : World} {b mb since last clock : Nat} {seen : List Nat} {L : List MapEntry} {e : MapEntry} {ty : TypeId} (h1 : w.heap[b]? = some (.mapIter (some mb) since seen.toArray last)) (h2 : w.heap[mb]? = some (.map L.toArray clock)) (hg : goneC L seen last = false) (hl : leftC L seen = [e]) (hb : e.born < since) :
    (Instr.next (.pointer (some ⟨b, 0, none⟩)) false ty).run P w = .ok (.tuple #[.bool true, e.key, e.val]) { w with heap := w.heap.setIfInBounds b (.mapIter (some mb) since (seen ++ [e.born]).toArray clock) } := by
  have g1 := run_getObj (P := P) h1 (by intros; simp)
  have g2 := run_getObj (P := P) h2 (by intros; simp)
  have g3 := run_setObj (P := P) (o' := .mapIter (some mb) since (seen ++ [e.born]).toArray clock) h1 (by intros; simp)
  have hn := gone_no hg
  have ho := left_old (L := L) (seen := seen) (since := since)
  have hw := left_new (L := L) (seen := seen) (since := since)
  have he := old_none (L := L) (seen := seen) (since := since)
  rw [hl] at ho hw he
  have c1 : [e].filter (fun a => decide (a.born < since)) = [e] := by simp [hb]
  have c2 : [e].filter (fun a => decide (since ≤ a.born)) = [] := by simp; omega
  rw [c1] at ho he
  rw [c2] at hw
  simp only [List.cons_ne_nil, iff_false] at he
  simp [Instr.next, g1, g2]
  rw [if_neg hn]
  simp [ho, hw, he, Question.forced, g3]
section ops
variable {S : Sta} {w0 : World} {ρ : Ren} {h : AH} {w : World}
theorem ent_left {seen : List Nat} : ∀ {es : List (AV × AV × Nat)} {L : List MapEntry}, EntRs S ρ es L → EntRs S ρ (leftOf seen es) (leftC L seen) := by
  intro es
  induction es with
  | nil => intro L k; cases L with
    | nil => exact trivial
    | cons _ _ => exact k.elim
  | cons e es ih =>
    intro L k
    cases L with
    | nil => exact k.elim
    | cons c L =>
      obtain ⟨k1, k2⟩ := k
      obtain ⟨x, y, b⟩ := e
      have hb : c.born = b := by obtain ⟨_, _, h3⟩ := k1; exact h3.symm ▸ rfl
      have := ih k2
      simp only [leftOf, memN_contains]
      unfold leftC at this ⊢
      cases hm : seen.contains b with
      | true => rw [List.filter_cons_of_neg (by rw [hb, hm]; simp)]; exact this
      | false => rw [List.filter_cons_of_pos (by rw [hb, hm]; rfl)]; exact ⟨k1, this⟩
theorem ent_gone {seen : List Nat} {last : Nat} {es : List (AV × AV × Nat)} {L : List MapEntry} (k : EntRs S ρ es L) (hg : allGone es seen last = false) : goneC L seen last = false := by
  have all : ∀ {es : List (AV × AV × Nat)} {L : List MapEntry}, EntRs S ρ es L → allFrom last es = L.all (fun e => decide (e.born ≥ last)) := by
    intro es
    induction es with
    | nil => intro L k; cases L with
      | nil => rfl
      | cons _ _ => exact k.elim
    | cons e es ih =>
      intro L k
      cases L with
      | nil => exact k.elim
      | cons c L =>
        obtain ⟨k1, k2⟩ := k
        obtain ⟨x, y, b⟩ := e
        have hb : c.born = b := by obtain ⟨_, _, h3⟩ := k1; exact h3.symm ▸ rfl
        simp only [allFrom, List.all_cons, hb, ih k2]
        cases hq : Nat.ble last b with
        | true => have := Nat.le_of_ble_eq_true hq; simp [this]
        | false =>
          have : ¬ last ≤ b := fun e => by rw [Nat.ble_eq_true_of_le e] at hq; cases hq
          simp [this]
  unfold goneC
  cases seen with
  | nil => rfl
  | cons s seen =>
    cases es with
    | nil => cases L with
      | nil => simp
      | cons _ _ => exact k.elim
    | cons e es =>
      simp only [allGone] at hg
      rw [← all k, hg]; simp
theorem ent_born {stamp : Nat} : ∀ {es : List (AV × AV × Nat)} {L : List MapEntry} {k v : AV}, EntRs S ρ es L → bornAt stamp es = some (k, v) → ∃ e, L.find? (fun e => e.born == stamp) = some e ∧ VR S ρ k e.key ∧ VR S ρ v e.val := by
  intro es
  induction es with
  | nil => intro L k v _ h; cases h
  | cons e es ih =>
    intro L k v q h
    cases L with
    | nil => exact q.elim
    | cons c L =>
      obtain ⟨k1, k2⟩ := q
      obtain ⟨x, y, b⟩ := e
      obtain ⟨q1, q2, q3⟩ := k1
      simp only [bornAt] at h
      cases hq : Nat.beq b stamp with
      | true =>
        rw [hq] at h
        cases h
        have := Nat.eq_of_beq_eq_true hq
        refine ⟨c, ?_, q1, q2⟩
        rw [List.find?_cons_of_pos (by rw [show c.born = b from q3]; simp [this])]
      | false =>
        rw [hq] at h
        obtain ⟨e, h1, h2⟩ := ih k2 h
        refine ⟨e, ?_, h2⟩
        rw [List.find?_cons_of_neg (by rw [show c.born = b from q3]; intro e; have := beq_iff_eq.1 e; subst this; rw [Nat.beq_refl] at hq; cases hq)]
        exact h1
theorem lastOf_eq : ∀ {l : List Nat}, lastOf l = l.getLast? := by
  intro l
  induction l with
  | nil => rfl
  | cons a l ih =>
    cases l with
    | nil => rfl
    | cons b l =>
      rw [lastOf, ih, List.getLast?_cons_cons]
      intro e; cases e
theorem iter_at (r : Rel S w0 ρ h w) {it : Nat} {m : Option Nat} {since last : Nat} {seen : List Nat} (hg : h.get it = some (.iter m since seen last)) {a : AA} (ha : a.ro = false ∧ a.id = it ∧ a.off = 0) {c : Value} (hc : VR S ρ (.ptr a) c) :
    ∃ l, ρ it = some l ∧ c = .pointer (some ⟨l.b, 0, none⟩) ∧ ObjR S ρ (.iter m since seen last) w.heap l := by
  obtain ⟨ro, id, off⟩ := a
  simp only at ha
  obtain ⟨rfl, rfl, rfl⟩ := ha
  obtain ⟨l, h1, _, h2⟩ := r.obj _ _ hg rfl
  obtain ⟨x, rfl, hx⟩ := hc
  simp only [AddrR] at hx
  obtain ⟨l', h3, rfl⟩ := hx
  rw [h1] at h3; cases h3
  refine ⟨l, h1, ?_, h2⟩
  have := h2.1
  simp [this]
theorem map_at (r : Rel S w0 ρ h w) {id clock : Nat} {es : List (AV × AV × Nat)} (hg : h.get id = some (.map es clock)) {l : Loc} (hl : ρ id = some l) : ∃ L : List MapEntry, w.heap[l.b]? = some (.map L.toArray clock) ∧ EntRs S ρ es L := by
  obtain ⟨l', h1, _, ces, h2, h3⟩ := r.obj _ _ hg rfl
  rw [hl] at h1; cases h1
  exact ⟨ces.toList, by simpa using h2, h3⟩
theorem range_sound (r : Rel S w0 ρ h w) {t kt et : TypeId} (hu : S.P.underlying t = some (.map kt et)) {x v : AV} {c : Value} (hc : VR S ρ x c) {h' : AH} (he : aRange x h = .val v h') (hf : Free ρ h.next h'.next) {res : Result Next}
    (hres : ∀ c' w', (Instr.range t c).run S.P w = .ok c' w' → res = .ok (.value c') w') : OpRes S w0 ρ h w res v h' := by
  have fin : ∀ (m : Option Nat) (mo : Option Nat) (since : Nat), ((m = none ∧ mo = none) ∨ ∃ id lm, m = some id ∧ ρ id = some lm ∧ mo = some lm.b) → (Instr.range t c).run S.P w = .ok (.pointer (some ⟨w.heap.size, 0, none⟩)) (w.alloc (.mapIter mo since #[] since)) →
      v = .ptr ⟨false, h.next, 0⟩ → h' = h.new (.iter m since [] since) → OpRes S w0 ρ h w res v h' := by
    rintro m mo since hm hrun rfl rfl
    have hfr : ρ h.next = none := hf _ (Nat.le_refl _) (by simp)
    have hsub := Ren.sub_put (⟨w.heap.size, 0, 0⟩ : Loc) hfr
    have s1 := Stp.new (w' := w.alloc (.mapIter mo since #[] since)) r (.iter m since [] since) (.mapIter mo since #[] since) ⟨w.heap.size, 0, 0⟩ rfl hfr rfl rfl rfl
      ⟨rfl, mo, by simp, hm.imp id fun ⟨id, lm, q1, q2, q3⟩ => ⟨id, lm, q1, hsub _ _ q2, q3⟩⟩
    exact ⟨_, _, _, s1, ⟨_, rfl, by simp only [AddrR]; exact ⟨_, Ren.put_same _ _ _, by simp⟩⟩, .inl (hres _ _ hrun)⟩
  cases x <;> simp only [aRange] at he <;> try (cases he; done)
  case nilmap =>
    cases he
    simp only [VR] at hc
    subst hc
    exact fin none none 0 (.inl ⟨rfl, rfl⟩) (by simp [Instr.range, run_under w hu]) rfl rfl
  case map id =>
    split at he
    · rename_i es clock hg
      cases he
      obtain ⟨l, hl, rfl⟩ := hc
      obtain ⟨L, q1, _⟩ := map_at r hg hl
      have g := run_getObj (P := S.P) q1 (by intros; simp)
      exact fin (some id) (some l.b) clock (.inr ⟨id, l, rfl, hl, rfl⟩) (by simp [Instr.range, run_under w hu, g]) rfl rfl
    · cases he
theorem next_sound (r : Rel S w0 ρ h w) {ty : TypeId} {x v : AV} {c : Value} (hc : VR S ρ x c) {h' : AH} (he : aNext x h = .val v h') {res : Result Next}
    (hres : ∀ c' w', (Instr.next c false ty).run S.P w = .ok c' w' → res = .ok (.value c') w') : OpRes S w0 ρ h w res v h' := by
  unfold aNext at he
  split at he
  case h_2 => cases he
  rename_i it
  split at he
  case h_2 => cases he
  rename_i m since seen last hg
  obtain ⟨l, hl, rfl, h0, mo, ho, hm⟩ := iter_at r hg ⟨rfl, rfl, rfl⟩ hc
  split at he
  · cases he
    rcases hm with ⟨_, rfl⟩ | ⟨_, _, hm, _⟩
    · have g := run_getObj (P := S.P) ho (by intros; simp)
      exact OpRes.val r (v := .tup [.bool false]) (c := .tuple #[.bool false]) ⟨_, rfl, rfl, trivial⟩ (hres _ _ (by simp [Instr.next, g]))
    · cases hm
  · rename_i id
    rcases hm with ⟨hm, _⟩ | ⟨id', lm, hm, hlm, rfl⟩
    · cases hm
    cases hm
    split at he
    case h_2 => cases he
    rename_i es clock hgm
    obtain ⟨L, q1, q2⟩ := map_at r hgm hlm
    split at he
    · cases he
    rename_i hgone
    have hgc := ent_gone q2 hgone
    have hlc := ent_left (seen := seen) q2
    split at he
    · rename_i hlo
      cases he
      rw [hlo] at hlc
      have hl0 : leftC L seen = [] := by
        cases hq : leftC L seen with
        | nil => rfl
        | cons _ _ => rw [hq] at hlc; exact hlc.elim
      exact OpRes.val r (v := .tup [.bool false]) (c := .tuple #[.bool false]) ⟨_, rfl, rfl, trivial⟩ (hres _ _ (run_next_over ho q1 hgc hl0))
    · rename_i k vv b hlo
      split at he
      · rename_i hlt
        cases he
        rw [hlo] at hlc
        obtain ⟨e, hle⟩ : ∃ e, leftC L seen = [e] := by
          cases hq : leftC L seen with
          | nil => rw [hq] at hlc; exact hlc.elim
          | cons e t => cases t with
            | nil => exact ⟨e, rfl⟩
            | cons _ _ => rw [hq] at hlc; exact hlc.2.elim
        rw [hle] at hlc
        obtain ⟨⟨k1, k2, k3⟩, _⟩ := hlc
        have hb : e.born = b := k3
        have hlt' : e.born < since := by rw [hb]; simpa using hlt
        have hrun := run_next_one (P := S.P) (ty := ty) ho q1 hgc hle hlt'
        have hbl : l.b < w.heap.size := (Array.getElem?_eq_some_iff.1 ho).1
        rw [hb] at hrun
        have s1 := setObj_stp (o' := .iter (some id) since (seen ++ [b]) clock) (ob := .mapIter (some lm.b) since (seen ++ [b]).toArray clock) r hg rfl hl hbl (fun _ => ⟨h0, some lm.b, by simp [hbl], .inr ⟨id, lm, rfl, hlm, rfl⟩⟩)
        exact ⟨ρ, _, .tuple #[.bool true, e.key, e.val], s1, ⟨_, rfl, rfl, k1, k2, trivial⟩, .inl (hres _ _ hrun)⟩
      · cases he
    · cases he
theorem entry_sound (r : Rel S w0 ρ h w) {x v : AV} {c : Value} (hc : VR S ρ x c) {h' : AH} (he : aEntry x h = .val v h') {res : Result Next}
    (hres : ∀ c' w', (Instr.entry c).run S.P w = .ok c' w' → res = .ok (.value c') w') : OpRes S w0 ρ h w res v h' := by
  unfold aEntry at he
  split at he
  case h_2 => cases he
  rename_i it
  split at he
  case h_2 => cases he
  rename_i id since seen last hg
  obtain ⟨l, hl, rfl, h0, mo, ho, hm⟩ := iter_at r hg ⟨rfl, rfl, rfl⟩ hc
  rcases hm with ⟨hm, _⟩ | ⟨id', lm, hm, hlm, rfl⟩
  · cases hm
  cases hm
  split at he
  case h_2 => cases he
  rename_i stamp hst
  split at he
  case h_2 => cases he
  rename_i es clock hgm
  split at he
  case h_2 => cases he
  rename_i hck
  split at he
  case h_2 => cases he
  rename_i k vv hbn
  cases he
  obtain ⟨L, q1, q2⟩ := map_at r hgm hlm
  obtain ⟨e, f1, f2, f3⟩ := ent_born q2 hbn
  have hck' : clock = last := Nat.eq_of_beq_eq_true hck
  subst hck'
  rw [lastOf_eq] at hst
  have g1 := run_getObj (P := S.P) ho (by intros; simp)
  have g2 := run_getObj (P := S.P) q1 (by intros; simp)
  refine OpRes.val r (v := .tup [k, vv]) (c := .tuple #[e.key, e.val]) ⟨_, rfl, f2, f3, trivial⟩ (hres _ _ ?_)
  have hb : seen.toArray.back? = some stamp := by simp [Array.back?, ← hst, List.getLast?_eq_getElem?]
  simp [Instr.entry, g1, g2, hb, f1]
end ops
end Go.Proofs.YtkahmlbhgahbbaaGreat.Abs
