/- The logic: maps by texts. -/
import Derived.Test.YtdcbglljljfleaaAbsN5
set_option linter.unusedSimpArgs false
set_option linter.unusedVariables false
set_option linter.unusedSectionVars false
set_option linter.constructorNameAsVariable false
namespace Go.Proofs.Ytdcbglljljfleaa.Abs
section n6
variable {B : Nat → List AV} {T : Tr FnI}
/-- What a map has, in the order in which it was laid. -/
def MapIs (es : List (AV × AV × Nat)) (l : List (List Nat × AV)) : Prop := es.map (fun e => (e.1, e.2.1)) = l.map fun p => (AV.str p.1, p.2)
def lookM : List (List Nat × AV) → List Nat → Option AV
  | [], _ => none
  | (k', v) :: r, k => if k = k' then some v else lookM r k
theorem find_str {k : List Nat} : ∀ {es : List (AV × AV × Nat)} {l : List (List Nat × AV)} {i : Nat}, MapIs es l → ∃ r, findK .str (.str k) es i = some r ∧ r.map (·.2) = lookM l k := by
  intro es
  induction es with
  | nil =>
    intro l i h
    cases l with
    | nil => exact ⟨none, rfl, rfl⟩
    | cons _ _ => simp [MapIs] at h
  | cons e es ih =>
    intro l i h
    cases l with
    | nil => simp [MapIs] at h
    | cons p l =>
      obtain ⟨k1, v1, c1⟩ := e
      obtain ⟨k2, v2⟩ := p
      simp only [MapIs, List.map_cons, List.cons.injEq, Prod.mk.injEq] at h
      obtain ⟨⟨rfl, rfl⟩, h2⟩ := h
      simp only [findK, keq, lookM]
      by_cases hk : k = k2
      · have : strEq k k2 = true := strEqL_iff.2 hk
        rw [this, if_pos hk]
        exact ⟨_, rfl, rfl⟩
      · have : strEq k k2 = false := by rw [Bool.eq_false_iff]; exact fun h => hk (strEqL_iff.1 h)
        rw [this, if_neg hk]
        exact ih h2
theorem WOps.mkm {t : EL} {H : HL} {Q : EL → HL → Prop} {os : List AOper} {k : Nat} {g : Option (Nat × Bool)} (hg : wantedL g t = some true) (w : ∀ id, WOps B T os ((k, .map id) :: t) ((id, .map [] 0) :: H) Q) : WOps B T (⟨some k, .mkmap, g⟩ :: os) t H Q :=
  WOps.go hg (fun env h F le s => ⟨.map h.next, h.new (.map [] 0), _, w h.next, by simpa using s.new (.map [] 0), Ev.of fun _ => rfl⟩)
theorem WOps.lkp {t : EL} {H R : HL} {Q : EL → HL → Prop} {os : List AOper} {k id c : Nat} {g : Option (Nat × Bool)} {x y : AO} {z : AV} {s : List Nat} {es : List (AV × AV × Nat)} {l : List (List Nat × AV)} (hg : wantedL g t = some true) (hx : gl t x = some (.map id)) (hy : gl t y = some (.str s)) (tk : Tk H id (.map es c) R) (hm : MapIs es l)
    (w : WOps B T os ((k, match lookM l s with | some v => .tup [v, .bool true] | none => .tup [z, .bool false]) :: t) H Q) : WOps B T (⟨some k, .lookup true .str z x y, g⟩ :: os) t H Q :=
  WOps.go hg (fun env h F le sp => by
    have hget := (sp.perm tk.app).at_ (id, .map es c) (by simp)
    obtain ⟨r, h1, h2⟩ := find_str (k := s) (i := 0) hm
    refine ⟨match lookM l s with | some v => .tup [v, .bool true] | none => .tup [z, .bool false], h, H, w, sp, Ev.of fun _ => ?_⟩
    simp only [evOp, aop, rd_mono le hx, rd_mono le hy, mapOf, hget, h1, ← h2]
    cases r with
    | none => rfl
    | some p => obtain ⟨i, v⟩ := p; rfl)
theorem WOp.mup {t : EL} {H R : HL} {Q : AV → HL → Prop} {id c : Nat} {x y u : AO} {s : List Nat} {v : AV} {es : List (AV × AV × Nat)} {l : List (List Nat × AV)} (hx : gl t x = some (.map id)) (hy : gl t y = some (.str s)) (hu : gl t u = some v) (tk : Tk H id (.map es c) R) (hm : MapIs es l) (hn : lookM l s = none)
    (q : Q .undef ((id, .map (es ++ [(.str s, v, c)]) (c + 1)) :: R)) : WOp B T (.mapup .str x y u) t H Q := fun env h F le sp => by
  have s1 := sp.perm tk.app
  have hget := s1.at_ (id, .map es c) (by simp)
  obtain ⟨r, h1, h2⟩ := find_str (k := s) (i := 0) hm
  have hr : r = none := by
    rw [hn] at h2
    cases r with
    | none => rfl
    | some p => cases h2
  subst hr
  refine ⟨.undef, h.put id (.map (es ++ [(.str s, v, c)]) (c + 1)), _, q, by simpa using s1.put, Ev.of fun _ => ?_⟩
  simp only [evOp, aop, rd_mono le hx, rd_mono le hy, rd_mono le hu, hget, h1, forceL_eq]
theorem WD.mup {t : EL} {H R : HL} {HH : List (Nat × HL)} {Q : EL → HL → Prop} {os : List DOper} {id c i bs : Nat} {g : Option (Nat × Bool)} {x y u : AO} {s : List Nat} {v : AV} {es : List (AV × AV × Nat)} {l : List (List Nat × AV)} (hg : wantedL g t = some true) (hx : gl t x = some (.map id)) (hy : gl t y = some (.str s)) (hu : gl t u = some v) (tk : Tk H id (.map es c) R) (hm : MapIs es l) (hn : lookM l s = none)
    (w : WD B T os t ((id, .map (es ++ [(.str s, v, c)]) (c + 1)) :: R) ((i, (id, .map (es ++ [(.str s, v, c)]) (c + 1)) :: R) :: HH) Q) : WD B T (⟨⟨none, .mapup .str x y u, g⟩, .loud, i, bs⟩ :: os) t H HH Q :=
  WD.loud hg (WOp.mup hx hy hu tk hm hn w)
theorem MapIs.snoc {es : List (AV × AV × Nat)} {l : List (List Nat × AV)} {s : List Nat} {v : AV} {c : Nat} (h : MapIs es l) : MapIs (es ++ [(.str s, v, c)]) (l ++ [(s, v)]) := by
  unfold MapIs at *
  rw [List.map_append, List.map_append, h]
  rfl
end n6
/-- One piece behind another: what the first leaves is told by `X`. -/
theorem WC.cut {B : Nat → List AV} {T : Tr FnI} {nt : Nat} {rdn : Option Nat} {t : EL} {H : HL} {Q : AExit → EL → HL → Prop} {X : Type} {a b : AC} (ts : X → EL) (hs : X → HL) (P : X → Prop) (w : WC B T nt rdn a t H fun ex t' H' => ex = .normal ∧ ∃ x, Sub1 (ts x) t' ∧ SubP (hs x) H' ∧ P x)
    (k : ∀ x, P x → WC B T nt rdn b (ts x) (hs x) Q) : WC B T nt rdn (.seq a b) t H Q := WC.seq (WC.mono w (by
  rintro ex t' H' ⟨rfl, x, h1, h2, h3⟩
  exact WC.le h1 (WC.lessP h2 (k x h3))))
end Go.Proofs.Ytdcbglljljfleaa.Abs
