/- The logic: slices that are read, flat structs held against one another. -/
import Derived.Test.YtdcbglljljfleaaAbsL3
set_option linter.unusedSimpArgs false
set_option linter.unusedVariables false
set_option linter.unusedSectionVars false
set_option linter.constructorNameAsVariable false
namespace Go.Proofs.Ytdcbglljljfleaa.Abs
theorem allCell_nil : allCell [] = true := rfl
theorem allCell_cons {v : AV} {r : List AV} (h : v.isCell = true) (k : allCell r = true) : allCell (v :: r) = true := by simp only [allCell, h, k]
theorem cells_agg {l : List AV} : (AV.agg l).cells = l := rfl
section sl
variable {B : Nat → List AV} {T : Tr FnI}
def SlIs (B : Nat → List AV) (H : HL) (v : AV) (esz : Nat) (xs : List (List AV)) : Prop :=
 (v = .nilsl ∧ xs = []) ∨ ∃ a, v = .sl a xs.length esz ∧ ∀ i c, xs[i]? = some c → Ld B H ⟨a.ro, a.id, a.off + i * esz⟩ esz c
theorem Ld.cons {H : HL} {p : Nat × AObj} {a : AA} {n : Nat} {l : List AV} (h : Ld B H a n l) : Ld B (p :: H) a n l := by
 rcases h with h | ⟨h1, cs, R, h2, h3⟩
 ·exact .inl h
 ·exact .inr ⟨h1, cs, p :: R, h2.tail, h3⟩
theorem SlIs.cons {H : HL} {p : Nat × AObj} {v : AV} {esz : Nat} {xs : List (List AV)} (h : SlIs B H v esz xs) : SlIs B (p :: H) v esz xs := by
 rcases h with h | ⟨a, h1, h2⟩
 ·exact .inl h
 ·exact .inr ⟨a, h1, fun i c hc => (h2 i c hc).cons⟩
theorem SlIs.len {H : HL} {v : AV} {esz : Nat} {xs : List (List AV)} (h : SlIs B H v esz xs) : lenSrc false v = some xs.length := by
 rcases h with ⟨rfl, rfl⟩ | ⟨a, rfl, _⟩ <;> rfl
theorem SlIs.cell {H : HL} {v : AV} {esz : Nat} {xs : List (List AV)} (h : SlIs B H v esz xs) : v.isCell = true := by
 rcases h with ⟨rfl, rfl⟩ | ⟨a, rfl, _⟩ <;> rfl
theorem SlIs.single {H : HL} {id esz : Nat} {c : List AV} (hc : c.length = esz) : SlIs B ((id, .row c) :: H) (.sl ⟨false, id, 0⟩ 1 esz) esz [c] := by
 refine .inr ⟨_, rfl, fun i x hx => ?_⟩
 cases i with
 | zero =>
  cases hx
  refine Ld.own Tk.head ?_
  have tk : ∀ (l : List AV), takeN l l.length = some l := by
   intro l
   induction l with
   | nil => rfl
   | cons x l ih => simp only [List.length_cons, takeN, ih]
  simp only [Nat.zero_mul, Nat.add_zero, List.drop_zero]
  rw [← hc]; exact tk _
 | succ i => simp at hx
section ops
variable {t : EL} {H : HL} {Q : EL → HL → Prop} {os : List AOper} {k : Nat} {g : Option (Nat × Bool)}
theorem WOps.lenS {x : AO} {v : AV} {esz : Nat} {xs : List (List AV)} (hg : wantedL g t = some true) (hx : gl t x = some v) (hs : SlIs B H v esz xs) (w : WOps B T os ((k, .int .i64 (.ofNat xs.length)) :: t) H Q) : WOps B T (⟨some k, .len false x, g⟩ :: os) t H Q :=
 WOps.purG hg (fun h => by simp only [aopL, hx, hs.len]) w
theorem WOps.ixSl {esz m : Nat} {x i : AO} {v : AV} {ki : IntKind} {xs : List (List AV)} {c : List AV} (hg : wantedL g t = some true) (hx : gl t x = some v) (hi : gl t i = some (.int ki (.ofNat m))) (hs : SlIs B H v esz xs) (hm : xs[m]? = some c)
  (w : ∀ a, Ld B H a esz c → WOps B T os ((k, .ptr a) :: t) H Q) : WOps B T (⟨some k, .idxS esz x i, g⟩ :: os) t H Q := by
 rcases hs with ⟨rfl, rfl⟩ | ⟨a, rfl, h⟩
 ·simp at hm
 ·have hlt : m < xs.length := (List.getElem?_eq_some_iff.1 hm).1
  exact WOps.purG hg (fun h' => by simp only [aopL, hx, hi, asIdx_of hlt, Nat.beq_refl]) (w _ (h m c hm))
end ops
section D
variable {t : EL} {H : HL} {HH : List (Nat × HL)} {Q : EL → HL → Prop} {os : List DOper} {k : Nat} {g : Option (Nat × Bool)} {i bs : Nat}
theorem WD.lenS {x : AO} {v : AV} {esz : Nat} {xs : List (List AV)} (hg : wantedL g t = some true) (hx : gl t x = some v) (hs : SlIs B H v esz xs) (w : WD B T os ((k, .int .i64 (.ofNat xs.length)) :: t) H HH Q) : WD B T (⟨⟨some k, .len false x, g⟩, .quiet, i, bs⟩ :: os) t H HH Q :=
 WD.pur hg (fun h => by simp only [aopL, hx, hs.len]) w
theorem WD.ixSl {esz m : Nat} {x y : AO} {v : AV} {ki : IntKind} {xs : List (List AV)} {c : List AV} (hg : wantedL g t = some true) (hx : gl t x = some v) (hi : gl t y = some (.int ki (.ofNat m))) (hs : SlIs B H v esz xs) (hm : xs[m]? = some c)
  (w : ∀ a, (∀ H', SlIs B H' v esz xs → Ld B H' a esz c) → WD B T os ((k, .ptr a) :: t) H HH Q) : WD B T (⟨⟨some k, .idxS esz x y, g⟩, .quiet, i, bs⟩ :: os) t H HH Q := by
 rcases hs with ⟨rfl, rfl⟩ | ⟨a, rfl, h⟩
 ·simp at hm
 ·have hlt : m < xs.length := (List.getElem?_eq_some_iff.1 hm).1
  refine WD.pur (v := .ptr ⟨a.ro, a.id, a.off + m * esz⟩) hg (fun h' => by simp only [aopL, hx, hi, asIdx_of hlt, Nat.beq_refl]) (w _ fun H' hs' => ?_)
  rcases hs' with ⟨h1, _⟩ | ⟨a', h1, h2⟩
  ·cases h1
  ·cases h1; exact h2 m c hm
end D
/-! ### Flat structs -/
inductive CT where
 | int (k : IntKind) | str | bool
def HasT : CT → AV → Prop
 | .int k, v => ∃ n, v = .int k n
 | .str, v => ∃ s, v = .str s
 | .bool, v => ∃ b, v = .bool b
def CT.pl : CT → EqP
 | .int _ => .int
 | .str => .str
 | .bool => .bool
def AllT : List CT → List AV → Prop
 | [], c => c = []
 | x :: r, c => ∃ v l, c = v :: l ∧ HasT x v ∧ AllT r l
theorem AllT.length : ∀ {cts : List CT} {c : List AV}, AllT cts c → c.length = cts.length := by
 intro cts
 induction cts with
 | nil => intro c h; simp only [AllT] at h; subst h; rfl
 | cons x r ih => rintro c ⟨v, l, rfl, _, h⟩; simp [ih h]
def flatF : Nat → Nat → List (Nat × Nat × Bool)
 | _, 0 => []
 | i, n + 1 => (i, 1, false) :: flatF (i + 1) n
theorem aEq_ct {x : CT} {a b : AV} (ha : HasT x a) (hb : HasT x b) : ∃ r : Bool, (r = true ↔ a = b) ∧ aEq x.pl a b = some r := by
 cases x with
 | int k => obtain ⟨n, rfl⟩ := ha; obtain ⟨m, rfl⟩ := hb; exact ⟨n == m, by simp, by simp [CT.pl, aEq, eqInt]⟩
 | str => obtain ⟨n, rfl⟩ := ha; obtain ⟨m, rfl⟩ := hb; exact ⟨strEq n m, by simp [strEqL_iff], by simp [CT.pl, aEq, eqStr]⟩
 | bool => obtain ⟨n, rfl⟩ := ha; obtain ⟨m, rfl⟩ := hb; exact ⟨n == m, by simp, by simp [CT.pl, aEq, eqBool]⟩
theorem aEqs_flat : ∀ {cts : List CT} {c d p q : List AV} {i : Nat}, AllT cts c → AllT cts d → p.length = i → q.length = i → ∃ r : Bool, (r = true ↔ c = d) ∧ aEqs (cts.map CT.pl) (flatF i cts.length) (p ++ c) (q ++ d) = some r := by
 intro cts
 induction cts with
 | nil => intro c d p q i hc hd _ _; simp only [AllT] at hc hd; subst hc; subst hd; exact ⟨true, by simp, rfl⟩
 | cons x r ih =>
  rintro c d p q i ⟨a, c, rfl, ha, hc⟩ ⟨b, d, rfl, hb, hd⟩ hp hq
  obtain ⟨r1, h1, e1⟩ := aEq_ct ha hb
  obtain ⟨r2, h2, e2⟩ := ih (p := p ++ [a]) (q := q ++ [b]) (i := i + 1) hc hd (by simp [hp]) (by simp [hq])
  simp only [List.append_assoc, List.singleton_append] at e2
  have g1 : (p ++ a :: c)[i]? = some a := by rw [List.getElem?_append_right (by omega)]; simp [hp]
  have g2 : (q ++ b :: d)[i]? = some b := by rw [List.getElem?_append_right (by omega)]; simp [hq]
  simp only [List.map_cons, List.length_cons, flatF, aEqs, partOf, g1, g2, e1]
  cases r1 with
  | true => exact ⟨r2, by rw [h2]; simp [h1.1 rfl], e2⟩
  | false => exact ⟨false, by simp only [Bool.false_eq_true, List.cons.injEq, false_iff]; rintro ⟨h, _⟩; exact absurd (h1.2 h) (by simp), rfl⟩
theorem aEq_flat {cts : List CT} {c d : List AV} (hc : AllT cts c) (hd : AllT cts d) : ∃ r : Bool, (r = true ↔ c = d) ∧ aEq (.str0 (flatF 0 cts.length) (cts.map CT.pl)) (.agg c) (.agg d) = some r := by
 obtain ⟨r, h1, h2⟩ := aEqs_flat (p := []) (q := []) (i := 0) hc hd rfl rfl
 exact ⟨r, h1, by simpa [aEq, two] using h2⟩
theorem WOps.eqF {t : EL} {H : HL} {Q : EL → HL → Prop} {os : List AOper} {k : Nat} {g : Option (Nat × Bool)} (cts : List CT) {neg : Bool} {fs : List (Nat × Nat × Bool)} {ps : List EqP} {x y : AO} {c d : List AV} (hf : fs = flatF 0 cts.length) (hp : ps = cts.map CT.pl) (hg : wantedL g t = some true) (hx : gl t x = some (.agg c)) (hy : gl t y = some (.agg d)) (hc : AllT cts c) (hd : AllT cts d)
  (w : ∀ v : Bool, (v = true ↔ (if neg then ¬ c = d else c = d)) → WOps B T os ((k, .bool v) :: t) H Q) : WOps B T (⟨some k, .eq neg (.str0 fs ps) x y, g⟩ :: os) t H Q := by
 obtain ⟨r, h1, h2⟩ := aEq_flat hc hd
 subst hf; subst hp
 cases neg with
 | true => exact WOps.purG hg (fun h => by simp only [aopL, hx, hy, h2]) (w (!r) (by cases r <;> simp_all))
 | false => exact WOps.purG hg (fun h => by simp only [aopL, hx, hy, h2]) (w r (by cases r <;> simp_all))
theorem WD.eqF {t : EL} {H : HL} {HH : List (Nat × HL)} {Q : EL → HL → Prop} {os : List DOper} {k : Nat} {g : Option (Nat × Bool)} {i bs : Nat} (cts : List CT) {neg : Bool} {fs : List (Nat × Nat × Bool)} {ps : List EqP} {x y : AO} {c d : List AV} (hf : fs = flatF 0 cts.length) (hp : ps = cts.map CT.pl) (hg : wantedL g t = some true) (hx : gl t x = some (.agg c)) (hy : gl t y = some (.agg d)) (hc : AllT cts c) (hd : AllT cts d)
  (w : ∀ v : Bool, (v = true ↔ (if neg then ¬ c = d else c = d)) → WD B T os ((k, .bool v) :: t) H HH Q) : WD B T (⟨⟨some k, .eq neg (.str0 fs ps) x y, g⟩, .quiet, i, bs⟩ :: os) t H HH Q := by
 obtain ⟨r, h1, h2⟩ := aEq_flat hc hd
 subst hf; subst hp
 cases neg with
 | true => exact WD.pur hg (fun h => by simp only [aopL, hx, hy, h2]) (w (!r) (by cases r <;> simp_all))
 | false => exact WD.pur hg (fun h => by simp only [aopL, hx, hy, h2]) (w r (by cases r <;> simp_all))
/-! ### Calls that only read -/
theorem WOps.clR {t : EL} {H : HL} {Q : EL → HL → Prop} {os : List AOper} {k : Nat} {g : Option (Nat × Bool)} {f : Nat} {args : List AO} {vs : List AV} {P : AV → Prop} (hg : wantedL g t = some true) (ha : gls t args = some vs) (f1 : WF B T (.func f) vs H fun v H' => H' = H ∧ P v)
  (w : ∀ v, P v → WOps B T os ((k, v) :: t) H Q) : WOps B T (⟨some k, .call f args, g⟩ :: os) t H Q := WOps.go hg (by
 intro env h F le s
 obtain ⟨v, h', H', ⟨rfl, p⟩, s', e⟩ := f1 h F s
 refine ⟨v, h', _, w v p, s', e.mono fun n e => ?_⟩
 simp only [evOp, rds_mono le ha]; exact e)
theorem WD.clR {t : EL} {H : HL} {HH : List (Nat × HL)} {Q : EL → HL → Prop} {os : List DOper} {k : Nat} {g : Option (Nat × Bool)} {i bs : Nat} {f : Nat} {args : List AO} {vs : List AV} {P : AV → Prop} (hg : wantedL g t = some true) (ha : gls t args = some vs) (f1 : WF B T (.func f) vs H fun v H' => H' = H ∧ P v)
  (w : ∀ v, P v → WD B T os ((k, v) :: t) H ((i, H) :: HH) Q) : WD B T (⟨⟨some k, .call f args, g⟩, .loud, i, bs⟩ :: os) t H HH Q := WD.loud hg (by
 intro env h F le s
 obtain ⟨v, h', H', ⟨rfl, p⟩, s', e⟩ := f1 h F s
 refine ⟨v, h', _, w v p, s', e.mono fun n e => ?_⟩
 simp only [evOp, rds_mono le ha]; exact e)
theorem WOps.cvR {t : EL} {H : HL} {Q : EL → HL → Prop} {os : List AOper} {k : Nat} {g : Option (Nat × Bool)} {x : AO} {f : Nat} {first cap : List AV} {args : List AO} {vs : List AV} {P : AV → Prop} (hg : wantedL g t = some true) (hx : gl t x = some (.fn (.func f) first cap)) (ha : gls t args = some vs) (f1 : WF B T (.func f) (first ++ (vs ++ cap)) H fun v H' => H' = H ∧ P v)
  (w : ∀ v, P v → WOps B T os ((k, v) :: t) H Q) : WOps B T (⟨some k, .callv x args, g⟩ :: os) t H Q := WOps.go hg (by
 intro env h F le s
 obtain ⟨v, h', H', ⟨rfl, p⟩, s', e⟩ := f1 h F s
 refine ⟨v, h', _, w v p, s', e.mono fun n e => ?_⟩
 simp only [evOp, rd_mono le hx, rds_mono le ha]; exact e)
theorem WF.fnR {f : Nat} {fi : FnI} {args : List AV} {H : HL} {P : AV → Prop} (hT : T.get f = some fi) (hn : Nat.ble args.length fi.nt = true)
  (w : WC B T fi.nt none fi.code (argL args 0) H fun ex t' H' => (match ex with | .jump (.exit _) => False | _ => True) ∧ List.Sublist H H' ∧ ∃ vs, Res B t' H' fi.res vs ∧ P (tupOf vs)) : WF B T (.func f) args H fun v H' => H' = H ∧ P v := by
 intro h F s
 have w' : WF B T (.func f) args H fun v H' => List.Sublist H H' ∧ P v := WF.fn hT hn (w.mono fun ex t H' ⟨h1, h2, vs, h3, h4⟩ => ⟨h1, vs, h3, h2, h4⟩)
 obtain ⟨v, h', H', ⟨h1, h2⟩, s', e⟩ := w' h F s
 exact ⟨v, h', H, ⟨rfl, h2⟩, s'.sub (h1.append (List.Sublist.refl _)), e⟩
theorem wrapN {m j : Nat} (h : m + j ≤ 9223372036854775807) : IntKind.i64.wrap (Int.ofNat m + Int.ofNat j) = Int.ofNat (m + j) := by
 rw [IntKind.wrap_i64]; simp only [Int.ofNat_eq_natCast]; omega
theorem WOps.addN {t : EL} {H : HL} {Q : EL → HL → Prop} {os : List AOper} {k : Nat} {g : Option (Nat × Bool)} {x y : AO} {m j : Nat} (hg : wantedL g t = some true) (hx : gl t x = some (.int .i64 (.ofNat m))) (hy : gl t y = some (.int .i64 (.ofNat j))) (h : m + j ≤ 9223372036854775807)
  (w : WOps B T os ((k, .int .i64 (.ofNat (m + j))) :: t) H Q) : WOps B T (⟨some k, .bin .add x y, g⟩ :: os) t H Q :=
 WOps.purG hg (fun h' => by simp only [aopL, hx, hy, aBin, if_true, wrapN h, pure1]) w
def Rel2 {α : Type} (R : List AV → α → Prop) (xs : List (List AV)) (us : List α) : Prop := xs.length = us.length ∧ ∀ (i : Nat) c u, xs[i]? = some c → us[i]? = some u → R c u
theorem Rel2.get {α : Type} {R : List AV → α → Prop} {xs : List (List AV)} {us : List α} (h : Rel2 R xs us) {i : Nat} (hi : i < xs.length) : ∃ c u, xs[i]? = some c ∧ us[i]? = some u ∧ R c u := by
 have h2 : i < us.length := by rw [← h.1]; exact hi
 exact ⟨xs[i], us[i], List.getElem?_eq_getElem hi, List.getElem?_eq_getElem h2, h.2 i _ _ (List.getElem?_eq_getElem hi) (List.getElem?_eq_getElem h2)⟩
theorem SlIs.any {v : AV} {esz : Nat} {xs : List (List AV)} (h : SlIs B [] v esz xs) : ∀ {H : HL}, SlIs B H v esz xs := by
 intro H
 induction H with
 | nil => exact h
 | cons p H ih => exact ih.cons
theorem WL.sub {nt : Nat} {rdn : Option Nat} {t : EL} {H H1 : HL} {Q : AExit → EL → HL → Prop} {c : AC} (hs : List.Sublist H1 H) (w : WL B T nt rdn c t H1 Q) : WL B T nt rdn c t H Q :=
 fun env ds h F le s => w env ds h F le (s.sub (hs.append (List.Sublist.refl _)))
theorem WC.sub {nt : Nat} {rdn : Option Nat} {t : EL} {H H1 : HL} {Q : AExit → EL → HL → Prop} {c : AC} (hs : List.Sublist H1 H) (w : WC B T nt rdn c t H1 Q) : WC B T nt rdn c t H Q :=
 fun env ds h F le s => w env ds h F le (s.sub (hs.append (List.Sublist.refl _)))
section D2
variable {t : EL} {H : HL} {HH : List (Nat × HL)} {Q : EL → HL → Prop} {os : List DOper} {k : Nat} {g : Option (Nat × Bool)} {i bs : Nat}
theorem WD.st {n : Nat} {x y : AO} {id off : Nat} {cs cs' : List AV} {v : AV} {R : HL} (hg : wantedL g t = some true) (hx : gl t x = some (.ptr ⟨false, id, off⟩)) (hy : gl t y = some v) (tk : Tk H id (.row cs) R) (hn : v.cells.length = n) (hc : allCell v.cells = true)
  (hp : putN cs off v.cells = some cs') (w : WD B T os t ((id, .row cs') :: R) ((i, (id, .row cs') :: R) :: HH) Q) : WD B T (⟨⟨none, .store n x y, g⟩, .loud, i, bs⟩ :: os) t H HH Q := WD.loud hg (WOp.store hx hy tk hn hc (putN_eq hp) w)
theorem WD.alc {z : List AV} (hg : wantedL g t = some true) (hc : allCell z = true) (w : ∀ id, WD B T os ((k, .ptr ⟨false, id, 0⟩) :: t) ((id, .row z) :: H) HH Q) : WD B T (⟨⟨some k, .alloc z, g⟩, .quiet, i, bs⟩ :: os) t H HH Q :=
 WD.quiet hg (fun _ _ h => by cases h) (fun _ _ h => by cases h) (WOp.alloc hc w)
theorem WD.bsl {esz len : Nat} {z cs : List AV} {ps : List (Nat × Nat × AO)} (hg : wantedL g t = some true) (hx : fillN t z ps = some cs) (hc : allCell cs = true) (w : ∀ id, WD B T os ((k, .sl ⟨false, id, 0⟩ len esz) :: t) ((id, .row cs) :: H) HH Q) :
  WD B T (⟨⟨some k, .buildSl esz len z ps, g⟩, .quiet, i, bs⟩ :: os) t H HH Q := WD.quiet hg (fun _ _ h => by cases h) (fun _ _ h => by cases h) (WOp.buildSl (fillN_eq hx) hc w)
end D2
theorem takeN_of : ∀ {n : Nat} {l : List AV}, n ≤ l.length → takeN l n = some (l.take n) := by
 intro n
 induction n with
 | zero => intro l _; cases l <;> rfl
 | succ n ih => intro l h; cases l with
  | nil => simp at h
  | cons x l => simp only [takeN, ih (l := l) (by simpa using h), List.take_succ_cons]
theorem Ld.part {H : HL} {a : AA} {n : Nat} {l : List AV} (h : Ld B H a n l) (o m : Nat) (hm : o + m ≤ n) : Ld B H ⟨a.ro, a.id, a.off + o⟩ m ((l.drop o).take m) := by
 have key : ∀ {cs : List AV}, takeN (cs.drop a.off) n = some l → takeN (cs.drop (a.off + o)) m = some ((l.drop o).take m) := by
  intro cs hc
  obtain ⟨h1, _, h3, h4⟩ := takeN_some hc
  have hlen : n ≤ (cs.drop a.off).length := h3
  rw [takeN_of (by rw [List.length_drop] at hlen ⊢; omega), h4, List.drop_take, List.take_take, List.drop_drop]
  congr 2
  omega
 rcases h with ⟨h1, h2⟩ | ⟨h1, cs, R, h2, h3⟩
 ·exact .inl ⟨h1, key h2⟩
 ·exact .inr ⟨h1, cs, R, h2, key h3⟩
theorem Rel2.one {α : Type} {R : List AV → α → Prop} {c : List AV} {u : α} (h : R c u) : Rel2 R [c] [u] := ⟨rfl, fun i x y hx hy => by
 cases i with
 | zero => cases hx; cases hy; exact h
 | succ i => simp at hx⟩
end sl
end Go.Proofs.Ytdcbglljljfleaa.Abs
