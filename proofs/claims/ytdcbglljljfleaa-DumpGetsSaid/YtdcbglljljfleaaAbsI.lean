/- What a row's arguments are, for the evaluator: made out of the reading that the row's premise gives. -/
import Derived.Test.YtdcbglljljfleaaAbsK
import Derived.ChangeArms
import Derived.OpenShut
import Derived.SizedLaws
set_option linter.unusedSimpArgs false
set_option linter.unusedVariables false
set_option linter.unusedSectionVars false
set_option linter.constructorNameAsVariable false
namespace Go.Proofs.Ytdcbglljljfleaa.Abs
open Go.ChangeShapes Go.WideShapes Go.ChangeAt Go.RowKit
inductive Ty where
 | bool | int (k : IntKind) | str | sl (e esz : Nat) | st (fs : List (Nat × Nat × Nat)) | none
def tyOf (P : Program) (t : TypeId) : Ty :=
 match P.underlying t with
 | some .bool => .bool
 | some (.int k) => .int k
 | some .string => .str
 | some (.slice e) => .sl e (P.cellsOf e)
 | some (.struct fs) => .st (fs.toList.map fun f => (f.offset, P.cellsOf f.type, f.type))
 | some (.array n e) => .st ((List.range n).map fun i => (i * P.cellsOf e, P.cellsOf e, e))
 | _ => .none
def tiles : Nat → Nat → List (Nat × Nat × Nat) → Bool
 | o, n, [] => Nat.beq o n
 | o, n, f :: r => Nat.beq f.1 o && tiles (o + f.2.1) n r
def closedB (P : Program) (l : List Nat) : Bool := l.all fun t => match tyOf P t with
 | .none => false
 | .sl e esz => l.contains e && Nat.blt 0 esz
 | .st fs => fs.all (fun f => l.contains f.2.2) && tiles 0 (P.cellsOf t) fs
 | _ => true
def IsAll (I : Nat → List AV → Prop) : List (Nat × Nat × Nat) → List AV → Prop
 | [], cs => cs = []
 | f :: fs, cs => ∃ p r, cs = p ++ r ∧ p.length = f.2.1 ∧ I f.2.2 p ∧ IsAll I fs r
def Is (P : Program) (B : Nat → List AV) : Nat → Nat → List AV → Prop
 | 0, _, _ => False
 | n + 1, t, cs => match tyOf P t with
  | .bool => ∃ b, cs = [.bool b]
  | .int k => ∃ i, cs = [.int k i] ∧ k.min ≤ i ∧ i ≤ k.max
  | .str => ∃ s, cs = [.str s] ∧ (∀ b, b ∈ s → b < 256) ∧ s.length ≤ maxLen ∧ s.length ≤ reachBytes
  | .sl e esz => cs = [.nilsl] ∨ ∃ id len, cs = [.sl ⟨true, id, 0⟩ len esz] ∧ len ≤ maxLen ∧ len * P.bytesOf e ≤ reachBytes ∧ ∀ i, i < len → ∃ c, takeN ((B id).drop (i * esz)) esz = some c ∧ Is P B n e c
  | .st fs => IsAll (Is P B n) fs cs
  | .none => False
/-! ### The table of what is only read -/
abbrev TB := List (Addr × List AV)
def tB (tbl : TB) (id : Nat) : List AV := if id ≤ handleRow then [] else match tbl[id - (handleRow + 1)]? with | some p => p.2 | none => []
def tRo (P : Program) (tbl : TB) (id : Nat) : Addr := if id ≤ handleRow then ⟨P.globals.size, 0, none⟩ else match tbl[id - (handleRow + 1)]? with | some p => p.1 | none => ⟨0, 0, none⟩
def tSta (P : Program) (tbl : TB) : Sta := ⟨P, tB tbl, tRo P tbl, fun _ => undef⟩
theorem tB_at {tbl : TB} {p : Addr × List AV} {ext : TB} : tB (tbl ++ p :: ext) (handleRow + 1 + tbl.length) = p.2 := by
 unfold tB
 rw [if_neg (by omega), show handleRow + 1 + tbl.length - (handleRow + 1) = tbl.length by omega, List.getElem?_append_right (Nat.le_refl _)]
 simp
theorem tRo_at {P : Program} {tbl : TB} {p : Addr × List AV} {ext : TB} : tRo P (tbl ++ p :: ext) (handleRow + 1 + tbl.length) = p.1 := by
 unfold tRo
 rw [if_neg (by omega), show handleRow + 1 + tbl.length - (handleRow + 1) = tbl.length by omega, List.getElem?_append_right (Nat.le_refl _)]
 simp
structure RowOk (P : Program) (W : World) (tbl : TB) (p : Addr × List AV) : Prop where
 lt : p.2 ≠ [] → p.1.block < W.heap.size
 at_ : ∀ (j : Nat) v, p.2[j]? = some v → v.isCell = true ∧ ∃ x, W.cell? ⟨p.1.block, p.1.off + j, none⟩ = some x ∧ ∀ ext ρ, VR (tSta P (tbl ++ ext)) ρ v x
def TOk (P : Program) (W : World) (tbl : TB) : Prop := ∀ p, p ∈ tbl → RowOk P W tbl p
theorem RowOk.ext {P : Program} {W : World} {tbl : TB} {p : Addr × List AV} (h : RowOk P W tbl p) (e : TB) : RowOk P W (tbl ++ e) p :=
 ⟨h.lt, fun j v hv => let ⟨a, x, b, c⟩ := h.at_ j v hv; ⟨a, x, b, fun e2 ρ => by rw [List.append_assoc]; exact c _ ρ⟩⟩
theorem TOk.ro {P : Program} {W : World} {tbl : TB} (h : TOk P W tbl) : RoOk (tSta P tbl) W := by
 refine ⟨by simp [tSta, tRo], fun i hi => ?_, fun i j v hv => ?_⟩
 ·simp only [tSta, tB, tRo] at hi ⊢
  split at hi
  ·exact absurd rfl hi
  ·rename_i h1
   rw [if_neg h1]
   cases hg : tbl[i - (handleRow + 1)]? with
   | none => simp [hg] at hi
   | some p => simp only [hg] at hi ⊢; exact (h p (List.mem_of_getElem? hg)).lt hi
 ·simp only [tSta, tB, tRo] at hv ⊢
  split at hv
  ·cases hv
  ·rename_i h1
   rw [if_neg h1]
   cases hg : tbl[i - (handleRow + 1)]? with
   | none => simp [hg] at hv
   | some p =>
    simp only [hg] at hv ⊢
    obtain ⟨a, x, b, c⟩ := (h p (List.mem_of_getElem? hg)).at_ j v hv
    exact ⟨a, x, b, fun ρ => by have := c [] ρ; rw [List.append_nil] at this; exact this⟩
structure Fit (P : Program) (tbl : TB) (I : (Nat → List AV) → List AV → Prop) (cs : List Value) (as : List AV) : Prop where
 len : as.length = cs.length
 cell : ∀ v, v ∈ as → v.isCell = true
 vr : ∀ ext ρ, VRs (tSta P (tbl ++ ext)) ρ as cs
 is : ∀ ext, I (tB (tbl ++ ext)) as
theorem Fit.ext {P : Program} {tbl : TB} {I : (Nat → List AV) → List AV → Prop} {cs : List Value} {as : List AV} (h : Fit P tbl I cs as) (e : TB) : Fit P (tbl ++ e) I cs as :=
 ⟨h.len, h.cell, fun e2 ρ => by rw [List.append_assoc]; exact h.vr _ ρ, fun e2 => by rw [List.append_assoc]; exact h.is _⟩
theorem VRs.app {S : Sta} {ρ : Ren} : ∀ {a b : List AV} {c d : List Value}, VRs S ρ a c → VRs S ρ b d → VRs S ρ (a ++ b) (c ++ d) := by
 intro a
 induction a with
 | nil => intro b c d h k; cases c with
  | nil => exact k
  | cons _ _ => exact h.elim
 | cons x a ih => intro b c d h k; cases c with
  | nil => exact h.elim
  | cons y c => exact ⟨h.1, ih h.2 k⟩
def Reads (P : Program) (W : World) (I : (Nat → List AV) → List AV → Prop) (cs : List Value) : Prop :=
 ∀ tbl, TOk P W tbl → ∃ ext as, TOk P W (tbl ++ ext) ∧ Fit P (tbl ++ ext) I cs as
theorem Reads.plain {P : Program} {W : World} {I : (Nat → List AV) → List AV → Prop} {c : Value} {a : AV} (h1 : a.isCell = true) (h2 : ∀ S ρ, VR S ρ a c) (h3 : ∀ B, I B [a]) : Reads P W I [c] := fun tbl ht =>
 ⟨[], [a], by simpa using ht, rfl, by simpa using h1, fun ext ρ => ⟨h2 _ _, trivial⟩, fun ext => h3 _⟩
theorem tiles_mem {n : Nat} : ∀ {fs : List (Nat × Nat × Nat)} {o : Nat}, tiles o n fs = true → o ≤ n ∧ ∀ g, g ∈ fs → o ≤ g.1 ∧ g.1 + g.2.1 ≤ n := by
 intro fs
 induction fs with
 | nil =>
  intro o h
  have h0 : o = n := by simpa [tiles] using h
  exact ⟨by omega, fun g hg => by cases hg⟩
 | cons f fs ih =>
  intro o h
  simp only [tiles, Bool.and_eq_true] at h
  have h1 : f.1 = o := Nat.eq_of_beq_eq_true h.1
  obtain ⟨k1, k2⟩ := ih h.2
  refine ⟨by omega, fun g hg => ?_⟩
  rcases List.mem_cons.1 hg with rfl | hg
  ·omega
  ·have := k2 g hg; omega
theorem reads_fields {P : Program} {W : World} {I : (Nat → List AV) → Nat → List AV → Prop} {n : Nat} : ∀ {fs : List (Nat × Nat × Nat)} {o : Nat} {cs : List Value}, tiles o n fs = true → o + cs.length = n →
  (∀ (f : Nat × Nat × Nat), f ∈ fs → Reads P W (fun B => I B f.2.2) ((cs.drop (f.1 - o)).take f.2.1)) → Reads P W (fun B => IsAll (I B) fs) cs := by
 intro fs
 induction fs with
 | nil =>
  intro o cs ht hl _ tbl hok
  have h0 : o = n := by simpa [tiles] using ht
  have : cs = [] := List.eq_nil_of_length_eq_zero (by omega)
  subst this
  exact ⟨[], [], by simpa using hok, rfl, by simp, fun _ _ => trivial, fun _ => rfl⟩
 | cons f fs ih =>
  intro o cs ht hl hf tbl hok
  have hsz := ((tiles_mem ht).2 f (by simp)).2
  simp only [tiles, Bool.and_eq_true] at ht
  obtain ⟨h1, h2⟩ := ht
  have h1 : f.1 = o := Nat.eq_of_beq_eq_true h1
  have hr := hf f (by simp)
  rw [h1, Nat.sub_self, List.drop_zero] at hr
  obtain ⟨e1, a1, ok1, fit1⟩ := hr tbl hok
  obtain ⟨e2, a2, ok2, fit2⟩ := ih (o := o + f.2.1) (cs := cs.drop f.2.1) h2 (by rw [List.length_drop]; omega) (fun g hg => by
   have k2 := hf g (by simp [hg])
   have := ((tiles_mem h2).2 g hg).1
   rw [List.drop_drop, show f.2.1 + (g.1 - (o + f.2.1)) = g.1 - o by omega]; exact k2) _ ok1
  refine ⟨e1 ++ e2, a1 ++ a2, by rw [← List.append_assoc]; exact ok2, ?_⟩
  have fit1' := fit1.ext e2
  rw [← List.append_assoc]
  refine ⟨?_, ?_, fun ext ρ => ?_, fun ext => ?_⟩
  ·rw [List.length_append, fit1.len, fit2.len, List.length_take, List.length_drop]; omega
  ·intro v hv; rcases List.mem_append.1 hv with h | h
   ·exact fit1.cell v h
   ·exact fit2.cell v h
  ·have := VRs.app (fit1'.vr ext ρ) (fit2.vr ext ρ)
   rwa [List.take_append_drop] at this
  ·exact ⟨a1, a2, rfl, by rw [fit1.len, List.length_take]; omega, fit1'.is ext, fit2.is ext⟩
theorem add_none {a : Addr} (h : a.spot = none) (n : Nat) : a.add n = ⟨a.block, a.off + n, none⟩ := by
 cases a
 simp only at h
 subst h
 cases n <;> simp [Addr.add]
theorem spot_of {W : World} {a : Addr} {esz : Nat} {c : List Value} (hs : 0 < esz) (h : W.cells? 0 (a.add (0 * esz)) esz = some c) : a.spot = none := by
 simp only [World.cells?, Nat.zero_le, if_true] at h
 have h1 : c.length = esz := by simpa using mapM_some_length h
 have h0 := mapM_some_get h 0 0 (by simp [hs])
 rw [List.getElem?_eq_getElem (by omega)] at h0
 unfold World.cell? at h0
 split at h0
 ·split at h0
  ·cases h0
  ·rename_i hsn; simpa [Addr.add] using hsn
 ·cases h0
theorem reads_elems {P : Program} {W : World} {I : (Nat → List AV) → List AV → Prop} {a : Addr} {esz : Nat} (hs : 0 < esz) (hsp : a.spot = none) : ∀ (k i : Nat),
  (∀ j, i ≤ j → j < i + k → ∃ c, W.cells? 0 (a.add (j * esz)) esz = some c ∧ Reads P W I c) → ∀ tbl, TOk P W tbl → ∃ (ext : TB) (row : List AV), TOk P W (tbl ++ ext) ∧ row.length = k * esz ∧
   (∀ (j : Nat) v, row[j]? = some v → v.isCell = true ∧ ∃ x, W.cell? ⟨a.block, a.off + i * esz + j, none⟩ = some x ∧ ∀ ext2 ρ, VR (tSta P (tbl ++ ext ++ ext2)) ρ v x) ∧
   ∀ j, j < k → ∃ c, takeN (row.drop (j * esz)) esz = some c ∧ ∀ ext2, I (tB (tbl ++ ext ++ ext2)) c := by
 intro k
 induction k with
 | zero => intro i _ tbl ok; exact ⟨[], [], by simpa using ok, by simp, by simp, by simp⟩
 | succ k ih =>
  intro i h tbl ok
  obtain ⟨c, hc, hr⟩ := h i (Nat.le_refl _) (by omega)
  obtain ⟨e1, a1, ok1, fit1⟩ := hr tbl ok
  obtain ⟨e2, row, ok2, hl2, hat2, hel2⟩ := ih (i + 1) (fun j h1 h2 => h j (by omega) (by omega)) _ ok1
  have hcl : c.length = esz ∧ ∀ j, j < esz → W.cell? ⟨a.block, a.off + i * esz + j, none⟩ = c[j]? := by
   simp only [World.cells?, Nat.zero_le, if_true] at hc
   refine ⟨by simpa using mapM_some_length hc, fun j hj => ?_⟩
   have := mapM_some_get hc j j (by simp [hj])
   rw [add_none hsp, add_none rfl] at this
   exact this
  have al : a1.length = esz := by rw [fit1.len, hcl.1]
  refine ⟨e1 ++ e2, a1 ++ row, by rw [← List.append_assoc]; exact ok2, by rw [List.length_append, al, hl2, Nat.succ_mul, Nat.add_comm], fun j v hv => ?_, fun j hj => ?_⟩
  ·rcases Nat.lt_or_ge j esz with h1 | h1
   ·rw [List.getElem?_append_left (by omega)] at hv
    refine ⟨fit1.cell v (List.mem_of_getElem? hv), ?_⟩
    have hx : ∃ x, c[j]? = some x := ⟨c[j], List.getElem?_eq_getElem (by omega)⟩
    obtain ⟨x, hx⟩ := hx
    refine ⟨x, by rw [hcl.2 j h1, hx], fun ext2 ρ => ?_⟩
    obtain ⟨x', h2, h3⟩ := (VRs.iff.1 (fit1.vr (e2 ++ ext2) ρ)).2 j v hv
    rw [hx] at h2; cases h2
    simpa [List.append_assoc] using h3
   ·rw [List.getElem?_append_right (by omega), al] at hv
    obtain ⟨k1, x, k2, k3⟩ := hat2 _ v hv
    refine ⟨k1, x, ?_, fun ext2 ρ => by simpa [List.append_assoc] using k3 ext2 ρ⟩
    have : a.off + (i + 1) * esz + (j - esz) = a.off + i * esz + j := by rw [Nat.succ_mul]; omega
    rw [this] at k2; exact k2
  ·cases j with
   | zero =>
    refine ⟨a1, ?_, fun ext2 => by simpa [List.append_assoc] using fit1.is (e2 ++ ext2)⟩
    have tk : ∀ (l r : List AV), takeN (l ++ r) l.length = some l := by
     intro l
     induction l with
     | nil => intro r; cases r <;> rfl
     | cons x l ih => intro r; simp only [List.cons_append, List.length_cons, takeN, ih]
    have := tk a1 row
    rw [al] at this
    simpa using this
   | succ j =>
    obtain ⟨c', k1, k2⟩ := hel2 j (by omega)
    refine ⟨c', ?_, fun ext2 => by simpa [List.append_assoc] using k2 ext2⟩
    rw [← k1]
    congr 1
    rw [List.drop_append]
    rw [List.drop_eq_nil_of_le (by rw [al, Nat.succ_mul]; omega), List.nil_append, al]
    congr 1
    rw [Nat.succ_mul]; omega
theorem weights_mem_all {H : Type} {P : Program} {e : TypeId} {w : Nat} {y : DataW H} : ∀ {ds : List (DataW H)}, y ∈ ds → w ∈ y.weights P e → w ∈ DataW.weightsAll P e ds := by
 intro ds
 induction ds with
 | nil => intro h; cases h
 | cons d ds ih =>
  intro h hw
  simp only [DataW.weightsAll, List.mem_append]
  rcases List.mem_cons.1 h with rfl | h
  ·exact .inl hw
  ·exact .inr (ih h hw)
theorem reads_trod {H : Type} {enc : TypeId × Value → H} {P : Program} {W : World} {l : List Nat} (hcl : closedB P l = true) : ∀ (n : Nat) (t : TypeId) (cs : List Value) (x : DataW H × List MemPlace), t ∈ l →
  DataW.trod enc P W 0 (fun _ => true) true n t cs = some x → (∀ w, w ∈ x.1.weights P t → w ≤ reachBytes) → Reads P W (fun B => Is P B n t) cs := by
 intro n
 induction n with
 | zero => intro t cs x _ h _; simp [DataW.trod] at h
 | succ n ih =>
  intro t cs x ht h hwt
  have hct := List.all_eq_true.1 hcl t ht
  unfold tyOf at hct
  cases hu : P.underlying t with
  | none => simp [hu] at hct
  | some d =>
   have hI : ∀ B, Is P B (n + 1) t = fun cs => match tyOf P t with
    | .bool => ∃ b, cs = [.bool b]
    | .int k => ∃ i, cs = [.int k i] ∧ k.min ≤ i ∧ i ≤ k.max
    | .str => ∃ s, cs = [.str s] ∧ (∀ b, b ∈ s → b < 256) ∧ s.length ≤ maxLen ∧ s.length ≤ reachBytes
    | .sl e esz => cs = [.nilsl] ∨ ∃ id len, cs = [.sl ⟨true, id, 0⟩ len esz] ∧ len ≤ maxLen ∧ len * P.bytesOf e ≤ reachBytes ∧ ∀ i, i < len → ∃ c, takeN ((B id).drop (i * esz)) esz = some c ∧ Is P B n e c
    | .st fs => IsAll (Is P B n) fs cs
    | .none => False := fun B => rfl
   simp only [hI]
   simp only [hu] at hct
   cases d <;> simp only [Bool.false_eq_true] at hct <;> simp only [tyOf, hu]
   case bool =>
    obtain ⟨b, rfl, _⟩ := DataW.trod_bool hu h
    exact Reads.plain (a := .bool b) rfl (fun S ρ => rfl) (fun B => ⟨b, rfl⟩)
   case int k =>
    obtain ⟨i, rfl, _, hw⟩ := DataW.trod_int hu h
    refine Reads.plain (a := .int k i) rfl (fun S ρ => rfl) (fun B => ⟨i, rfl, ?_⟩)
    simpa [Lit.wf, Go.IntKind.has] using hw
   case string =>
    obtain ⟨s, rfl, rfl, hs⟩ := DataW.trod_string hu h
    have hwt := hwt s.data.toList.length (by simp [DataW.weights])
    refine Reads.plain (a := .str (byteL s.data.toList)) rfl (fun S ρ => ⟨s, rfl, rfl⟩) (fun B => ⟨_, rfl, ?_, ?_⟩)
    ·intro b hb
     have : ∀ (l : List UInt8) b, b ∈ byteL l → b < 256 := by
      intro l
      induction l with
      | nil => intro b hb; cases hb
      | cons x l ih =>
       intro b hb
       simp only [byteL, List.mem_cons] at hb
       rcases hb with rfl | hb
       ·exact x.toNat_lt
       ·exact ih b hb
     exact this _ b hb
    ·have : ∀ (l : List UInt8), (byteL l).length = l.length := by
      intro l
      induction l with
      | nil => rfl
      | cons x l ih => simp [byteL, ih]
     rw [this]; exact ⟨hs, hwt⟩
   case slice e =>
    simp only [Bool.and_eq_true] at hct
    obtain ⟨he, hsz⟩ := hct
    have hsz : 0 < P.cellsOf e := by simpa [Nat.blt_eq] using hsz
    have he : e ∈ l := by simpa using he
    rcases DataW.trod_slice hu h with ⟨rfl, _⟩ | ⟨a, len, cap, elems, rest, m, hm, rfl, rfl, _, hlc, hcap, hlen, hel, hrest, _⟩
    ·exact Reads.plain (a := .nilsl) rfl (fun S ρ => rfl) (fun B => .inl rfl)
    ·cases hm
     have hbytes : len * P.bytesOf e ≤ reachBytes := by
      have h1 := hwt ((elems.length + rest.length) * P.bytesOf e) (by simp [DataW.weights, hu])
      rw [← hlen]
      exact Nat.le_trans (Nat.mul_le_mul_right _ (Nat.le_add_right _ _)) h1
     have hel2 : ∀ y, y ∈ elems → ∀ w, w ∈ y.1.weights P e → w ≤ reachBytes := by
      intro y hy w hw
      refine hwt w ?_
      simp only [DataW.weights, hu, List.mem_cons, List.mem_append]
      exact .inr (.inl (weights_mem_all (List.mem_map_of_mem (f := (·.1)) hy) hw))
     have hfor : ∀ j, j < len → ∃ c, W.cells? 0 (a.add (j * P.cellsOf e)) (P.cellsOf e) = some c ∧ Reads P W (fun B => Is P B n e) c := by
      intro j hj
      have := hel j hj
      rw [List.getElem?_eq_getElem (by omega)] at this
      simp only [Option.bind_eq_some_iff] at this
      obtain ⟨c, h1, h2⟩ := this
      exact ⟨c, h1, ih e c _ he h2 (hel2 _ (List.getElem_mem _))⟩
     have hrs := hrest rfl
     have hspot : cap = 0 ∨ a.spot = none := by
      rcases Nat.eq_zero_or_pos cap with h0 | h0
      ·exact .inl h0
      ·right
       rcases Nat.eq_zero_or_pos len with h1 | h1
       ·have := hrs.2 0 (by omega)
        rw [List.getElem?_eq_getElem (by have := hrs.1; omega)] at this
        simp only [Option.bind_eq_some_iff] at this
        obtain ⟨c, k1, k2⟩ := this
        subst h1
        exact spot_of hsz k1
       ·obtain ⟨c, k1, _⟩ := hfor 0 h1
        exact spot_of hsz k1
     have hspot' : len = 0 ∨ a.spot = none := hspot.imp (fun h => by omega) id
     intro tbl ok
     obtain ⟨ext, row, ok1, hrl, hat, helem⟩ : ∃ (ext : TB) (row : List AV), TOk P W (tbl ++ ext) ∧ row.length = len * P.cellsOf e ∧
       (∀ (j : Nat) v, row[j]? = some v → v.isCell = true ∧ ∃ x, W.cell? ⟨a.block, a.off + j, none⟩ = some x ∧ ∀ ext2 ρ, VR (tSta P (tbl ++ ext ++ ext2)) ρ v x) ∧
       ∀ j, j < len → ∃ c, takeN (row.drop (j * P.cellsOf e)) (P.cellsOf e) = some c ∧ ∀ ext2, Is P (tB (tbl ++ ext ++ ext2)) n e c := by
      rcases hspot' with h0 | h0
      ·subst h0; exact ⟨[], [], by simpa using ok, by simp, by simp, by simp⟩
      ·obtain ⟨ext, row, k1, k2, k3, k4⟩ := reads_elems (I := fun B => Is P B n e) hsz h0 len 0 (fun j _ hj => hfor j (by omega)) tbl ok
       exact ⟨ext, row, k1, k2, fun j v hv => by simpa using k3 j v hv, k4⟩
     refine ⟨ext ++ [(⟨a.block, a.off, none⟩, row)], [.sl ⟨true, handleRow + 1 + (tbl ++ ext).length, 0⟩ len (P.cellsOf e)], ?_, rfl, by simp [AV.isCell], fun ext2 ρ => ⟨?_, trivial⟩, fun ext2 => .inr ⟨_, _, rfl, by omega, hbytes, fun i hi => ?_⟩⟩
     ·intro p hp
      rw [← List.append_assoc] at hp ⊢
      rcases List.mem_append.1 hp with hp | hp
      ·exact (ok1 p hp).ext _
      ·obtain rfl : p = (⟨a.block, a.off, none⟩, row) := by simpa using hp
       refine ⟨fun hne => ?_, fun j v hv => ?_⟩
       ·have hlt : 0 < row.length := List.length_pos_iff.2 hne
        obtain ⟨_, x, k2, _⟩ := hat 0 row[0] (List.getElem?_eq_getElem hlt)
        unfold World.cell? at k2
        split at k2
        ·rename_i hh; exact (Array.getElem?_eq_some_iff.1 hh).1
        ·cases k2
       ·obtain ⟨k1, x, k2, k3⟩ := hat j v hv
        refine ⟨k1, x, k2, fun e2 ρ => by simpa using k3 ((⟨a.block, a.off, none⟩, row) :: e2) ρ⟩
     ·refine ⟨a, cap, rfl, ?_⟩
      rcases hspot with h0 | h0
      ·exact .inl ⟨by omega, h0⟩
      ·refine .inr ⟨?_, hlc, by simp⟩
       have := tRo_at (P := P) (tbl := tbl ++ ext) (p := (⟨a.block, a.off, none⟩, row)) (ext := ext2)
       simp only [AddrR, tSta]
       have e3 : tbl ++ (ext ++ [(⟨a.block, a.off, none⟩, row)]) ++ ext2 = (tbl ++ ext) ++ (⟨a.block, a.off, none⟩, row) :: ext2 := by simp
       rw [e3, this]
       simp only [Nat.add_zero]
       cases a; simp only at h0; subst h0; rfl
     ·obtain ⟨c, k1, k2⟩ := helem i hi
      refine ⟨c, ?_, by simpa using k2 ((⟨a.block, a.off, none⟩, row) :: ext2)⟩
      have e3 : tbl ++ (ext ++ [(⟨a.block, a.off, none⟩, row)]) ++ ext2 = (tbl ++ ext) ++ (⟨a.block, a.off, none⟩, row) :: ext2 := by simp
      rw [e3, tB_at]; exact k1
   case struct fs =>
    obtain ⟨xs, m, hm, rfl, hl, hxl, hf⟩ := DataW.trod_struct hu h
    cases hm
    simp only [Bool.and_eq_true] at hct
    obtain ⟨hall, htl⟩ := hct
    refine reads_fields (n := P.cellsOf t) htl (by omega) fun f hfm => ?_
    obtain ⟨g, hg, rfl⟩ := List.mem_map.1 hfm
    obtain ⟨i, hi, hgi⟩ := List.getElem_of_mem hg
    have hin : i < xs.length := by rw [hxl]; simpa using hi
    have h1 := hf i g (by rw [← hgi]; simp at hi ⊢)
    rw [List.getElem?_eq_getElem hin] at h1
    have h2 := ih g.type _ _ (by simpa using List.all_eq_true.1 hall _ hfm) h1 (fun w hw => by
     refine hwt w ?_
     simp only [DataW.weights, hu]
     exact DataW.weights_mem_each (j := i) (t := g.type) (d := xs[i].1) (by rw [List.getElem?_map, List.getElem?_eq_getElem hi, hgi]; rfl) (by rw [List.getElem?_map, List.getElem?_eq_getElem hin]; rfl) _ hw)
    simpa using h2
   case array len e =>
    obtain ⟨xs, m, hm, rfl, hl, hxl, hf⟩ := DataW.trod_array hu h
    cases hm
    simp only [Bool.and_eq_true] at hct
    obtain ⟨hall, htl⟩ := hct
    refine reads_fields (n := P.cellsOf t) htl (by omega) fun f hfm => ?_
    obtain ⟨i, hi, rfl⟩ := List.mem_map.1 hfm
    have hi' : i < len := by simpa using hi
    have h1 := hf i hi'
    rw [List.getElem?_eq_getElem (by omega)] at h1
    have h2 := ih e _ _ (by simpa using List.all_eq_true.1 hall _ hfm) h1 (fun w hw => by
     refine hwt w ?_
     simp only [DataW.weights, hu]
     have hin : i < xs.length := by omega
     exact weights_mem_all (List.mem_map_of_mem (f := fun z : DataW H × List MemPlace => z.1) (List.getElem_mem hin)) hw)
    simpa using h2
end Go.Proofs.Ytdcbglljljfleaa.Abs
