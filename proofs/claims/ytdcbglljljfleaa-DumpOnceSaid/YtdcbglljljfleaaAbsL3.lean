/- The logic: steps, as they are taken one by one. -/
import Derived.Test.YtdcbglljljfleaaAbsL2
import Derived.Laws.Bits64
import Derived.Laws.BitsLemmas
import Derived.Laws.BitsAllLaws
set_option linter.unusedSimpArgs false
set_option linter.unusedVariables false
set_option linter.unusedSectionVars false
set_option linter.constructorNameAsVariable false
namespace Go.Proofs.Ytdcbglljljfleaa.Abs
def fillN (l : EL) (cs : List AV) (ps : List (Nat × Nat × AO)) : Option (List AV) :=
 match fillL l cs ps with
 | some r => forceL r some
 | none => none
def putN (cs : List AV) (off : Nat) (vs : List AV) : Option (List AV) :=
 match putAt cs off vs with
 | some r => forceL r some
 | none => none
theorem fillN_eq {l : EL} {cs r : List AV} {ps : List (Nat × Nat × AO)} (h : fillN l cs ps = some r) : fillL l cs ps = some r := by
 unfold fillN at h
 split at h
 ·rename_i e; simp only [forceL_eq] at h; rw [e]; exact h
 ·cases h
theorem putN_eq {cs r vs : List AV} {off : Nat} (h : putN cs off vs = some r) : putAt cs off vs = some r := by
 unfold putN at h
 split at h
 ·rename_i e; simp only [forceL_eq] at h; rw [e]; exact h
 ·cases h
section logic
variable {B : Nat → List AV} {T : Tr FnI} {t : EL} {H : HL} {Q : EL → HL → Prop} {os : List AOper} {k : Nat}
theorem WOps.pur {op : AOp} {v : AV} (e : ∀ h, aopL B op t h = .val v h) (w : WOps B T os ((k, v) :: t) H Q) : WOps B T (⟨some k, op, none⟩ :: os) t H Q := WOps.cons (WOp.pure e w)
theorem WOps.purG {op : AOp} {v : AV} {g : Option (Nat × Bool)} (hg : wantedL g t = some true) (e : ∀ h, aopL B op t h = .val v h) (w : WOps B T os ((k, v) :: t) H Q) : WOps B T (⟨some k, op, g⟩ :: os) t H Q := WOps.go hg (WOp.pure e w)
theorem WOps.skp {op : AOp} {g : Option (Nat × Bool)} (hg : wantedL g t = some false) (w : WOps B T os ((k, .undef) :: t) H Q) : WOps B T (⟨some k, op, g⟩ :: os) t H Q := WOps.skip hg w
theorem Le.alias {l : EL} {env : Tr AV} (h : Le l env) {j : Nat} {v : AV} (hj : look l j = some v) : Le ((j, v) :: l) env := by
 intro i u hi
 simp only [look] at hi
 cases hb : Nat.beq j i with
 | true => simp only [hb] at hi; cases hi; rw [← Nat.eq_of_beq_eq_true hb]; exact h j v hj
 | false => simp only [hb] at hi; exact h i u hi
theorem WOps.ask {d : Option Nat} {op : AOp} {j : Nat} {want b : Bool} (hb : look t j = some (.bool b)) (w1 : b = true → WOps B T (⟨d, op, some (j, want)⟩ :: os) ((j, .bool true) :: t) H Q)
  (w2 : b = false → WOps B T (⟨d, op, some (j, want)⟩ :: os) ((j, .bool false) :: t) H Q) : WOps B T (⟨d, op, some (j, want)⟩ :: os) t H Q := by
 intro env h F le s
 cases b with
 | true => exact w1 rfl env h F (le.alias hb) s
 | false => exact w2 rfl env h F (le.alias hb) s
theorem WOps.sub {t' : EL} (s : Sub1 t' t) (w : WOps B T os t' H Q) : WOps B T os t H Q := fun env h F le sp => w env h F (s.le le) sp
def cmpP : BinOp → Int → Int → Prop
 | .lss, a, b => a < b
 | .leq, a, b => a ≤ b
 | .gtr, a, b => b < a
 | .geq, a, b => b ≤ a
 | .eql, a, b => a = b
 | .neq, a, b => ¬ a = b
 | _, _, _ => False
def isCmp : BinOp → Bool
 | .lss | .leq | .gtr | .geq | .eql | .neq => true
 | _ => false
theorem aBin_cmp {op : BinOp} {ki : IntKind} {a b : Int} (h : isCmp op = true) : ∃ v : Bool, (v = true ↔ cmpP op a b) ∧ aBin op (.int ki a) (.int ki b) = some (.bool v) := by
 cases op <;> first | cases h | skip
 all_goals simp only [aBin, if_true]
 all_goals refine ⟨_, ?_, rfl⟩
 all_goals simp [cmpP]
def cmpS : BinOp → List Nat → List Nat → Prop
 | .lss, a, b => strLess a b = true
 | .leq, a, b => strLess a b = true ∨ a = b
 | .gtr, a, b => ¬ (strLess a b = true ∨ a = b)
 | .geq, a, b => ¬ strLess a b = true
 | .eql, a, b => a = b
 | .neq, a, b => ¬ a = b
 | _, _, _ => False
theorem strEqL_iff : ∀ {a b : List Nat}, strEq a b = true ↔ a = b := by
 intro a
 induction a with
 | nil => intro b; cases b <;> simp [strEq]
 | cons x a ih =>
  intro b
  cases b with
  | nil => simp [strEq]
  | cons y b =>
   simp only [strEq]
   cases h : Nat.beq x y with
   | true => have := Nat.eq_of_beq_eq_true h; subst this; simp [ih]
   | false => have := beq_f h; simp [this]
theorem aBin_cmpS {op : BinOp} {a b : List Nat} (h : isCmp op = true) : ∃ v : Bool, (v = true ↔ cmpS op a b) ∧ aBin op (.str a) (.str b) = some (.bool v) := by
 cases op <;> first | cases h | skip
 all_goals refine ⟨_, ?_, rfl⟩
 all_goals simp [cmpS, strEqL_iff, ← strEqL_iff]
theorem WOps.cmp {op : BinOp} {x y : AO} {ki : IntKind} {a b : Int} {g : Option (Nat × Bool)} (hc : isCmp op = true) (hg : wantedL g t = some true) (hx : gl t x = some (.int ki a)) (hy : gl t y = some (.int ki b))
  (w : ∀ v : Bool, (v = true ↔ cmpP op a b) → WOps B T os ((k, .bool v) :: t) H Q) : WOps B T (⟨some k, .bin op x y, g⟩ :: os) t H Q := by
 obtain ⟨v, h1, h2⟩ := aBin_cmp (ki := ki) (a := a) (b := b) hc
 exact WOps.purG hg (fun h => by simp [aopL, hx, hy, h2, pure1]) (w v h1)
theorem WOps.cmpT {op : BinOp} {x y : AO} {a b : List Nat} {g : Option (Nat × Bool)} (hc : isCmp op = true) (hg : wantedL g t = some true) (hx : gl t x = some (.str a)) (hy : gl t y = some (.str b))
  (w : ∀ v : Bool, (v = true ↔ cmpS op a b) → WOps B T os ((k, .bool v) :: t) H Q) : WOps B T (⟨some k, .bin op x y, g⟩ :: os) t H Q := by
 obtain ⟨v, h1, h2⟩ := aBin_cmpS (a := a) (b := b) hc
 exact WOps.purG hg (fun h => by simp [aopL, hx, hy, h2, pure1]) (w v h1)
theorem WOps.ld {agg : Bool} {n : Nat} {x : AO} {a : AA} {l : List AV} {v : AV} (hx : gl t x = some (.ptr a)) (hl : Ld B H a n l) (hv : one agg l = some v) (w : WOps B T os ((k, v) :: t) H Q) :
  WOps B T (⟨some k, .load agg n x, none⟩ :: os) t H Q := WOps.cons (WOp.load hx hl hv w)
theorem WOps.ldG {agg : Bool} {n : Nat} {x : AO} {a : AA} {l : List AV} {v : AV} {g : Option (Nat × Bool)} (hg : wantedL g t = some true) (hx : gl t x = some (.ptr a)) (hl : Ld B H a n l) (hv : one agg l = some v) (w : WOps B T os ((k, v) :: t) H Q) :
  WOps B T (⟨some k, .load agg n x, g⟩ :: os) t H Q := WOps.go hg (WOp.load hx hl hv w)
theorem WOps.st {n : Nat} {x y : AO} {id off : Nat} {cs cs' : List AV} {v : AV} {R : HL} (hx : gl t x = some (.ptr ⟨false, id, off⟩)) (hy : gl t y = some v) (tk : Tk H id (.row cs) R) (hn : v.cells.length = n) (hc : allCell v.cells = true)
  (hp : putN cs off v.cells = some cs') (w : WOps B T os t ((id, .row cs') :: R) Q) : WOps B T (⟨none, .store n x y, none⟩ :: os) t H Q := WOps.cons (WOp.store hx hy tk hn hc (putN_eq hp) w)
theorem WOps.alc {z : List AV} (hc : allCell z = true) (w : ∀ id, WOps B T os ((k, .ptr ⟨false, id, 0⟩) :: t) ((id, .row z) :: H) Q) : WOps B T (⟨some k, .alloc z, none⟩ :: os) t H Q := WOps.cons (WOp.alloc hc w)
theorem WOps.bx {x : AO} {v : AV} {cs : List AV} (hx : gl t x = some v) (he : v.cells = cs) (hc : allCell cs = true) (w : ∀ id, WOps B T os ((k, .ptr ⟨false, id, 0⟩) :: t) ((id, .row cs) :: H) Q) : WOps B T (⟨some k, .box x, none⟩ :: os) t H Q :=
 WOps.cons (by subst he; exact WOp.box hx hc w)
theorem WOps.bsl {esz len : Nat} {z cs : List AV} {ps : List (Nat × Nat × AO)} (hx : fillN t z ps = some cs) (hc : allCell cs = true) (w : ∀ id, WOps B T os ((k, .sl ⟨false, id, 0⟩ len esz) :: t) ((id, .row cs) :: H) Q) :
  WOps B T (⟨some k, .buildSl esz len z ps, none⟩ :: os) t H Q := WOps.cons (WOp.buildSl (fillN_eq hx) hc w)
theorem WOps.bld {z cs : List AV} {ps : List (Nat × Nat × AO)} (hx : fillL t z ps = some cs) (w : WOps B T os ((k, .agg cs) :: t) H Q) : WOps B T (⟨some k, .build z ps, none⟩ :: os) t H Q := WOps.cons (WOp.build hx w)
theorem WOps.cl {f : Nat} {args : List AO} {vs : List AV} {H1 R : HL} {P : AV → HL → Prop} (ha : gls t args = some vs) (f1 : WF B T (.func f) vs H1 P) (sp : Sp H H1 R) (w : ∀ v H', P v H' → WOps B T os ((k, v) :: t) (H' ++ R) Q) :
  WOps B T (⟨some k, .call f args, none⟩ :: os) t H Q := WOps.cons (WOp.call ha f1 sp w)
/-! #### Indexes -/
theorem asIdx_of {k : IntKind} {m n : Nat} (h : m < n) : asIdx (.int k (.ofNat m)) n = some m := by
 have h' : Nat.blt m n = true := by simpa [Nat.blt_eq] using h
 simp [asIdx, h']
theorem asBound_of {k : IntKind} {m n : Nat} (h : m ≤ n) : asBound (.int k (.ofNat m)) n = some m := by
 have h' : Nat.ble m n = true := Nat.ble_eq_true_of_le h
 simp [asBound, h']
theorem WOps.ixA {len esz : Nat} {x i : AO} {a : AA} {m : Nat} {ki : IntKind} (hx : gl t x = some (.ptr a)) (hi : gl t i = some (.int ki (.ofNat m))) (hm : m < len) (w : WOps B T os ((k, .ptr ⟨a.ro, a.id, a.off + m * esz⟩) :: t) H Q) :
  WOps B T (⟨some k, .idxA len esz x i, none⟩ :: os) t H Q := WOps.cons (WOp.pure (fun h => by simp only [aopL, hx, hi, asIdx_of hm, Nat.beq_refl]) w)
theorem WOps.bn {op : BinOp} {x y : AO} {a b v : AV} (hx : gl t x = some a) (hy : gl t y = some b) (e : aBin op a b = some v) (w : WOps B T os ((k, v) :: t) H Q) : WOps B T (⟨some k, .bin op x y, none⟩ :: os) t H Q :=
 WOps.cons (WOp.pure (fun h => by simp [aopL, hx, hy, e, pure1]) w)
theorem wrap_i64 {n : Int} (h1 : -9223372036854775808 ≤ n) (h2 : n ≤ 9223372036854775807) : IntKind.i64.wrap n = n := by rw [IntKind.wrap_i64]; omega
end logic
section code
variable {B : Nat → List AV} {T : Tr FnI} {nt : Nat} {rdn : Option Nat} {t : EL} {H : HL} {Q : AExit → EL → HL → Prop}
theorem WC.condA {n : Nat} {a b : AC} {v : Bool} (hc : look t n = some (.bool v)) (wa : v = true → WC B T nt rdn a ((n, .bool true) :: t) H Q) (wb : v = false → WC B T nt rdn b ((n, .bool false) :: t) H Q) : WC B T nt rdn (.cond (.t n) a b) t H Q := by
 refine WC.cond hc (fun e => ?_) (fun e => ?_)
 ·intro env ds h F le s; subst e; exact wa rfl env ds h F (le.alias hc) s
 ·intro env ds h F le s; subst e; exact wb rfl env ds h F (le.alias hc) s
theorem WC.condT {c : AO} {a b : AC} (hc : gl t c = some (.bool true)) (w : WC B T nt rdn a t H Q) : WC B T nt rdn (.cond c a b) t H Q := WC.cond hc (fun _ => w) (fun e => by cases e)
theorem WC.condF {c : AO} {a b : AC} (hc : gl t c = some (.bool false)) (w : WC B T nt rdn b t H Q) : WC B T nt rdn (.cond c a b) t H Q := WC.cond hc (fun e => by cases e) (fun _ => w)
end code
section D
variable {B : Nat → List AV} {T : Tr FnI} {t : EL} {H : HL} {HH : List (Nat × HL)} {Q : EL → HL → Prop} {os : List DOper} {k : Nat} {g : Option (Nat × Bool)} {i bs : Nat}
theorem WD.pur {op : AOp} {v : AV} (hg : wantedL g t = some true) (e : ∀ h, aopL B op t h = .val v h) (w : WD B T os ((k, v) :: t) H HH Q) : WD B T (⟨⟨some k, op, g⟩, .quiet, i, bs⟩ :: os) t H HH Q :=
 WD.quiet hg (fun f a h => by subst h; have := e ⟨.e, 0⟩; cases this) (fun f a h => by subst h; have := e ⟨.e, 0⟩; cases this) (WOp.pure e w)
theorem WD.cmp {op : BinOp} {x y : AO} {ki : IntKind} {a b : Int} (hc : isCmp op = true) (hg : wantedL g t = some true) (hx : gl t x = some (.int ki a)) (hy : gl t y = some (.int ki b))
  (w : ∀ v : Bool, (v = true ↔ cmpP op a b) → WD B T os ((k, .bool v) :: t) H HH Q) : WD B T (⟨⟨some k, .bin op x y, g⟩, .quiet, i, bs⟩ :: os) t H HH Q := by
 obtain ⟨v, h1, h2⟩ := aBin_cmp (ki := ki) (a := a) (b := b) hc
 exact WD.pur hg (fun h => by simp [aopL, hx, hy, h2, pure1]) (w v h1)
theorem WD.cmpT {op : BinOp} {x y : AO} {a b : List Nat} (hc : isCmp op = true) (hg : wantedL g t = some true) (hx : gl t x = some (.str a)) (hy : gl t y = some (.str b))
  (w : ∀ v : Bool, (v = true ↔ cmpS op a b) → WD B T os ((k, .bool v) :: t) H HH Q) : WD B T (⟨⟨some k, .bin op x y, g⟩, .quiet, i, bs⟩ :: os) t H HH Q := by
 obtain ⟨v, h1, h2⟩ := aBin_cmpS (a := a) (b := b) hc
 exact WD.pur hg (fun h => by simp [aopL, hx, hy, h2, pure1]) (w v h1)
theorem WD.bn {op : BinOp} {x y : AO} {a b v : AV} (hg : wantedL g t = some true) (hx : gl t x = some a) (hy : gl t y = some b) (e : aBin op a b = some v) (w : WD B T os ((k, v) :: t) H HH Q) : WD B T (⟨⟨some k, .bin op x y, g⟩, .quiet, i, bs⟩ :: os) t H HH Q :=
 WD.pur hg (fun h => by simp [aopL, hx, hy, e, pure1]) w
theorem WD.skp {op : AOp} (hg : wantedL g t = some false) (w : WD B T os ((k, .undef) :: t) H HH Q) : WD B T (⟨⟨some k, op, g⟩, .quiet, i, bs⟩ :: os) t H HH Q := WD.skip hg w
theorem rd_ld {agg : Bool} {n : Nat} {x : AO} {a : AA} {l : List AV} {v : AV} (hx : gl t x = some (.ptr a)) (hl : Ld B H a n l) (hv : one agg l = some v) : Rd B (.load agg n x) t H v :=
 fun env h F le s => ⟨h, by simp only [aop, rd_mono le hx, ldVar, hl.cells s, hv, pure1]⟩
theorem at1 {op : AOp} {v : AV} {j : Nat} {r : List (Nat × HL)} (h : Rd B op t H v) (hb : Nat.testBit bs j = true) : At B op t v bs ((j, H) :: r) := ⟨h, by rw [hb]; trivial⟩
theorem at2 {op : AOp} {v : AV} {j : Nat} {r : List (Nat × HL)} (h : Rd B op t H v) (hs : Same B op t v bs r) : At B op t v bs ((j, H) :: r) := ⟨h, by cases Nat.testBit bs j <;> first | trivial | exact hs⟩
theorem same0 {op : AOp} {v : AV} : Same B op t v bs [] := trivial
theorem same1 {op : AOp} {v : AV} {j : Nat} {r : List (Nat × HL)} (h : Rd B op t H v) (hb : Nat.testBit bs j = true) : Same B op t v bs ((j, H) :: r) := ⟨h, by rw [hb]; trivial⟩
theorem same2 {op : AOp} {v : AV} {j : Nat} {r : List (Nat × HL)} (h : Rd B op t H v) (hs : Same B op t v bs r) : Same B op t v bs ((j, H) :: r) := ⟨h, by cases Nat.testBit bs j <;> first | trivial | exact hs⟩
theorem WD.ask {dk : DK} {d : Option Nat} {op : AOp} {j : Nat} {want b : Bool} (hb : look t j = some (.bool b)) (w1 : b = true → WD B T (⟨⟨d, op, some (j, want)⟩, dk, i, bs⟩ :: os) ((j, .bool true) :: t) H HH Q)
  (w2 : b = false → WD B T (⟨⟨d, op, some (j, want)⟩, dk, i, bs⟩ :: os) ((j, .bool false) :: t) H HH Q) : WD B T (⟨⟨d, op, some (j, want)⟩, dk, i, bs⟩ :: os) t H HH Q := by
 intro env h F hist le s hh
 cases b with
 | true => exact w1 rfl env h F hist (le.alias hb) s hh
 | false => exact w2 rfl env h F hist (le.alias hb) s hh
end D
end Go.Proofs.Ytdcbglljljfleaa.Abs
