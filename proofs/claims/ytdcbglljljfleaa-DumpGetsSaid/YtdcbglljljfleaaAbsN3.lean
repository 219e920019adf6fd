/- The logic: slices that are one's own: appended to, copied over, parts of them. -/
import Derived.Test.YtdcbglljljfleaaAbsN
set_option linter.unusedSimpArgs false
set_option linter.unusedVariables false
set_option linter.unusedSectionVars false
set_option linter.constructorNameAsVariable false
namespace Go.Proofs.Ytdcbglljljfleaa.Abs
section n3
variable {B : Nat → List AV} {T : Tr FnI}
def OwnSl (v : AV) (cells : List AV) (n esz : Nat) (h : HL) : Prop :=
 (v = .nilsl ∧ n = 0 ∧ cells = [] ∧ h = []) ∨ ∃ id, v = .sl ⟨false, id, 0⟩ n esz ∧ h = [(id, .row cells)] ∧ cells.length = n * esz
theorem OwnSl.cell {v : AV} {cells : List AV} {n esz : Nat} {h : HL} (o : OwnSl v cells n esz h) : v.isCell = true := by
 rcases o with ⟨rfl, _⟩ | ⟨id, rfl, _⟩ <;> rfl
theorem OwnSl.len {v : AV} {cells : List AV} {n esz : Nat} {h : HL} (o : OwnSl v cells n esz h) : lenSrc false v = some n := by
 rcases o with ⟨rfl, rfl, _⟩ | ⟨id, rfl, _⟩ <;> rfl
def SrcIs (B : Nat → List AV) (H : HL) (u : AV) (esz m : Nat) (xs : List AV) : Prop :=
 (u = .nilsl ∧ m = 0 ∧ xs = []) ∨ ∃ a, u = .sl a m esz ∧ ((m = 0 ∧ xs = []) ∨ Ld B H a (m * esz) xs)
theorem WOps.perm {t : EL} {H H' : HL} {Q : EL → HL → Prop} {os : List AOper} (p : H.Perm H') (w : WOps B T os t H' Q) : WOps B T os t H Q :=
 fun env h F le s => w env h F le (s.perm (p.append_right F))
theorem WC.perm {nt : Nat} {rdn : Option Nat} {t : EL} {H H' : HL} {Q : AExit → EL → HL → Prop} {c : AC} (p : H.Perm H') (w : WC B T nt rdn c t H' Q) : WC B T nt rdn c t H Q :=
 fun env ds h F le s => w env ds h F le (s.perm (p.append_right F))
theorem WL.perm {nt : Nat} {rdn : Option Nat} {t : EL} {H H' : HL} {Q : AExit → EL → HL → Prop} {c : AC} (p : H.Perm H') (w : WL B T nt rdn c t H' Q) : WL B T nt rdn c t H Q :=
 fun env ds h F le s => w env ds h F le (s.perm (p.append_right F))
theorem WD.perm {t : EL} {H H' : HL} {HH : List (Nat × HL)} {Q : EL → HL → Prop} {os : List DOper} (p : H.Perm H') (w : WD B T os t H' HH Q) : WD B T os t H HH Q :=
 fun env h F hist le s hh => w env h F hist le (s.perm (p.append_right F)) hh
theorem srcOf_of {H F : HL} {h : AH} {u : AV} {esz m : Nat} {xs : List AV} (s : SrcIs B H u esz m xs) (sp : Sep h (H ++ F)) : srcOf B h esz u = some (m, xs) ∨ (m = 0 ∧ ∃ ys, srcOf B h esz u = some (0, ys)) := by
 rcases s with ⟨rfl, rfl, rfl⟩ | ⟨a, rfl, hl⟩
 ·exact .inl rfl
 ·rcases hl with ⟨rfl, rfl⟩ | hl
  ·right
   refine ⟨rfl, ?_⟩
   simp only [srcOf, Nat.beq_refl]
   cases ldCells B h a (0 * esz) with
   | none => exact ⟨_, rfl⟩
   | some cs => exact ⟨_, rfl⟩
  ·left
   simp only [srcOf, Nat.beq_refl, hl.cells sp]
theorem WOp.append {t : EL} {H h R : HL} {Q : AV → HL → Prop} {esz bytes n m : Nat} {x y : AO} {v u : AV} {cells xs : List AV} (hx : gl t x = some v) (hy : gl t y = some u) (ho : OwnSl v cells n esz h) (sp : H.Perm (h ++ R)) (hs : SrcIs B H u esz m xs)
  (h1 : allCell cells = true) (h2 : allCell xs = true) (hm : xs.length = m * esz) (room : (n + m) * bytes ≤ 140737488355328) (q : ∀ v' h', OwnSl v' (cells ++ xs) (n + m) esz h' → Q v' (h' ++ R)) : WOp B T (.append esz bytes x y) t H Q := by
 intro env hp F le s
 have src := srcOf_of hs s
 have s1 : Sep hp (h ++ (R ++ F)) := by
  have := s.perm (sp.append_right F)
  simpa using this
 have nothing : m = 0 → ∀ ys, srcOf B hp esz u = some (0, ys) → ∃ v' h' H', Q v' H' ∧ Sep h' (H' ++ F) ∧ Ev fun k => evOp B (run B T k) (.append esz bytes x y) env hp = .val v' h' := by
  intro h0 ys e
  have hxs : xs = [] := List.eq_nil_of_length_eq_zero (by rw [hm, h0, Nat.zero_mul])
  have q' := q v h (by rw [hxs, List.append_nil, h0, Nat.add_zero]; exact ho)
  refine ⟨v, hp, _, q', by simpa using s1, Ev.of fun k => ?_⟩
  simp only [evOp, aop, rd_mono le hx, rd_mono le hy, aAppend, e]
  rcases ho with ⟨rfl, _⟩ | ⟨id, rfl, _⟩ <;> rfl
 cases m with
 | zero =>
  rcases src with e | ⟨_, ys, e⟩
  ·exact nothing rfl _ e
  ·exact nothing rfl _ e
 | succ m =>
  have e : srcOf B hp esz u = some (m + 1, xs) := by
   rcases src with e | ⟨h0, _⟩
   ·exact e
   ·cases h0
  have hroom : roomOk (n + (m + 1)) bytes = true := by simpa [roomOk] using room
  rcases ho with ⟨rfl, rfl, rfl, rfl⟩ | ⟨id, rfl, rfl, hlen⟩
  ·have q' := q (.sl ⟨false, hp.next, 0⟩ (m + 1) esz) [(hp.next, .row xs)] (.inr ⟨hp.next, by simp, by simp, by simpa using hm⟩)
   refine ⟨_, hp.new (.row xs), _, q', by simpa using s1.new (.row xs), Ev.of fun k => ?_⟩
   have hroom' : roomOk (m + 1) bytes = true := by simpa [roomOk] using room
   simp only [evOp, aop, rd_mono le hx, rd_mono le hy, aAppend, e, hroom']
   exact newRow_new h2
  ·have hg := s1.at_ (id, .row cells) (by simp)
   have s2 : Sep (hp.put id .dead) (R ++ F) := (Sep.put (o' := .dead) (by simpa using s1)).tail
   have s3 := s2.new (.row (cells ++ xs))
   have q' := q (.sl ⟨false, (hp.put id .dead).next, 0⟩ (n + (m + 1)) esz) [((hp.put id .dead).next, .row (cells ++ xs))] (.inr ⟨_, rfl, rfl, by rw [List.length_append, hlen, hm, ← Nat.add_mul]⟩)
   refine ⟨_, (hp.put id .dead).new (.row (cells ++ xs)), _, q', by simpa using s3, Ev.of fun k => ?_⟩
   have hb : Nat.beq (0 + n * esz) cells.length = true := by rw [Nat.zero_add, hlen]; exact Nat.beq_refl _
   simp only [evOp, aop, rd_mono le hx, rd_mono le hy, aAppend, e, Nat.beq_refl, hroom, hg, hb]
   rw [List.drop_zero]
   refine newRow_new ?_
   rw [allCell_iff] at h1 h2 ⊢
   intro v hv
   rcases List.mem_append.1 hv with h | h
   ·exact h1 v h
   ·exact h2 v h
section ops
variable {t : EL} {H : HL} {Q : EL → HL → Prop} {os : List AOper} {k : Nat} {g : Option (Nat × Bool)}
theorem WOps.app {h R : HL} {esz bytes n m : Nat} {x y : AO} {v u : AV} {cells xs : List AV} (hg : wantedL g t = some true) (hx : gl t x = some v) (hy : gl t y = some u) (ho : OwnSl v cells n esz h) (sp : H.Perm (h ++ R)) (hs : SrcIs B H u esz m xs)
  (h1 : allCell cells = true) (h2 : allCell xs = true) (hm : xs.length = m * esz) (room : (n + m) * bytes ≤ 140737488355328) (w : ∀ v' h', OwnSl v' (cells ++ xs) (n + m) esz h' → WOps B T os ((k, v') :: t) (h' ++ R) Q) :
  WOps B T (⟨some k, .append esz bytes x y, g⟩ :: os) t H Q := WOps.go hg (WOp.append hx hy ho sp hs h1 h2 hm room w)
end ops
theorem OwnSl.sl {v : AV} {xs : List (List AV)} {esz : Nat} {h : HL} (o : OwnSl v xs.flatten xs.length esz h) (hl : ∀ c, c ∈ xs → c.length = esz) : SlIs B h v esz xs := by
 rcases o with ⟨rfl, h0, _, rfl⟩ | ⟨id, rfl, rfl, hlen⟩
 ·exact .inl ⟨rfl, List.eq_nil_of_length_eq_zero h0⟩
 ·refine .inr ⟨⟨false, id, 0⟩, rfl, fun i c hc => Ld.own Tk.head ?_⟩
  have key : ∀ (xs : List (List AV)) (i : Nat) (c : List AV), (∀ c, c ∈ xs → c.length = esz) → xs[i]? = some c → takeN (xs.flatten.drop (i * esz)) esz = some c := by
   intro xs
   induction xs with
   | nil => intro i c _ h; simp at h
   | cons x xs ih =>
    intro i c hl hc
    have hx := hl x (by simp)
    cases i with
    | zero =>
     simp only [List.getElem?_cons_zero, Option.some.injEq] at hc
     subst hc
     rw [Nat.zero_mul, List.drop_zero, List.flatten_cons, takeN_of (by rw [List.length_append]; omega), List.take_append_of_le_length (by omega), List.take_of_length_le (by omega)]
    | succ i =>
     have := ih i c (fun c hc => hl c (by simp [hc])) (by simpa using hc)
     rw [List.flatten_cons, List.drop_append, List.drop_eq_nil_of_le (by rw [hx, Nat.succ_mul]; omega), List.nil_append, hx, Nat.succ_mul, Nat.add_sub_cancel]
     exact this
  simpa using key xs i c hl hc
section str
variable {t : EL} {H : HL} {Q : EL → HL → Prop} {os : List AOper} {k : Nat} {g : Option (Nat × Bool)}
def idxV (s : List Nat) (b : Nat) : Int := match idxB s b with
 | some i => .ofNat i
 | none => .negSucc 0
theorem WOps.lenT {x : AO} {s : List Nat} (hg : wantedL g t = some true) (hx : gl t x = some (.str s)) (w : WOps B T os ((k, .int .i64 (.ofNat s.length)) :: t) H Q) : WOps B T (⟨some k, .len true x, g⟩ :: os) t H Q :=
 WOps.purG hg (fun h => by simp only [aopL, hx, lenSrc]) w
theorem bounds_lo {n m : Nat} {ki : IntKind} (h : m ≤ n) : bounds n (some (.int ki (.ofNat m))) none none = some (m, n, n) := by unfold bounds; simp only [asBound_of h]
theorem bounds_2 {n m l : Nat} {ki kj : IntKind} (h : m ≤ n) (hl : l ≤ m) : bounds n (some (.int kj (.ofNat l))) (some (.int ki (.ofNat m))) none = some (l, m, n) := by unfold bounds; simp only [asBound_of h, asBound_of hl]
theorem wrapS {m j : Nat} (h : j ≤ m) (h2 : m ≤ 9223372036854775807) : IntKind.i64.wrap (Int.ofNat m - Int.ofNat j) = Int.ofNat (m - j) := by
 rw [IntKind.wrap_i64]; simp only [Int.ofNat_eq_natCast]; omega
theorem WOps.subN {x y : AO} {m j : Nat} (hg : wantedL g t = some true) (hx : gl t x = some (.int .i64 (.ofNat m))) (hy : gl t y = some (.int .i64 (.ofNat j))) (h : j ≤ m) (h2 : m ≤ 9223372036854775807)
  (w : WOps B T os ((k, .int .i64 (.ofNat (m - j))) :: t) H Q) : WOps B T (⟨some k, .bin .sub x y, g⟩ :: os) t H Q :=
 WOps.purG hg (fun h' => by simp only [aopL, hx, hy, aBin, if_true, wrapS h h2, pure1]) w
end str
section strD
variable {t : EL} {H : HL} {HH : List (Nat × HL)} {Q : EL → HL → Prop} {os : List DOper} {k : Nat} {g : Option (Nat × Bool)} {i bs : Nat}
theorem WD.lenT {x : AO} {s : List Nat} (hg : wantedL g t = some true) (hx : gl t x = some (.str s)) (w : WD B T os ((k, .int .i64 (.ofNat s.length)) :: t) H HH Q) : WD B T (⟨⟨some k, .len true x, g⟩, .quiet, i, bs⟩ :: os) t H HH Q :=
 WD.pur hg (fun h => by simp only [aopL, hx, lenSrc]) w
theorem WD.addN {x y : AO} {m j : Nat} (hg : wantedL g t = some true) (hx : gl t x = some (.int .i64 (.ofNat m))) (hy : gl t y = some (.int .i64 (.ofNat j))) (h : m + j ≤ 9223372036854775807)
  (w : WD B T os ((k, .int .i64 (.ofNat (m + j))) :: t) H HH Q) : WD B T (⟨⟨some k, .bin .add x y, g⟩, .quiet, i, bs⟩ :: os) t H HH Q :=
 WD.pur hg (fun h' => by simp only [aopL, hx, hy, aBin, if_true, wrapN h, pure1]) w
theorem WD.subN {x y : AO} {m j : Nat} (hg : wantedL g t = some true) (hx : gl t x = some (.int .i64 (.ofNat m))) (hy : gl t y = some (.int .i64 (.ofNat j))) (h : j ≤ m) (h2 : m ≤ 9223372036854775807)
  (w : WD B T os ((k, .int .i64 (.ofNat (m - j))) :: t) H HH Q) : WD B T (⟨⟨some k, .bin .sub x y, g⟩, .quiet, i, bs⟩ :: os) t H HH Q :=
 WD.pur hg (fun h' => by simp only [aopL, hx, hy, aBin, if_true, wrapS h h2, pure1]) w
end strD
section whole
variable {t : EL} {H : HL} {k : Nat} {g : Option (Nat × Bool)}
theorem WOps.clA {Q : EL → HL → Prop} {os : List AOper} {f : Nat} {args : List AO} {vs : List AV} {P : AV → HL → Prop} (hg : wantedL g t = some true) (ha : gls t args = some vs) (f1 : WF B T (.func f) vs H P) (w : ∀ v H', P v H' → WOps B T os ((k, v) :: t) H' Q) :
  WOps B T (⟨some k, .call f args, g⟩ :: os) t H Q := WOps.go hg (by
 intro env h F le s
 obtain ⟨v, h', H', p, s', e⟩ := f1 h F s
 refine ⟨v, h', _, w v _ p, s', e.mono fun n e => ?_⟩
 simp only [evOp, rds_mono le ha]; exact e)
theorem WOps.cvA {Q : EL → HL → Prop} {os : List AOper} {x : AO} {f : Nat} {first cap : List AV} {args : List AO} {vs : List AV} {P : AV → HL → Prop} (hg : wantedL g t = some true) (hx : gl t x = some (.fn (.func f) first cap)) (ha : gls t args = some vs) (f1 : WF B T (.func f) (first ++ (vs ++ cap)) H P)
  (w : ∀ v H', P v H' → WOps B T os ((k, v) :: t) H' Q) : WOps B T (⟨some k, .callv x args, g⟩ :: os) t H Q := WOps.go hg (by
 intro env h F le s
 obtain ⟨v, h', H', p, s', e⟩ := f1 h F s
 refine ⟨v, h', _, w v _ p, s', e.mono fun n e => ?_⟩
 simp only [evOp, rd_mono le hx, rds_mono le ha]; exact e)
theorem WD.clA {Q : EL → HL → Prop} {HH : List (Nat × HL)} {os : List DOper} {i bs : Nat} {f : Nat} {args : List AO} {vs : List AV} {P : AV → HL → Prop} (hg : wantedL g t = some true) (ha : gls t args = some vs) (f1 : WF B T (.func f) vs H P) (w : ∀ v H', P v H' → WD B T os ((k, v) :: t) H' ((i, H') :: HH) Q) :
  WD B T (⟨⟨some k, .call f args, g⟩, .loud, i, bs⟩ :: os) t H HH Q := WD.loud hg (by
 intro env h F le s
 obtain ⟨v, h', H', p, s', e⟩ := f1 h F s
 refine ⟨v, h', _, w v _ p, s', e.mono fun n e => ?_⟩
 simp only [evOp, rds_mono le ha]; exact e)
end whole
end n3
end Go.Proofs.Ytdcbglljljfleaa.Abs
