/- The logic: texts appended to bytes, digits. -/
import Derived.Test.YtdcbglljljfleaaAbsN6
set_option linter.unusedSimpArgs false
set_option linter.unusedVariables false
set_option linter.unusedSectionVars false
set_option linter.constructorNameAsVariable false
namespace Go.Proofs.Ytdcbglljljfleaa.Abs
section n7
variable {B : Nat → List AV} {T : Tr FnI}
theorem cells_of_str (s : List Nat) : allCell (cellsOfStr s) = true := by
 induction s with
 | nil => rfl
 | cons c s ih => exact allCell_cons rfl ih
theorem cells_str_len (s : List Nat) : (cellsOfStr s).length = s.length := by
 induction s with
 | nil => rfl
 | cons c s ih => simp only [cellsOfStr, List.length_cons, ih]
theorem cells_str_app (a b : List Nat) : cellsOfStr (a ++ b) = cellsOfStr a ++ cellsOfStr b := by
 induction a with
 | nil => rfl
 | cons c s ih => simp only [cellsOfStr, List.cons_append, ih]
theorem WOp.appendT {t : EL} {H h R : HL} {Q : AV → HL → Prop} {bytes n : Nat} {x y : AO} {v : AV} {cells : List AV} {s : List Nat} (hx : gl t x = some v) (hy : gl t y = some (.str s)) (ho : OwnSl v cells n 1 h) (sp : H.Perm (h ++ R))
  (h1 : allCell cells = true) (room : (n + s.length) * bytes ≤ 140737488355328) (q : ∀ v' h', OwnSl v' (cells ++ cellsOfStr s) (n + s.length) 1 h' → Q v' (h' ++ R)) : WOp B T (.append 1 bytes x y) t H Q := by
 intro env hp F le sep
 have src : srcOf B hp 1 (.str s) = some (s.length, cellsOfStr s) := rfl
 have s1 : Sep hp (h ++ (R ++ F)) := by
  have := sep.perm (sp.append_right F)
  simpa using this
 have h2 := cells_of_str s
 have hm : (cellsOfStr s).length = s.length * 1 := by rw [cells_str_len, Nat.mul_one]
 cases s with
 | nil =>
  have q' := q v h (by rw [show cellsOfStr [] = [] from rfl, List.append_nil]; exact ho)
  refine ⟨v, hp, _, q', by simpa using s1, Ev.of fun k => ?_⟩
  simp only [evOp, aop, rd_mono le hx, rd_mono le hy, aAppend, src, List.length_nil]
  rcases ho with ⟨rfl, _⟩ | ⟨id, rfl, _⟩ <;> rfl
 | cons c s =>
  have hroom : roomOk (n + (s.length + 1)) bytes = true := by simpa [roomOk] using room
  rcases ho with ⟨rfl, rfl, rfl, rfl⟩ | ⟨id, rfl, rfl, hlen⟩
  ·have q' := q (.sl ⟨false, hp.next, 0⟩ (s.length + 1) 1) [(hp.next, .row (cellsOfStr (c :: s)))] (.inr ⟨hp.next, by simp, by simp, by simpa using hm⟩)
   refine ⟨_, hp.new (.row (cellsOfStr (c :: s))), _, q', by simpa using s1.new (.row (cellsOfStr (c :: s))), Ev.of fun k => ?_⟩
   have hroom' : roomOk (s.length + 1) bytes = true := by simpa [roomOk] using room
   simp only [evOp, aop, rd_mono le hx, rd_mono le hy, aAppend, src, List.length_cons, hroom']
   exact newRow_new h2
  ·have hg := s1.at_ (id, .row cells) (by simp)
   have s2 : Sep (hp.put id .dead) (R ++ F) := (Sep.put (o' := .dead) (by simpa using s1)).tail
   have s3 := s2.new (.row (cells ++ cellsOfStr (c :: s)))
   have q' := q (.sl ⟨false, (hp.put id .dead).next, 0⟩ (n + (s.length + 1)) 1) [((hp.put id .dead).next, .row (cells ++ cellsOfStr (c :: s)))] (.inr ⟨_, rfl, rfl, by rw [List.length_append, hlen, hm, ← Nat.add_mul]⟩)
   refine ⟨_, (hp.put id .dead).new (.row (cells ++ cellsOfStr (c :: s))), _, q', by simpa using s3, Ev.of fun k => ?_⟩
   have hb : Nat.beq (0 + n * 1) cells.length = true := by rw [Nat.zero_add, hlen]; exact Nat.beq_refl _
   simp only [evOp, aop, rd_mono le hx, rd_mono le hy, aAppend, src, List.length_cons, Nat.beq_refl, hroom, hg, hb]
   rw [List.drop_zero]
   refine newRow_new ?_
   rw [allCell_iff] at h1 h2 ⊢
   intro v hv
   rcases List.mem_append.1 hv with h | h
   ·exact h1 v h
   ·exact h2 v h
variable {t : EL} {H : HL} {k : Nat} {g : Option (Nat × Bool)}
theorem WOps.appT {Q : EL → HL → Prop} {os : List AOper} {h R : HL} {bytes n : Nat} {x y : AO} {v : AV} {cells : List AV} {s : List Nat} (hg : wantedL g t = some true) (hx : gl t x = some v) (hy : gl t y = some (.str s)) (ho : OwnSl v cells n 1 h) (sp : H.Perm (h ++ R))
  (h1 : allCell cells = true) (room : (n + s.length) * bytes ≤ 140737488355328) (w : ∀ v' h', OwnSl v' (cells ++ cellsOfStr s) (n + s.length) 1 h' → WOps B T os ((k, v') :: t) (h' ++ R) Q) :
  WOps B T (⟨some k, .append 1 bytes x y, g⟩ :: os) t H Q := WOps.go hg (WOp.appendT hx hy ho sp h1 room w)
theorem WD.appT {HH : List (Nat × HL)} {Q : EL → HL → Prop} {os : List DOper} {i bs : Nat} {h R : HL} {bytes n : Nat} {x y : AO} {v : AV} {cells : List AV} {s : List Nat} (hg : wantedL g t = some true) (hx : gl t x = some v) (hy : gl t y = some (.str s)) (ho : OwnSl v cells n 1 h) (sp : H.Perm (h ++ R))
  (h1 : allCell cells = true) (room : (n + s.length) * bytes ≤ 140737488355328) (w : ∀ v' h', OwnSl v' (cells ++ cellsOfStr s) (n + s.length) 1 h' → WD B T os ((k, v') :: t) (h' ++ R) ((i, h' ++ R) :: HH) Q) :
  WD B T (⟨⟨some k, .append 1 bytes x y, g⟩, .loud, i, bs⟩ :: os) t H HH Q := WD.loud hg (WOp.appendT hx hy ho sp h1 room w)
/-! ### Digits -/
variable {Q : EL → HL → Prop} {os : List AOper} {x y : AO}
theorem WOps.shr8 {m : Nat} (hg : wantedL g t = some true) (hx : gl t x = some (.int .u64 (.ofNat m))) (hy : gl t y = some (.int .u64 (.ofNat 8)))
  (w : WOps B T os ((k, .int .u64 (.ofNat (m / 256))) :: t) H Q) : WOps B T (⟨some k, .bin .shr x y, g⟩ :: os) t H Q := by
 refine WOps.purG hg (fun h' => ?_) w
 have : (Int.ofNat m).fdiv (2 ^ min (Int.ofNat 8).toNat IntKind.u64.bits) = Int.ofNat (m / 256) := by
  show (Int.ofNat m).fdiv 256 = _
  rw [Int.fdiv_eq_ediv_of_nonneg _ (by omega)]
  simp only [Int.ofNat_eq_natCast]
  omega
 simp only [aopL, hx, hy, aBin, if_true, this, pure1]
 rfl
theorem wrap_u8 (m : Nat) : IntKind.u8.wrap (Int.ofNat m) = Int.ofNat (m % 256) := by
 unfold IntKind.wrap
 simp [IntKind.bits, IntKind.signed]
theorem WOps.cvB {k0 : IntKind} {m : Nat} (hg : wantedL g t = some true) (hx : gl t x = some (.int k0 (.ofNat m)))
  (w : WOps B T os ((k, .int .u8 (.ofNat (m % 256))) :: t) H Q) : WOps B T (⟨some k, .cvInt .u8 x, g⟩ :: os) t H Q :=
 WOps.purG hg (fun h => by simp only [aopL, hx, wrap_u8, pure1]) w
theorem WOps.slAn {n esz id m : Nat} {cs : List AV} {R : HL} (hg : wantedL g t = some true) (hx : gl t x = some (.ptr ⟨false, id, 0⟩)) (hl : gl t y = some (.int .i64 (.ofNat m))) (tk : Tk H id (.row cs) R) (hn : n * esz ≤ cs.length) (hm : m ≤ n)
  (w : WOps B T os ((k, .sl ⟨false, id, 0 + m * esz⟩ (n - m) esz) :: t) H Q) : WOps B T (⟨some k, .slA n esz x (some y) none none, g⟩ :: os) t H Q :=
 WOps.go hg (fun env h F le s => ⟨_, h, H, w, s, Ev.of fun j => by
  have hb : Nat.ble (0 + n * esz) cs.length = true := by rw [Nat.ble_eq]; omega
  have hr : rowAt B h ⟨false, id, 0⟩ = some cs := rowAt_of (a := ⟨false, id, 0⟩) rfl tk s
  simp only [evOp, aop, rd_mono le hx, rdo, rd_mono le hl, Option.map_some, bounds_lo hm, hr, hb]⟩)
theorem WC.cut2 {nt : Nat} {rdn : Option Nat} {t : EL} {H : HL} {Q : AExit → EL → HL → Prop} {X : Type} {a b : AC} (ts : X → EL) (hs : X → HL) (P : X → Prop)
  (w : WC B T nt rdn a t H fun ex t' H' => match ex with | .normal => ∃ x, Sub1 (ts x) t' ∧ SubP (hs x) H' ∧ P x | .jump j => Q (.jump j) t' H')
  (k : ∀ x, P x → WC B T nt rdn b (ts x) (hs x) Q) : WC B T nt rdn (.seq a b) t H Q := WC.seq (WC.mono w (by
 intro ex t' H' h
 cases ex with
 | normal => obtain ⟨x, h1, h2, h3⟩ := h; exact WC.le h1 (WC.lessP h2 (k x h3))
 | jump j => exact h))
theorem SubP.trans {A C H : HL} (h : SubP A C) (k : SubP C H) : SubP A H := by
 obtain ⟨G, p⟩ := h
 obtain ⟨X, q⟩ := k
 exact ⟨G ++ X, q.trans ((p.append_right X).trans (List.Perm.of_eq (by simp)))⟩
theorem WL.heq {nt : Nat} {rdn : Option Nat} {c : AC} {t : EL} {H H' : HL} {Q : AExit → EL → HL → Prop} (e : H = H') (w : WL B T nt rdn c t H' Q) : WL B T nt rdn c t H Q := e ▸ w
end n7
end Go.Proofs.Ytdcbglljljfleaa.Abs
