/- The logic: parts of one's own slices, copied over one another; addresses of one's own elements. -/
import Derived.Test.YtdcbglljljfleaaAbsN3
set_option linter.unusedSimpArgs false
set_option linter.unusedVariables false
set_option linter.unusedSectionVars false
set_option linter.constructorNameAsVariable false
namespace Go.Proofs.Ytdcbglljljfleaa.Abs
section n4
variable {B : Nat → List AV} {T : Tr FnI}
theorem putAt_of {cs vs : List AV} {off : Nat} (h : off + vs.length ≤ cs.length) : putAt cs off vs = some (cs.take off ++ (vs ++ cs.drop (off + vs.length))) := by
 have : Nat.ble (off + vs.length) cs.length = true := by simpa [Nat.ble_eq] using h
 simp only [putAt, this]
theorem WOp.copy {t : EL} {H R : HL} {Q : AV → HL → Prop} {esz dn sn off id : Nat} {x y : AO} {u : AV} {ds cs : List AV} (hx : gl t x = some (.sl ⟨false, id, off⟩ dn esz)) (hy : gl t y = some u) (tk : Tk H id (.row ds) R) (hs : SrcIs B H u esz sn cs)
  (hm : cs.length = sn * esz) (hd : off + dn * esz ≤ ds.length)
  (q : Q (.int .i64 (.ofNat (min sn dn))) ((id, .row (ds.take off ++ (cs.take (min sn dn * esz) ++ ds.drop (off + min sn dn * esz)))) :: R)) : WOp B T (.copy esz x y) t H Q := by
 intro env hp F le s
 have src := srcOf_of hs s
 have s1 := s.perm tk.app
 have e : ∃ ys, srcOf B hp esz u = some (sn, ys) ∧ (sn = 0 ∨ ys = cs) := by
  rcases src with e | ⟨h0, ys, e⟩
  ·exact ⟨cs, e, .inr rfl⟩
  ·exact ⟨ys, by rw [h0]; exact e, .inl h0⟩
 obtain ⟨ys, e, hys⟩ := e
 cases hk : min sn dn with
 | zero =>
  have hmin : Nat.min sn dn = 0 := hk
  refine ⟨_, hp, _, q, ?_, Ev.of fun k => ?_⟩
  ·simp only [hk, Nat.zero_mul, List.take_zero, List.nil_append, Nat.add_zero, List.take_append_drop]
   exact s1
  ·simp only [evOp, aop, rd_mono le hx, rd_mono le hy, aCopy, e, Nat.beq_refl, hmin, hk]
   rfl
 | succ m =>
  have hmin : Nat.min sn dn = m + 1 := hk
  have h1 : m + 1 ≤ sn := by rw [← hk]; exact Nat.min_le_left _ _
  have h2 : m + 1 ≤ dn := by rw [← hk]; exact Nat.min_le_right _ _
  have hys : ys = cs := by rcases hys with h | h; omega; exact h
  subst hys
  have hg := s1.at_ (id, .row ds) (by simp)
  have hl : (ys.take ((m + 1) * esz)).length = (m + 1) * esz := by
   rw [List.length_take, hm]
   exact Nat.min_eq_left (Nat.mul_le_mul_right _ h1)
  have hb : (m + 1) * esz ≤ dn * esz := Nat.mul_le_mul_right _ h2
  have hput := putAt_of (cs := ds) (off := off) (vs := ys.take ((m + 1) * esz)) (by rw [hl]; omega)
  rw [hk] at q
  refine ⟨_, hp.put id (.row (ds.take off ++ (ys.take ((m + 1) * esz) ++ ds.drop (off + (m + 1) * esz)))), _, q, by simpa using s1.put, Ev.of fun k => ?_⟩
  simp only [evOp, aop, rd_mono le hx, rd_mono le hy, aCopy, e, Nat.beq_refl, hmin, hg, hput, hl, forceL_eq]
section W
variable {t : EL} {H : HL} {Q : EL → HL → Prop} {os : List AOper} {k : Nat} {g : Option (Nat × Bool)}
theorem WOps.ixO {esz n m : Nat} {a : AA} {x y : AO} {ki : IntKind} (hg : wantedL g t = some true) (hx : gl t x = some (.sl a n esz)) (hy : gl t y = some (.int ki (.ofNat m))) (h : m < n)
  (w : WOps B T os ((k, .ptr ⟨a.ro, a.id, a.off + m * esz⟩) :: t) H Q) : WOps B T (⟨some k, .idxS esz x y, g⟩ :: os) t H Q :=
 WOps.purG hg (fun h' => by simp only [aopL, hx, hy, asIdx_of h, Nat.beq_refl]) w
theorem WOps.cvU {x : AO} {k0 : IntKind} {m : Nat} (hg : wantedL g t = some true) (hx : gl t x = some (.int k0 (.ofNat m))) (h : m < 18446744073709551616) (w : WOps B T os ((k, .int .u64 (.ofNat m)) :: t) H Q) : WOps B T (⟨some k, .cvInt .u64 x, g⟩ :: os) t H Q :=
 WOps.purG hg (fun h' => by
  have : IntKind.u64.wrap (Int.ofNat m) = Int.ofNat m := by rw [IntKind.wrap_u64]; simp only [Int.ofNat_eq_natCast]; omega
  simp only [aopL, hx, this]) w
theorem WOps.cvI {x : AO} {k0 : IntKind} {m : Nat} (hg : wantedL g t = some true) (hx : gl t x = some (.int k0 (.ofNat m))) (h : m ≤ 9223372036854775807) (w : WOps B T os ((k, .int .i64 (.ofNat m)) :: t) H Q) : WOps B T (⟨some k, .cvInt .i64 x, g⟩ :: os) t H Q :=
 WOps.purG hg (fun h' => by
  have : IntKind.i64.wrap (Int.ofNat m) = Int.ofNat m := by rw [IntKind.wrap_i64]; simp only [Int.ofNat_eq_natCast]; omega
  simp only [aopL, hx, this]) w
end W
section D
variable {t : EL} {H : HL} {HH : List (Nat × HL)} {Q : EL → HL → Prop} {os : List DOper} {k : Nat} {g : Option (Nat × Bool)} {i bs : Nat}
theorem WD.ixO {esz n m : Nat} {a : AA} {x y : AO} {ki : IntKind} (hg : wantedL g t = some true) (hx : gl t x = some (.sl a n esz)) (hy : gl t y = some (.int ki (.ofNat m))) (h : m < n)
  (w : WD B T os ((k, .ptr ⟨a.ro, a.id, a.off + m * esz⟩) :: t) H HH Q) : WD B T (⟨⟨some k, .idxS esz x y, g⟩, .quiet, i, bs⟩ :: os) t H HH Q :=
 WD.pur hg (fun h' => by simp only [aopL, hx, hy, asIdx_of h, Nat.beq_refl]) w
theorem WD.app {h R : HL} {esz bytes n m : Nat} {x y : AO} {v u : AV} {cells xs : List AV} (hg : wantedL g t = some true) (hx : gl t x = some v) (hy : gl t y = some u) (ho : OwnSl v cells n esz h) (sp : H.Perm (h ++ R)) (hs : SrcIs B H u esz m xs)
  (h1 : allCell cells = true) (h2 : allCell xs = true) (hm : xs.length = m * esz) (room : (n + m) * bytes ≤ 140737488355328) (w : ∀ v' h', OwnSl v' (cells ++ xs) (n + m) esz h' → WD B T os ((k, v') :: t) (h' ++ R) ((i, h' ++ R) :: HH) Q) :
  WD B T (⟨⟨some k, .append esz bytes x y, g⟩, .loud, i, bs⟩ :: os) t H HH Q := WD.loud hg (WOp.append hx hy ho sp hs h1 h2 hm room w)
end D
end n4
end Go.Proofs.Ytdcbglljljfleaa.Abs
