/- What the functions do, shown by the logic. -/
import Derived.Test.YtdcbglljljfleaaDuF
import Derived.Test.YtdcbglljljfleaaDuE
set_option linter.unusedSimpArgs false
set_option linter.unusedVariables false
set_option linter.unusedSectionVars false
set_option maxRecDepth 20000
namespace Go.Proofs.Ytdcbglljljfleaa.DU
open Go.Proofs.Ytdcbglljljfleaa.Abs
variable {B : Nat → List AV}
theorem mul_u {n : Nat} (h : n * 256 < 18446744073709551616) : aBin .mul (.int .u64 (.ofNat n)) (.int .u64 (.ofNat 256)) = some (.int .u64 (.ofNat (n * 256))) := by
 have := wrap64 h
 simp only [aBin, if_true]
 rw [show (Int.ofNat n * Int.ofNat 256) = Int.ofNat (n * 256) from rfl, this]
theorem WOps.mulU {T : Tr FnI} {t : EL} {H : HL} {Q : EL → HL → Prop} {os : List AOper} {k : Nat} {g : Option (Nat × Bool)} {x y : AO} {n : Nat} (hg : wantedL g t = some true) (hx : gl t x = some (.int .u64 (.ofNat n))) (hy : gl t y = some (.int .u64 (.ofNat 256))) (h : n * 256 < 18446744073709551616) (w : WOps B T os ((k, .int .u64 (.ofNat (n * 256))) :: t) H Q) : WOps B T (⟨some k, .bin .mul x y, g⟩ :: os) t H Q := WOps.bin hg hx hy (mul_u h) w
set_option maxHeartbeats 4000000 in
theorem number91_ok {H : HL} {v : AV} {bs : List Nat} (hs : SrcIs B H v 1 bs.length (cellsOfStr bs)) (hb : byL bs) (hl : bs.length ≤ 4611686018427387904) :
  WF B tab (.func 91) [v] H fun r H' => H' = H ∧ r = numR bs := by
 refine WF.fnR g91 rfl ?_
 have sl := src_sl hs
 cases bs with
 | nil =>
  repeat' (first
   | apply WOps.nil | apply WC.seq | apply WC.reg | apply WC.ret | (apply WC.condT; rfl) | (apply WOps.cT; rfl; rfl; rfl; rfl; focus (simp only [cmpP, Int.ofNat_eq_natCast, List.length_cons, List.length_map, List.length_nil, Classical.not_not, not_true_eq_false, not_false_eq_true]; first | done | omega | decide)) | (apply WOps.lenS; rfl; rfl; exact sl) | (apply WOps.purG; rfl; (intro _; rfl)))
  exact ⟨trivial, List.Sublist.refl _, [_, _, _], ⟨_, [_, _], rfl, rfl, _, [_], rfl, rfl, _, [], rfl, rfl, rfl⟩, rfl⟩
 | cons m r =>
  obtain ⟨a, rfl, ld⟩ := src_ptr hs (by simp)
  have hm : m < 256 := hb m List.mem_cons_self
  have hr : byL r := fun b h => hb b (List.mem_cons_of_mem _ h)
  have l0 : Ld B H ⟨a.ro, a.id, a.off + 0⟩ 1 [.int .u8 (.ofNat m)] := ld.part 0 1 (by simp)
  have l1 : ∀ b (r' : List Nat), r = b :: r' → Ld B H ⟨a.ro, a.id, a.off + 1⟩ 1 [.int .u8 (.ofNat b)] := fun b r' e => by subst e; exact ld.part 1 1 (by simp)
  rw [List.length_cons] at hl
  by_cases h8 : 8 < m
  ·repeat' (first
    | apply WOps.nil | apply WC.seq | apply WC.reg | apply WC.skip | apply WC.ret | (apply WC.condT; rfl) | (apply WC.condF; rfl) | (apply WOps.cT; rfl; rfl; rfl; rfl; focus (simp only [cmpP, Int.ofNat_eq_natCast, List.length_cons, List.length_map, List.length_nil, Classical.not_not, not_true_eq_false, not_false_eq_true]; first | done | omega | decide)) | (apply WOps.cF; rfl; rfl; rfl; rfl; focus (simp only [cmpP, Int.ofNat_eq_natCast, List.length_cons, List.length_map, List.length_nil, Classical.not_not, not_true_eq_false, not_false_eq_true]; first | done | omega | decide)) | (apply WOps.lenS; rfl; rfl; exact sl) | (apply WOps.ixO; rfl; rfl; rfl; exact Nat.succ_pos _) | (apply WOps.ldG; rfl; rfl; exact l0; rfl) | (apply WOps.cvI; rfl; rfl; omega) | (apply WOps.purG; rfl; (intro _; rfl)))
   exact ⟨trivial, List.Sublist.refl _, [_, _, _], ⟨_, [_, _], rfl, rfl, _, [_], rfl, rfl, _, [], rfl, rfl, rfl⟩, numR_of (rdN_8 h8)⟩
  by_cases h0 : 0 < m ∧ r.head? = some 0
  ·obtain ⟨h0, h1⟩ := h0
   cases r with
   | nil => cases h1
   | cons b r =>
    simp only [List.head?_cons, Option.some.injEq] at h1
    subst h1
    have l2 := l1 _ _ rfl
    repeat' (first
     | apply WOps.nil | apply WC.seq | apply WC.reg | apply WC.skip | apply WC.ret | (apply WC.condT; rfl) | (apply WC.condF; rfl) | (apply WOps.cT; rfl; rfl; rfl; rfl; focus (simp only [cmpP, Int.ofNat_eq_natCast, List.length_cons, List.length_map, List.length_nil, Classical.not_not, not_true_eq_false, not_false_eq_true]; first | done | omega | decide)) | (apply WOps.cF; rfl; rfl; rfl; rfl; focus (simp only [cmpP, Int.ofNat_eq_natCast, List.length_cons, List.length_map, List.length_nil, Classical.not_not, not_true_eq_false, not_false_eq_true]; first | done | omega | decide)) | (apply WOps.lenS; rfl; rfl; exact sl) | (apply WOps.ixO; rfl; rfl; rfl; exact Nat.succ_pos _) | (apply WOps.ixO; rfl; rfl; rfl; exact Nat.succ_lt_succ (Nat.succ_pos _)) | (apply WOps.ldG; rfl; rfl; exact l0; rfl) | (apply WOps.ldG; rfl; rfl; exact l2; rfl) | (apply WOps.cvI; rfl; rfl; omega) | (apply WOps.purG; rfl; (intro _; rfl)))
    exact ⟨trivial, List.Sublist.refl _, [_, _, _], ⟨_, [_, _], rfl, rfl, _, [_], rfl, rfl, _, [], rfl, rfl, rfl⟩, numR_of (rdN_0 ⟨h0, rfl⟩)⟩
  by_cases hsh : r.length < m
  ·have hh : m = 0 ∨ r = [] ∨ (0 < m ∧ ∃ b r', r = b :: r' ∧ 0 < b) := by
    rcases Nat.eq_zero_or_pos m with h | h
    ·exact .inl h
    ·cases r with
     | nil => exact .inr (.inl rfl)
     | cons b r' => exact .inr (.inr ⟨h, b, r', rfl, Nat.pos_of_ne_zero fun e => h0 ⟨h, by rw [e]; rfl⟩⟩)
   rcases hh with hh | hh | ⟨hh, b, r', rfl, hp⟩
   ·omega
   ·subst hh
    have hp : 0 < m := by simpa using hsh
    repeat' (first
     | apply WOps.nil | apply WC.seq | apply WC.reg | apply WC.skip | apply WC.ret | (apply WC.condT; rfl) | (apply WC.condF; rfl) | (apply WOps.cT; rfl; rfl; rfl; rfl; focus (simp only [cmpP, Int.ofNat_eq_natCast, List.length_cons, List.length_map, List.length_nil, Classical.not_not, not_true_eq_false, not_false_eq_true]; first | done | omega | decide)) | (apply WOps.cF; rfl; rfl; rfl; rfl; focus (simp only [cmpP, Int.ofNat_eq_natCast, List.length_cons, List.length_map, List.length_nil, Classical.not_not, not_true_eq_false, not_false_eq_true]; first | done | omega | decide)) | (apply WOps.lenS; rfl; rfl; exact sl) | (apply WOps.ixO; rfl; rfl; rfl; exact Nat.succ_pos _) | (apply WOps.ldG; rfl; rfl; exact l0; rfl) | (apply WOps.cvI; rfl; rfl; omega) | (apply WOps.addN; rfl; rfl; rfl; omega) | (apply WOps.purG; rfl; (intro _; rfl)) | (apply WOps.skp; rfl))
    exact ⟨trivial, List.Sublist.refl _, [_, _, _], ⟨_, [_, _], rfl, rfl, _, [_], rfl, rfl, _, [], rfl, rfl, rfl⟩, numR_of (rdN_s h8 h0 hsh)⟩
   ·have l2 := l1 _ _ rfl
    have hb1 : b < 256 := hr b List.mem_cons_self
    rw [List.length_cons] at hl hsh
    repeat' (first
     | apply WOps.nil | apply WC.seq | apply WC.reg | apply WC.skip | apply WC.ret | (apply WC.condT; rfl) | (apply WC.condF; rfl) | (apply WOps.cT; rfl; rfl; rfl; rfl; focus (simp only [cmpP, Int.ofNat_eq_natCast, List.length_cons, List.length_map, List.length_nil, Classical.not_not, not_true_eq_false, not_false_eq_true]; first | done | omega | decide)) | (apply WOps.cF; rfl; rfl; rfl; rfl; focus (simp only [cmpP, Int.ofNat_eq_natCast, List.length_cons, List.length_map, List.length_nil, Classical.not_not, not_true_eq_false, not_false_eq_true]; first | done | omega | decide)) | (apply WOps.lenS; rfl; rfl; exact sl) | (apply WOps.ixO; rfl; rfl; rfl; exact Nat.succ_pos _) | (apply WOps.ixO; rfl; rfl; rfl; exact Nat.succ_lt_succ (Nat.succ_pos _)) | (apply WOps.ldG; rfl; rfl; exact l0; rfl) | (apply WOps.ldG; rfl; rfl; exact l2; rfl) | (apply WOps.cvI; rfl; rfl; omega) | (apply WOps.addN; rfl; rfl; rfl; omega) | (apply WOps.purG; rfl; (intro _; rfl)))
    exact ⟨trivial, List.Sublist.refl _, [_, _, _], ⟨_, [_, _], rfl, rfl, _, [_], rfl, rfl, _, [], rfl, rfl, rfl⟩, numR_of (rdN_s h8 h0 hsh)⟩
  ·have hq : ∀ b r', r = b :: r' → 0 < m → 0 < b := fun b r' e h => Nat.pos_of_ne_zero fun e2 => h0 ⟨h, by rw [e, e2]; rfl⟩
   rcases Nat.eq_zero_or_pos m with hz | hz
   ·subst hz
    repeat' (first
     | apply WOps.nil | apply WC.seq | apply WC.reg | apply WC.skip | (apply WC.condF; rfl) | apply WC.block | (apply WOps.cF; rfl; rfl; rfl; rfl; focus (simp only [cmpP, Int.ofNat_eq_natCast, List.length_cons, List.length_map, List.length_nil, Classical.not_not, not_true_eq_false, not_false_eq_true]; first | done | omega | decide)) | (apply WOps.lenS; rfl; rfl; exact sl) | (apply WOps.ixO; rfl; rfl; rfl; exact Nat.succ_pos _) | (apply WOps.ldG; rfl; rfl; exact l0; rfl) | (apply WOps.cvI; rfl; rfl; omega) | (apply WOps.addN; rfl; rfl; rfl; omega) | (apply WOps.purG; rfl; (intro _; rfl)) | (apply WOps.skp; rfl))
    refine WC.loop ?_
    apply WL.step
    repeat' (first
     | apply WOps.nil | apply WC.seq | apply WC.reg | apply WC.ret | apply WC.exit | (apply WC.condF; rfl) | (apply WOps.cF; rfl; rfl; rfl; rfl; focus (simp only [cmpP, Int.ofNat_eq_natCast, List.length_cons, List.length_map, List.length_nil, Classical.not_not, not_true_eq_false, not_false_eq_true]; first | done | omega | decide)) | (apply WOps.addN; rfl; rfl; rfl; omega) | (apply WOps.purG; rfl; (intro _; rfl)))
    exact ⟨trivial, List.Sublist.refl _, [_, _, _], ⟨_, [_, _], rfl, rfl, _, [_], rfl, rfl, _, [], rfl, rfl, rfl⟩, numR_of (rdN_ok h8 h0 hsh)⟩
   obtain ⟨b1, r', er, hp⟩ : ∃ b r', r = b :: r' ∧ 0 < b := by
    cases r with
    | nil => simp at hsh; omega
    | cons b r' => exact ⟨b, r', rfl, hq b r' rfl hz⟩
   have l2 := l1 _ _ er
   have hb1 : b1 < 256 := hr b1 (by rw [er]; exact List.mem_cons_self)
   have hl2 : 0 < r.length := by rw [er]; simp
   clear er
   repeat' (first
    | apply WOps.nil | apply WC.seq | apply WC.reg | apply WC.skip | (apply WC.condF; rfl) | apply WC.block | (apply WOps.cT; rfl; rfl; rfl; rfl; focus (simp only [cmpP, Int.ofNat_eq_natCast, List.length_cons, List.length_map, List.length_nil, Classical.not_not, not_true_eq_false, not_false_eq_true]; first | done | omega | decide)) | (apply WOps.cF; rfl; rfl; rfl; rfl; focus (simp only [cmpP, Int.ofNat_eq_natCast, List.length_cons, List.length_map, List.length_nil, Classical.not_not, not_true_eq_false, not_false_eq_true]; first | done | omega | decide)) | (apply WOps.lenS; rfl; rfl; exact sl) | (apply WOps.ixO; rfl; rfl; rfl; exact Nat.succ_pos _) | (apply WOps.ixO; rfl; rfl; rfl; exact Nat.succ_lt_succ hl2) | (apply WOps.ldG; rfl; rfl; exact l0; rfl) | (apply WOps.ldG; rfl; rfl; exact l2; rfl) | (apply WOps.cvI; rfl; rfl; omega) | (apply WOps.addN; rfl; rfl; rfl; omega) | (apply WOps.purG; rfl; (intro _; rfl)))
   refine WC.loop ?_
   obtain ⟨i, hi⟩ : ∃ i : Nat, i = 0 := ⟨0, rfl⟩
   refine WL.le (t' := [(0, .sl a (m :: r).length 1), (5, .int .i64 (.ofNat m)), (6, .int .u64 (.ofNat (valB (r.take i)))), (7, .int .i64 (.ofNat (i + 1)))]) (by subst hi; exact Sub1.cons rfl (Sub1.cons rfl (Sub1.cons rfl (Sub1.cons rfl Sub1.nil)))) ?_
   have hle : i ≤ m := by omega
   clear hi
   induction hk : m - i using Nat.strongRecOn generalizing i with | _ k ih => ?_
   apply WL.step
   by_cases hlt : i < m
   ·obtain ⟨q1, q2⟩ := valB_lt2 hr hlt h8 (by omega)
    have hlt2 : i < r.length := by omega
    have l3 : Ld B H ⟨a.ro, a.id, a.off + (i + 1) * 1⟩ 1 [.int .u8 (.ofNat r[i])] := by
     have := ld.part (i + 1) 1 (by rw [List.length_cons]; omega)
     rw [byC_at (c := r[i]) (by rw [List.getElem?_cons_succ]; exact List.getElem?_eq_getElem _)] at this
     rw [Nat.mul_one]; exact this
    repeat' (first
     | apply WOps.nil | apply WC.seq | apply WC.reg | apply WC.skip | (apply WC.condT; rfl) | apply WC.block | (apply WOps.cT; rfl; rfl; rfl; rfl; focus (simp only [cmpP, Int.ofNat_eq_natCast, List.length_cons, List.length_map, List.length_nil, Classical.not_not, not_true_eq_false, not_false_eq_true]; first | done | omega | decide)) | (apply WOps.mulU; rfl; rfl; rfl; omega) | (apply WOps.ixO; rfl; rfl; rfl; exact Nat.succ_lt_succ hlt2) | (apply WOps.ldG; rfl; rfl; exact l3; rfl) | (apply WOps.cvU; rfl; rfl; omega) | (apply WOps.addU; rfl; rfl; rfl; omega) | (apply WOps.addN; rfl; rfl; rfl; omega) | (apply WOps.purG; rfl; (intro _; rfl)))
    have := ih _ (by omega) (i + 1) (by omega) rfl
    rw [valB_step (by omega)] at this
    exact WL.le (Sub1.cons rfl (Sub1.cons rfl (Sub1.cons rfl (Sub1.cons rfl Sub1.nil)))) this
   ·obtain rfl : i = m := by omega
    repeat' (first
     | apply WOps.nil | apply WC.seq | apply WC.reg | apply WC.ret | apply WC.exit | (apply WC.condF; rfl) | (apply WOps.cF; rfl; rfl; rfl; rfl; focus (simp only [cmpP, Int.ofNat_eq_natCast, List.length_cons, List.length_map, List.length_nil, Classical.not_not, not_true_eq_false, not_false_eq_true]; first | done | omega | decide)) | (apply WOps.addN; rfl; rfl; rfl; omega) | (apply WOps.purG; rfl; (intro _; rfl)))
    exact ⟨trivial, List.Sublist.refl _, [_, _, _], ⟨_, [_, _], rfl, rfl, _, [_], rfl, rfl, _, [], rfl, rfl, rfl⟩, by
     have := numR_of (rdN_ok h8 h0 hsh)
     rw [Nat.add_comm i 1] at this
     exact this⟩
theorem RdAt.ldE2 {H Y R : HL} {p : Nat} {s : St} (h : RdAt B false H p s Y R) : Ld B H ⟨false, p, 1⟩ 1 [.int .i64 (.ofNat s.2)] := by
 obtain ⟨v, _, o, r⟩ := h
 exact Ld.perm r (Ld.own Tk.head rfl)
theorem num91 {H : HL} {v : AV} {bs : List Nat} {n k e : Nat} (hs : SrcIs B H v 1 bs.length (cellsOfStr bs)) (ok : StOk (bs, e)) {e' : Nat} (hr : rdN bs = (n, k, e')) :
  WF B tab (.func 91) [v] H fun r H' => H' = H ∧ r = .tup [.int .u64 (.ofNat n), .int .i64 (.ofNat k), .int .i64 (.ofNat e')] := (number91_ok hs ok.1 ok.2).mono fun r _ h => ⟨h.1, by rw [h.2, numR_of hr]⟩
set_option maxHeartbeats 1000000 in
theorem num50_ok {H Y R : HL} {p most : Nat} {s : St} (h : RdAt B false H p s Y R) :
  WF B tab (.func 50) [.ptr ⟨false, p, 0⟩, .int .u64 (.ofNat most)] H fun r H' => r = .int .u64 (.ofNat (numS most s).1) ∧ RdAt B false H' p (numS most s).2 Y R := by
 obtain ⟨v, sr, ok, pm⟩ := h
 obtain ⟨bs, e⟩ := s
 dsimp only at sr pm
 refine WF.perm pm ?_
 refine WF.fn g50 rfl ?_
 by_cases he : e = 0
 ·subst he
  obtain ⟨n, k, e, hr⟩ : ∃ n k e, rdN bs = (n, k, e) := ⟨_, _, _, rfl⟩
  have src : SrcIs B ((p, .row (rrow false v 0)) :: (Y ++ R)) v 1 bs.length (cellsOfStr bs) := src_cons (SrcIs.left sr)
  have hk := rdN_lt (l := bs) ok.1
  rw [hr] at hk
  by_cases h1 : e = 0
  ·subst h1
   by_cases h2 : most < n
   ·repeat' (first
     | apply WOps.nil | apply WC.seq | apply WC.reg | apply WC.skip | apply WC.ret | (apply WC.condT; rfl) | (apply WC.condF; rfl) | (apply WOps.ldG; rfl; rfl; (first | exact ld0 rfl | exact ld1 rfl | exact ld2 rfl); rfl) | (apply WOps.st; rfl; rfl; (first | exact tk0 | exact tk1 | exact tk2); rfl; (· repeat' (first | rfl | assumption | apply ac1)); rfl) | (apply WOps.cT; rfl; rfl; rfl; rfl; focus (simp only [cmpP, Int.ofNat_eq_natCast, List.length_cons, List.length_map, List.length_nil, Classical.not_not, not_true_eq_false, not_false_eq_true]; first | done | omega | decide)) | (apply WOps.cF; rfl; rfl; rfl; rfl; focus (simp only [cmpP, Int.ofNat_eq_natCast, List.length_cons, List.length_map, List.length_nil, Classical.not_not, not_true_eq_false, not_false_eq_true]; first | done | omega | decide)) | (apply WOps.clR; rfl; rfl; exact num91 src ok hr; intro _ hv; subst hv) | (apply WOps.purG; rfl; (intro _; rfl)))
    exact ⟨trivial, [_], ⟨_, _, rfl, rfl, rfl⟩, by rw [numS_c hr h2]; exact ⟨rfl, v, sr, ok.err, List.Perm.refl _⟩⟩
   ·have hkk := hk.2.1 rfl
    obtain ⟨a, rfl, ld⟩ := src_ptr sr (by simp only at hkk; omega)
    repeat' (first
     | apply WOps.nil | apply WC.seq | apply WC.reg | apply WC.skip | apply WC.ret | (apply WC.condF; rfl) | (apply WOps.ldG; rfl; rfl; (first | exact ld0 rfl | exact ld1 rfl | exact ld2 rfl); rfl) | (apply WOps.st; rfl; rfl; (first | exact tk0 | exact tk1 | exact tk2); rfl; (· repeat' (first | rfl | assumption | apply ac1)); rfl) | (apply WOps.cT; rfl; rfl; rfl; rfl; focus (simp only [cmpP, Int.ofNat_eq_natCast, List.length_cons, List.length_map, List.length_nil, Classical.not_not, not_true_eq_false, not_false_eq_true]; first | done | omega | decide)) | (apply WOps.cF; rfl; rfl; rfl; rfl; focus (simp only [cmpP, Int.ofNat_eq_natCast, List.length_cons, List.length_map, List.length_nil, Classical.not_not, not_true_eq_false, not_false_eq_true]; first | done | omega | decide)) | (apply WOps.clR; rfl; rfl; exact num91 src ok hr; intro _ hv; subst hv) | (apply WOps.slP; rfl; rfl; rfl; rfl; rfl; exact bounds_lo hkk.2.1) | (apply WOps.purG; rfl; (intro _; rfl)))
    exact ⟨trivial, [_], ⟨_, _, rfl, rfl, rfl⟩, by rw [numS_d hr (by omega)]; exact ⟨rfl, _, src_drop ld k hkk.2.1, ok.drop _, List.Perm.refl _⟩⟩
  ·repeat' (first
    | apply WOps.nil | apply WC.seq | apply WC.reg | apply WC.skip | apply WC.ret | (apply WC.condT; rfl) | (apply WC.condF; rfl) | (apply WOps.ldG; rfl; rfl; (first | exact ld0 rfl | exact ld1 rfl | exact ld2 rfl); rfl) | (apply WOps.st; rfl; rfl; (first | exact tk0 | exact tk1 | exact tk2); rfl; (· repeat' (first | rfl | assumption | apply ac1)); rfl) | (apply WOps.cT; rfl; rfl; rfl; rfl; focus (simp only [cmpP, Int.ofNat_eq_natCast, List.length_cons, List.length_map, List.length_nil, Classical.not_not, not_true_eq_false, not_false_eq_true]; first | done | omega | decide)) | (apply WOps.cF; rfl; rfl; rfl; rfl; focus (simp only [cmpP, Int.ofNat_eq_natCast, List.length_cons, List.length_map, List.length_nil, Classical.not_not, not_true_eq_false, not_false_eq_true]; first | done | omega | decide)) | (apply WOps.clR; rfl; rfl; exact num91 src ok hr; intro _ hv; subst hv) | (apply WOps.purG; rfl; (intro _; rfl)) | (apply WOps.skp; rfl))
   exact ⟨trivial, [_], ⟨_, _, rfl, rfl, rfl⟩, by rw [numS_b hr h1]; exact ⟨rfl, v, sr, ok.err, List.Perm.refl _⟩⟩
 ·repeat' (first
   | apply WOps.nil | apply WC.seq | apply WC.reg | apply WC.ret | (apply WC.condT; rfl) | (apply WOps.ldG; rfl; rfl; (first | exact ld0 rfl | exact ld1 rfl | exact ld2 rfl); rfl) | (apply WOps.cT; rfl; rfl; rfl; rfl; focus (simp only [cmpP, Int.ofNat_eq_natCast, List.length_cons, List.length_map, List.length_nil, Classical.not_not, not_true_eq_false, not_false_eq_true]; first | done | omega | decide)) | (apply WOps.purG; rfl; (intro _; rfl)))
  exact ⟨trivial, [_], ⟨_, _, rfl, rfl, rfl⟩, by rw [numS_a he]; exact ⟨rfl, v, sr, ok, List.Perm.refl _⟩⟩
set_option maxHeartbeats 2000000 in
theorem text51_ok {H Y R : HL} {p : Nat} {s : St} (h : RdAt B false H p s Y R) :
  WF B tab (.func 51) [.ptr ⟨false, p, 0⟩, .int .i64 (.ofNat 80)] H fun r H' => r = .str (textS 80 s).1 ∧ RdAt B false H' p (textS 80 s).2 Y R := by
 obtain ⟨v, sr, ok, pm⟩ := h
 obtain ⟨bs, e⟩ := s
 dsimp only at sr pm
 refine WF.perm pm ?_
 refine WF.fn g51 rfl ?_
 by_cases he : e = 0
 ·subst he
  obtain ⟨n, k, e, hr⟩ : ∃ n k e, rdN bs = (n, k, e) := ⟨_, _, _, rfl⟩
  have src : SrcIs B ((p, .row (rrow false v 0)) :: (Y ++ R)) v 1 bs.length (cellsOfStr bs) := src_cons (SrcIs.left sr)
  have hk := rdN_lt (l := bs) ok.1
  have hbl : bs.length ≤ 4611686018427387904 := ok.2
  rw [hr] at hk
  by_cases h1 : e = 0
  ·subst h1
   have hkk := hk.2.1 rfl
   dsimp only at hkk hk
   obtain ⟨a, rfl, ld⟩ := src_ptr sr (by omega)
   by_cases h2 : 80 < n
   ·repeat' (first
     | apply WOps.nil | apply WC.seq | apply WC.reg | apply WC.skip | apply WC.ret | (apply WC.condT; rfl) | (apply WC.condF; rfl) | (apply WOps.ldG; rfl; rfl; (first | exact ld0 rfl | exact ld1 rfl | exact ld2 rfl); rfl) | (apply WOps.st; rfl; rfl; (first | exact tk0 | exact tk1 | exact tk2); rfl; (· repeat' (first | rfl | assumption | apply ac1)); rfl) | (apply WOps.cT; rfl; rfl; rfl; rfl; focus (simp only [cmpP, Int.ofNat_eq_natCast, List.length_cons, List.length_map, List.length_nil, Classical.not_not, not_true_eq_false, not_false_eq_true]; first | done | omega | decide)) | (apply WOps.cF; rfl; rfl; rfl; rfl; focus (simp only [cmpP, Int.ofNat_eq_natCast, List.length_cons, List.length_map, List.length_nil, Classical.not_not, not_true_eq_false, not_false_eq_true]; first | done | omega | decide)) | (apply WOps.clR; rfl; rfl; exact num91 src ok hr; intro _ hv; subst hv) | (apply WOps.cvU; rfl; rfl; omega) | (apply WOps.purG; rfl; (intro _; rfl)) | (apply WOps.skp; rfl))
    exact ⟨trivial, [_], ⟨_, _, rfl, rfl, rfl⟩, by rw [textS_c hr h2]; exact ⟨rfl, _, sr, ok.err, List.Perm.refl _⟩⟩
   by_cases h3 : bs.length - k < n
   ·repeat' (first
     | apply WOps.nil | apply WC.seq | apply WC.reg | apply WC.skip | apply WC.ret | (apply WC.condT; rfl) | (apply WC.condF; rfl) | (apply WOps.ldG; rfl; rfl; (first | exact ld0 rfl | exact ld1 rfl | exact ld2 rfl); rfl) | (apply WOps.st; rfl; rfl; (first | exact tk0 | exact tk1 | exact tk2); rfl; (· repeat' (first | rfl | assumption | apply ac1)); rfl) | (apply WOps.cT; rfl; rfl; rfl; rfl; focus (simp only [cmpP, Int.ofNat_eq_natCast, List.length_cons, List.length_map, List.length_nil, Classical.not_not, not_true_eq_false, not_false_eq_true]; first | done | omega | decide)) | (apply WOps.cF; rfl; rfl; rfl; rfl; focus (simp only [cmpP, Int.ofNat_eq_natCast, List.length_cons, List.length_map, List.length_nil, Classical.not_not, not_true_eq_false, not_false_eq_true]; first | done | omega | decide)) | (apply WOps.clR; rfl; rfl; exact num91 src ok hr; intro _ hv; subst hv) | (apply WOps.cvU; rfl; rfl; omega) | (apply WOps.lenV; rfl; rfl) | (apply WOps.subN; rfl; rfl; rfl; omega; omega) | (apply WOps.purG; rfl; (intro _; rfl)))
    exact ⟨trivial, [_], ⟨_, _, rfl, rfl, rfl⟩, by rw [textS_d hr (by omega) h3]; exact ⟨rfl, _, sr, ok.err, List.Perm.refl _⟩⟩
   ·have hS : SrcIs B ((p, .row (rrow false (.sl a bs.length 1) 0)) :: (Y ++ R)) (.sl ⟨a.ro, a.id, a.off + k * 1⟩ (k + n - k) 1) 1 ((bs.drop k).take n).length (cellsOfStr ((bs.drop k).take n)) := by
     have := src_cons (q := (p, .row (rrow false (.sl a bs.length 1) 0))) (SrcIs.left (R := R) (src_part ld k n (by omega)))
     rw [Nat.mul_one, Nat.add_sub_cancel_left]; exact this
    repeat' (first
     | apply WOps.nil | apply WC.seq | apply WC.reg | apply WC.skip | apply WC.ret | (apply WC.condF; rfl) | (apply WOps.ldG; rfl; rfl; (first | exact ld0 rfl | exact ld1 rfl | exact ld2 rfl); rfl) | (apply WOps.st; rfl; rfl; (first | exact tk0 | exact tk1 | exact tk2); rfl; (· repeat' (first | rfl | assumption | apply ac1)); rfl) | (apply WOps.cT; rfl; rfl; rfl; rfl; focus (simp only [cmpP, Int.ofNat_eq_natCast, List.length_cons, List.length_map, List.length_nil, Classical.not_not, not_true_eq_false, not_false_eq_true]; first | done | omega | decide)) | (apply WOps.cF; rfl; rfl; rfl; rfl; focus (simp only [cmpP, Int.ofNat_eq_natCast, List.length_cons, List.length_map, List.length_nil, Classical.not_not, not_true_eq_false, not_false_eq_true]; first | done | omega | decide)) | (apply WOps.clR; rfl; rfl; exact num91 src ok hr; intro _ hv; subst hv) | (apply WOps.cvU; rfl; rfl; omega) | (apply WOps.lenV; rfl; rfl) | (apply WOps.subN; rfl; rfl; rfl; omega; omega) | (apply WOps.cvI; rfl; rfl; omega) | (apply WOps.addN; rfl; rfl; rfl; omega) | (apply WOps.slP; rfl; rfl; rfl; rfl; rfl; exact bounds_2 (by omega) (by omega)) | (apply WOps.slP; rfl; rfl; rfl; rfl; rfl; exact bounds_lo (by omega)) | (apply WOps.cvS; rfl; rfl; exact hS; exact (ok.1.drop _).take _) | (apply WOps.purG; rfl; (intro _; rfl)))
    exact ⟨trivial, [_], ⟨_, _, rfl, rfl, rfl⟩, by rw [textS_e hr (by omega) (by omega)]; exact ⟨rfl, _, src_drop ld (k + n) (by omega), ok.drop _, List.Perm.refl _⟩⟩
  ·repeat' (first
    | apply WOps.nil | apply WC.seq | apply WC.reg | apply WC.skip | apply WC.ret | (apply WC.condT; rfl) | (apply WC.condF; rfl) | (apply WOps.ldG; rfl; rfl; (first | exact ld0 rfl | exact ld1 rfl | exact ld2 rfl); rfl) | (apply WOps.st; rfl; rfl; (first | exact tk0 | exact tk1 | exact tk2); rfl; (· repeat' (first | rfl | assumption | apply ac1)); rfl) | (apply WOps.cT; rfl; rfl; rfl; rfl; focus (simp only [cmpP, Int.ofNat_eq_natCast, List.length_cons, List.length_map, List.length_nil, Classical.not_not, not_true_eq_false, not_false_eq_true]; first | done | omega | decide)) | (apply WOps.cF; rfl; rfl; rfl; rfl; focus (simp only [cmpP, Int.ofNat_eq_natCast, List.length_cons, List.length_map, List.length_nil, Classical.not_not, not_true_eq_false, not_false_eq_true]; first | done | omega | decide)) | (apply WOps.clR; rfl; rfl; exact num91 src ok hr; intro _ hv; subst hv) | (apply WOps.purG; rfl; (intro _; rfl)) | (apply WOps.skp; rfl))
   exact ⟨trivial, [_], ⟨_, _, rfl, rfl, rfl⟩, by rw [textS_b hr h1]; exact ⟨rfl, v, sr, ok.err, List.Perm.refl _⟩⟩
 ·repeat' (first
   | apply WOps.nil | apply WC.seq | apply WC.reg | apply WC.ret | (apply WC.condT; rfl) | (apply WOps.ldG; rfl; rfl; (first | exact ld0 rfl | exact ld1 rfl | exact ld2 rfl); rfl) | (apply WOps.cT; rfl; rfl; rfl; rfl; focus (simp only [cmpP, Int.ofNat_eq_natCast, List.length_cons, List.length_map, List.length_nil, Classical.not_not, not_true_eq_false, not_false_eq_true]; first | done | omega | decide)) | (apply WOps.purG; rfl; (intro _; rfl)))
  exact ⟨trivial, [_], ⟨_, _, rfl, rfl, rfl⟩, by rw [textS_a he]; exact ⟨rfl, v, sr, ok, List.Perm.refl _⟩⟩
set_option maxHeartbeats 2000000 in
theorem flag53_ok {H Y R : HL} {p : Nat} {s : St} (h : RdAt B false H p s Y R) :
  WF B tab (.func 53) [.ptr ⟨false, p, 0⟩] H fun r H' => r = .bool (flagS s).1 ∧ RdAt B false H' p (flagS s).2 Y R := by
 obtain ⟨v, sr, ok, pm⟩ := h
 obtain ⟨bs, e⟩ := s
 dsimp only at sr pm
 refine WF.perm pm ?_
 refine WF.fn g53 rfl ?_
 by_cases he : e = 0
 ·subst he
  obtain ⟨n, k, e, hr⟩ : ∃ n k e, rdN bs = (n, k, e) := ⟨_, _, _, rfl⟩
  have src : SrcIs B ((p, .row (rrow false v 0)) :: (Y ++ R)) v 1 bs.length (cellsOfStr bs) := src_cons (SrcIs.left sr)
  have hk := rdN_lt (l := bs) ok.1
  rw [hr] at hk
  dsimp only at hk
  by_cases h1 : e = 0
  ·subst h1
   have hkk := hk.2.1 rfl
   obtain ⟨a, rfl, ld⟩ := src_ptr sr (by omega)
   by_cases h2 : 1 < n
   ·repeat' (first
     | apply WOps.nil | apply WC.seq | apply WC.reg | apply WC.skip | apply WC.ret | (apply WC.condT; rfl) | (apply WC.condF; rfl) | (apply WOps.ldG; rfl; rfl; (first | exact ld0 rfl | exact ld1 rfl | exact ld2 rfl); rfl) | (apply WOps.st; rfl; rfl; (first | exact tk0 | exact tk1 | exact tk2); rfl; (· repeat' (first | rfl | assumption | apply ac1)); rfl) | (apply WOps.cT; rfl; rfl; rfl; rfl; focus (simp only [cmpP, Int.ofNat_eq_natCast, List.length_cons, List.length_map, List.length_nil, Classical.not_not, not_true_eq_false, not_false_eq_true]; first | done | omega | decide)) | (apply WOps.cF; rfl; rfl; rfl; rfl; focus (simp only [cmpP, Int.ofNat_eq_natCast, List.length_cons, List.length_map, List.length_nil, Classical.not_not, not_true_eq_false, not_false_eq_true]; first | done | omega | decide)) | (apply WOps.clR; rfl; rfl; exact num91 src ok hr; intro _ hv; subst hv) | (apply WOps.purG; rfl; (intro _; rfl)))
    exact ⟨trivial, [_], ⟨_, _, rfl, rfl, rfl⟩, by rw [flagS_c hr h2]; exact ⟨rfl, _, sr, ok.err, List.Perm.refl _⟩⟩
   ·repeat' (first
     | apply WOps.nil | apply WC.seq | apply WC.reg | apply WC.skip | apply WC.ret | (apply WC.condF; rfl) | (apply WOps.ldG; rfl; rfl; (first | exact ld0 rfl | exact ld1 rfl | exact ld2 rfl); rfl) | (apply WOps.st; rfl; rfl; (first | exact tk0 | exact tk1 | exact tk2); rfl; (· repeat' (first | rfl | assumption | apply ac1)); rfl) | (apply WOps.cT; rfl; rfl; rfl; rfl; focus (simp only [cmpP, Int.ofNat_eq_natCast, List.length_cons, List.length_map, List.length_nil, Classical.not_not, not_true_eq_false, not_false_eq_true]; first | done | omega | decide)) | (apply WOps.cF; rfl; rfl; rfl; rfl; focus (simp only [cmpP, Int.ofNat_eq_natCast, List.length_cons, List.length_map, List.length_nil, Classical.not_not, not_true_eq_false, not_false_eq_true]; first | done | omega | decide)) | (apply WOps.eq1; rfl; rfl; rfl) | (apply WOps.clR; rfl; rfl; exact num91 src ok hr; intro _ hv; subst hv) | (apply WOps.slP; rfl; rfl; rfl; rfl; rfl; exact bounds_lo hkk.2.1) | (apply WOps.purG; rfl; (intro _; rfl)))
    exact ⟨trivial, [_], ⟨_, _, rfl, rfl, rfl⟩, by rw [flagS_d hr (by omega)]; exact ⟨rfl, _, src_drop ld k hkk.2.1, ok.drop _, List.Perm.refl _⟩⟩
  ·repeat' (first
    | apply WOps.nil | apply WC.seq | apply WC.reg | apply WC.skip | apply WC.ret | (apply WC.condT; rfl) | (apply WC.condF; rfl) | (apply WOps.ldG; rfl; rfl; (first | exact ld0 rfl | exact ld1 rfl | exact ld2 rfl); rfl) | (apply WOps.st; rfl; rfl; (first | exact tk0 | exact tk1 | exact tk2); rfl; (· repeat' (first | rfl | assumption | apply ac1)); rfl) | (apply WOps.cT; rfl; rfl; rfl; rfl; focus (simp only [cmpP, Int.ofNat_eq_natCast, List.length_cons, List.length_map, List.length_nil, Classical.not_not, not_true_eq_false, not_false_eq_true]; first | done | omega | decide)) | (apply WOps.cF; rfl; rfl; rfl; rfl; focus (simp only [cmpP, Int.ofNat_eq_natCast, List.length_cons, List.length_map, List.length_nil, Classical.not_not, not_true_eq_false, not_false_eq_true]; first | done | omega | decide)) | (apply WOps.clR; rfl; rfl; exact num91 src ok hr; intro _ hv; subst hv) | (apply WOps.purG; rfl; (intro _; rfl)) | (apply WOps.skp; rfl))
   exact ⟨trivial, [_], ⟨_, _, rfl, rfl, rfl⟩, by rw [flagS_b hr h1]; exact ⟨rfl, v, sr, ok.err, List.Perm.refl _⟩⟩
 ·repeat' (first
   | apply WOps.nil | apply WC.seq | apply WC.reg | apply WC.ret | (apply WC.condT; rfl) | (apply WOps.ldG; rfl; rfl; (first | exact ld0 rfl | exact ld1 rfl | exact ld2 rfl); rfl) | (apply WOps.cT; rfl; rfl; rfl; rfl; focus (simp only [cmpP, Int.ofNat_eq_natCast, List.length_cons, List.length_map, List.length_nil, Classical.not_not, not_true_eq_false, not_false_eq_true]; first | done | omega | decide)) | (apply WOps.purG; rfl; (intro _; rfl)))
  exact ⟨trivial, [_], ⟨_, _, rfl, rfl, rfl⟩, by rw [flagS_a he]; exact ⟨rfl, v, sr, ok, List.Perm.refl _⟩⟩
set_option maxHeartbeats 2000000 in
theorem texts52_ok {H Y R : HL} {p : Nat} {s : St} (h : RdAt B false H p s Y R) :
  WF B tab (.func 52) [.ptr ⟨false, p, 0⟩, .int .i64 (.ofNat 8), .int .i64 (.ofNat 80)] H fun r H' => ∃ X, SlIs B X r 1 ((textsS 8 80 s).1.map strC) ∧ RdAt B false H' p (textsS 8 80 s).2 Y (X ++ R) := by
 refine WF.lessP ?_
 refine WF.fn g52 rfl ?_
 have hn := numS_ok (most := 8) h.ok
 obtain ⟨n, s1, en⟩ : ∃ n s1, numS 8 s = (n, s1) := ⟨_, _, rfl⟩
 have w := num50_ok (most := 8) h
 rw [en] at hn w
 dsimp only at hn w
 repeat' (first
  | apply WOps.nil | apply WC.seq | apply WC.reg | apply WC.skip | (apply WC.condF; rfl) | apply WC.block | (apply WOps.cF; rfl; rfl; rfl; rfl; focus (simp only [cmpP, Int.ofNat_eq_natCast, List.length_cons, List.length_map, List.length_nil, Classical.not_not, not_true_eq_false, not_false_eq_true]; first | done | omega | decide)) | (apply WOps.cvU; rfl; rfl; omega) | (apply WOps.clA; rfl; rfl; exact w; rintro _ H1 ⟨rfl, h1⟩) | (apply WOps.purG; rfl; (intro _; rfl)))
 refine WC.loop ?_
 obtain ⟨i, hi⟩ : ∃ i : Nat, i = 0 := ⟨0, rfl⟩
 obtain ⟨acc, hacc⟩ : ∃ l : List (List Nat), l = [] := ⟨_, rfl⟩
 obtain ⟨v, hv⟩ : ∃ v : AV, v = .nilsl := ⟨_, rfl⟩
 obtain ⟨hh, hhh⟩ : ∃ l : HL, l = [] := ⟨_, rfl⟩
 refine WL.le (t' := [(0, .ptr ⟨false, p, 0⟩), (2, .int .i64 (.ofNat 80)), (7, .int .u64 (.ofNat n)), (8, v), (9, .int .u64 (.ofNat i))]) (by subst hi hv; exact Sub1.cons rfl (Sub1.cons rfl (Sub1.cons rfl (Sub1.cons rfl (Sub1.cons rfl Sub1.nil))))) ?_
 have o : OwnSl v (acc.map strC).flatten (acc.map strC).length 1 hh := by subst hv hacc hhh; exact own_nil
 have h2 : RdAt B false H1 p s1 Y (hh ++ R) := by subst hhh; exact h1
 have ht : (acc ++ (loopS (textS 80) (n - i) s1).1, (loopS (textS 80) (n - i) s1).2) = loopS (textS 80) n s1 := by subst hi hacc; simp
 have et : textsS 8 80 s = if (loopS (textS 80) n s1).2.2 = 0 then loopS (textS 80) n s1 else ([], (loopS (textS 80) n s1).2) := by rw [textsS, en]
 have hal : acc.length ≤ i := by subst hacc; simp
 have hle : i ≤ n := by omega
 obtain ⟨tot, etot⟩ : ∃ t, t = loopS (textS 80) n s1 := ⟨_, rfl⟩
 rw [← etot] at ht et
 have h8 := hn.2.1
 clear hi hacc hv hhh h1 etot hn en w
 induction hk : n - i using Nat.strongRecOn generalizing i acc v hh H1 s1 with | _ k ih => ?_
 apply WL.step
 by_cases hlt : i < n
 ·by_cases hs : s1.2 = 0
  ·have ht2 := tot_step (x := (textS 80 s1).1) (l := (loopS (textS 80) (n - (i + 1)) (textS 80 s1).2).1) (s := (loopS (textS 80) (n - (i + 1)) (textS 80 s1).2).2) ht (by rw [show n - i = (n - (i + 1)) + 1 by omega, loopS_s hs])
   have w1 := text51_ok h2
   repeat' (first
    | apply WOps.nil | apply WC.seq | apply WC.reg | apply WC.skip | (apply WC.condT; rfl) | apply WC.block | (apply WOps.bsl; rfl; (· repeat' (first | rfl | assumption | apply ac1)); intro _) | (apply WOps.cT; rfl; rfl; rfl; rfl; focus (simp only [cmpP, Int.ofNat_eq_natCast, List.length_cons, List.length_map, List.length_nil, Classical.not_not, not_true_eq_false, not_false_eq_true]; first | done | omega | decide)) | (apply WOps.ldG; rfl; rfl; exact h2.ldE2; rfl) | (apply WOps.clA; rfl; rfl; exact w1; rintro _ H2 ⟨rfl, h3⟩) | (apply WOps.purG; rfl; (intro _; rfl)))
   rename_i q
   obtain ⟨Z, pz, fz⟩ := h3.split
   refine WOps.app (h := hh) (R := (q, .row [.str (textS 80 s1).1]) :: Z) (n := (acc.map strC).length) (m := 1) (xs := [.str (textS 80 s1).1]) rfl rfl rfl o ((pz.cons _).trans (permF (by intro f; simp only [AV.cells, pm] <;> omega))) (.inr ⟨_, rfl, .inr (Ld.own Tk.head rfl)⟩) (ac_flat fun _ _ => rfl) (allCell_cons rfl allCell_nil) rfl (by rw [List.length_map]; omega) ?_
   intro v2 h4 o2
   have o3 : OwnSl v2 ((acc ++ [(textS 80 s1).1]).map strC).flatten ((acc ++ [(textS 80 s1).1]).map strC).length 1 h4 := own_snoc o2
   repeat' (first
    | apply WOps.nil | apply WC.reg | (apply WOps.addU; rfl; rfl; rfl; omega) | (apply WOps.purG; rfl; (intro _; rfl)))
   refine WL.le (Sub1.cons rfl (Sub1.cons rfl (Sub1.cons rfl (Sub1.cons rfl (Sub1.cons rfl Sub1.nil))))) (WL.lessP (H1 := h4 ++ Z) (subF (by intro f; simp only [AV.cells, pm] <;> omega)) (ih _ (by omega) _ _ (i + 1) _ v2 h4 o3 (fz h4) (by rw [List.length_append, List.length_singleton]; omega) (by omega) ht2 rfl))
  ·have ht2 := tot_end (l := acc) ht (loopS_e hs)
   rw [et, ht2] 
   rw [if_neg hs]
   repeat' (first
    | apply WOps.nil | apply WC.seq | apply WC.reg | apply WC.ret | apply WC.exit | (apply WC.condT; rfl) | (apply WC.condF; rfl) | (apply WOps.cT; rfl; rfl; rfl; rfl; focus (simp only [cmpP, Int.ofNat_eq_natCast, List.length_cons, List.length_map, List.length_nil, Classical.not_not, not_true_eq_false, not_false_eq_true]; first | done | omega | decide)) | (apply WOps.cF; rfl; rfl; rfl; rfl; focus (simp only [cmpP, Int.ofNat_eq_natCast, List.length_cons, List.length_map, List.length_nil, Classical.not_not, not_true_eq_false, not_false_eq_true]; first | done | omega | decide)) | (apply WOps.ldG; rfl; rfl; exact h2.ldE2; rfl) | (apply WOps.purG; rfl; (intro _; rfl)))
   obtain ⟨H5, b5, s5⟩ := h2.less (R1 := R) (subF (by intro f; simp only [AV.cells, pm] <;> omega))
   exact ⟨trivial, [_], ⟨_, _, rfl, rfl, rfl⟩, H5, ⟨[], .inl ⟨rfl, rfl⟩, b5⟩, s5⟩
 ·have ht2 := tot_end (l := acc) ht (by rw [show n - i = 0 by omega]; exact loopS_0)
  rw [et, ht2]
  by_cases hs : s1.2 = 0
  ·rw [if_pos hs]
   repeat' (first
    | apply WOps.nil | apply WC.seq | apply WC.reg | apply WC.skip | apply WC.ret | apply WC.exit | (apply WC.condF; rfl) | (apply WOps.cF; rfl; rfl; rfl; rfl; focus (simp only [cmpP, Int.ofNat_eq_natCast, List.length_cons, List.length_map, List.length_nil, Classical.not_not, not_true_eq_false, not_false_eq_true]; first | done | omega | decide)) | (apply WOps.ldG; rfl; rfl; exact h2.ldE2; rfl) | (apply WOps.purG; rfl; (intro _; rfl)) | (apply WOps.skp; rfl))
   exact ⟨trivial, [_], ⟨_, _, rfl, rfl, rfl⟩, _, ⟨hh, o.sl (by intro c hc; obtain ⟨x, _, rfl⟩ := List.mem_map.1 hc; rfl), h2⟩, SubP.refl⟩
  ·rw [if_neg hs]
   repeat' (first
    | apply WOps.nil | apply WC.seq | apply WC.reg | apply WC.ret | apply WC.exit | (apply WC.condT; rfl) | (apply WC.condF; rfl) | (apply WOps.cT; rfl; rfl; rfl; rfl; focus (simp only [cmpP, Int.ofNat_eq_natCast, List.length_cons, List.length_map, List.length_nil, Classical.not_not, not_true_eq_false, not_false_eq_true]; first | done | omega | decide)) | (apply WOps.cF; rfl; rfl; rfl; rfl; focus (simp only [cmpP, Int.ofNat_eq_natCast, List.length_cons, List.length_map, List.length_nil, Classical.not_not, not_true_eq_false, not_false_eq_true]; first | done | omega | decide)) | (apply WOps.ldG; rfl; rfl; exact h2.ldE2; rfl) | (apply WOps.purG; rfl; (intro _; rfl)) | (apply WOps.skp; rfl))
   obtain ⟨H5, b5, s5⟩ := h2.less (R1 := R) (subF (by intro f; simp only [AV.cells, pm] <;> omega))
   exact ⟨trivial, [_], ⟨_, _, rfl, rfl, rfl⟩, H5, ⟨[], .inl ⟨rfl, rfl⟩, b5⟩, s5⟩
theorem RdAt.ldV2 {H Y R : HL} {p : Nat} {s : St} (h : RdAt B false H p s Y R) : ∃ v, Ld B H ⟨false, p, 0⟩ 1 [v] ∧ SlIs B H v 1 (s.1.map byC) := by
 obtain ⟨v, a, o, r⟩ := h
 exact ⟨v, Ld.perm r (Ld.own Tk.head rfl), src_sl (SrcIs.perm r (src_cons (SrcIs.left a)))⟩
set_option maxHeartbeats 1000000 in
theorem done92_ok {H Y R : HL} {p : Nat} {s : St} (h : RdAt B false H p s Y R) : WF B tab (.func 92) [.ptr ⟨false, p, 0⟩] H fun r H' => H' = H ∧ r = .int .i64 (.ofNat (doneS s)) := by
 refine WF.fnR g92 rfl ?_
 obtain ⟨v, l, sl⟩ := h.ldV2
 have el : (s.1.map byC).length = s.1.length := List.length_map _
 by_cases hs : s.2 = 0
 ·by_cases hl : 0 < s.1.length
  ·repeat' (first
    | apply WOps.nil | apply WC.seq | apply WC.reg | apply WC.ret | (apply WC.condT; rfl) | (apply WOps.cT; rfl; rfl; rfl; rfl; focus (simp only [cmpP, Int.ofNat_eq_natCast, List.length_cons, List.length_map, List.length_nil, Classical.not_not, not_true_eq_false, not_false_eq_true]; first | done | omega | decide)) | (apply WOps.ldG; rfl; rfl; exact h.ldE2; rfl) | (apply WOps.ldG; rfl; rfl; exact l; rfl) | (apply WOps.lenS; rfl; rfl; exact sl) | (apply WOps.purG; rfl; (intro _; rfl)))
   exact ⟨trivial, List.Sublist.refl _, [_], ⟨_, _, rfl, rfl, rfl⟩, by rw [doneS, if_pos hs, if_pos hl]; rfl⟩
  ·repeat' (first
    | apply WOps.nil | apply WC.seq | apply WC.reg | apply WC.skip | apply WC.ret | (apply WC.condF; rfl) | (apply WOps.cT; rfl; rfl; rfl; rfl; focus (simp only [cmpP, Int.ofNat_eq_natCast, List.length_cons, List.length_map, List.length_nil, Classical.not_not, not_true_eq_false, not_false_eq_true]; first | done | omega | decide)) | (apply WOps.cF; rfl; rfl; rfl; rfl; focus (simp only [cmpP, Int.ofNat_eq_natCast, List.length_cons, List.length_map, List.length_nil, Classical.not_not, not_true_eq_false, not_false_eq_true]; first | done | omega | decide)) | (apply WOps.ldG; rfl; rfl; exact h.ldE2; rfl) | (apply WOps.ldG; rfl; rfl; exact l; rfl) | (apply WOps.lenS; rfl; rfl; exact sl) | (apply WOps.purG; rfl; (intro _; rfl)))
   exact ⟨trivial, List.Sublist.refl _, [_], ⟨_, _, rfl, rfl, rfl⟩, by rw [doneS, if_pos hs, if_neg hl, hs]; rfl⟩
 ·repeat' (first
   | apply WOps.nil | apply WC.seq | apply WC.reg | apply WC.skip | apply WC.ret | (apply WC.condF; rfl) | (apply WOps.cF; rfl; rfl; rfl; rfl; focus (simp only [cmpP, Int.ofNat_eq_natCast, List.length_cons, List.length_map, List.length_nil, Classical.not_not, not_true_eq_false, not_false_eq_true]; first | done | omega | decide)) | (apply WOps.ldG; rfl; rfl; exact h.ldE2; rfl) | (apply WOps.purG; rfl; (intro _; rfl)) | (apply WOps.skp; rfl))
  exact ⟨trivial, List.Sublist.refl _, [_], ⟨_, _, rfl, rfl, rfl⟩, by rw [doneS, if_neg hs]; rfl⟩
theorem numT2 {H Y R : HL} {p m n : Nat} {s s' : St} (h : RdAt B false H p s Y R) (e : numS m s = (n, s')) : WF B tab (.func 50) [.ptr ⟨false, p, 0⟩, .int .u64 (.ofNat m)] H fun r H' => r = .int .u64 (.ofNat n) ∧ RdAt B false H' p s' Y R := by
 have := num50_ok (most := m) h
 rw [e] at this; exact this
theorem textT2 {H Y R : HL} {p : Nat} {l : List Nat} {s s' : St} (h : RdAt B false H p s Y R) (e : textS 80 s = (l, s')) : WF B tab (.func 51) [.ptr ⟨false, p, 0⟩, .int .i64 (.ofNat 80)] H fun r H' => r = .str l ∧ RdAt B false H' p s' Y R := by
 have := text51_ok h
 rw [e] at this; exact this
theorem flagT2 {H Y R : HL} {p : Nat} {b : Bool} {s s' : St} (h : RdAt B false H p s Y R) (e : flagS s = (b, s')) : WF B tab (.func 53) [.ptr ⟨false, p, 0⟩] H fun r H' => r = .bool b ∧ RdAt B false H' p s' Y R := by
 have := flag53_ok h
 rw [e] at this; exact this
theorem textsT2 {H Y R : HL} {p : Nat} {l : List (List Nat)} {s s' : St} (h : RdAt B false H p s Y R) (e : textsS 8 80 s = (l, s')) : WF B tab (.func 52) [.ptr ⟨false, p, 0⟩, .int .i64 (.ofNat 8), .int .i64 (.ofNat 80)] H fun r H' => ∃ X, SlIs B X r 1 (l.map strC) ∧ RdAt B false H' p s' Y (X ++ R) := by
 have := texts52_ok h
 rw [e] at this; exact this
theorem RdAt.permH {k : Bool} {H H' Y R : HL} {p : Nat} {s : St} (h : RdAt B k H p s Y R) (q : H'.Perm H) : RdAt B k H' p s Y R := by
 obtain ⟨v, a, o, r⟩ := h
 exact ⟨v, a, o, q.trans r⟩
set_option maxHeartbeats 16000000 in
theorem more54_ok {H Y R : HL} {p ix l0 l1 l2 l3 l4 l5 : Nat} {vn vs vc vi : AV} {s s1 s2 s3 s4 s5 s6 s7 s8 s9 : St} {re rl rq : List (List Fd)} (h : RdAt B false H p s Y R) (cn : vn.isCell = true) (cs : vs.isCell = true) (cc : vc.isCell = true) (ci : vi.isCell = true) (e1 : rowsS kE s = (re, s1)) (e2 : rowsS kL s1 = (rl, s2)) (e3 : numS 18446744073709551615 s2 = (l0, s3)) (e4 : numS 18446744073709551615 s3 = (l1, s4)) (e5 : numS 18446744073709551615 s4 = (l2, s5)) (e6 : numS 18446744073709551615 s5 = (l3, s6)) (e7 : numS 18446744073709551615 s6 = (l4, s7)) (e8 : numS 18446744073709551615 s7 = (l5, s8)) (e9 : rowsS kQ s8 = (rq, s9)) :
  WF B tab (.func 54) [.ptr ⟨false, p, 0⟩, .agg [.int .u64 (.ofNat ix), vn, vs, vc, vi, .nilsl, .nilsl, .int .u64 (.ofNat 0), .int .u64 (.ofNat 0), .int .u64 (.ofNat 0), .int .u64 (.ofNat 0), .int .u64 (.ofNat 0), .int .u64 (.ofNat 0), .nilsl]] H fun r H' =>
   (doneS s9 = 0 ∧ ∃ ve vl vq te tl tq X, r = .tup [.agg [.int .u64 (.ofNat ix), vn, vs, vc, vi, ve, vl, .int .u64 (.ofNat l0), .int .u64 (.ofNat l1), .int .u64 (.ofNat l2), .int .u64 (.ofNat l3), .int .u64 (.ofNat l4), .int .u64 (.ofNat l5), vq], .int .i64 (.ofNat 0)] ∧ LAt B X ve 6 shE te ∧ LAt B X vl 4 shL tl ∧ LAt B X vq 3 shQ tq ∧ te.map stripR = re ∧ tl.map stripR = rl ∧ tq.map stripR = rq ∧ SubP (X ++ R) H') ∨
   (doneS s9 ≠ 0 ∧ r = .tup [.agg [.int .u64 (.ofNat 0), .nilsl, .nilsl, .nilsl, .nilsl, .nilsl, .nilsl, .int .u64 (.ofNat 0), .int .u64 (.ofNat 0), .int .u64 (.ofNat 0), .int .u64 (.ofNat 0), .int .u64 (.ofNat 0), .int .u64 (.ofNat 0), .nilsl], .int .i64 (.ofNat (doneS s9))] ∧ SubP R H') := by
 refine WF.fn g54 rfl ?_
 refine WC.seq (WC.reg ?_)
 repeat' (first
  | apply WOps.nil | (apply WOps.alc; rfl; intro _) | (apply WOps.bx; rfl; rfl; (· repeat' (first | rfl | assumption | apply ac1)); intro _) | (apply WOps.purG; rfl; (intro _; rfl)))
 rename_i p3 p4
 have h0 := (h.cons (x := (p3, .row [.int .u64 (.ofNat ix), vn, vs, vc, vi, .nilsl, .nilsl, .int .u64 (.ofNat 0), .int .u64 (.ofNat 0), .int .u64 (.ofNat 0), .int .u64 (.ofNat 0), .int .u64 (.ofNat 0), .int .u64 (.ofNat 0), .nilsl]))).cons (x := (p4, .row [.int .u64 (.ofNat 0), .nilsl, .nilsl, .nilsl, .nilsl, .nilsl, .nilsl, .int .u64 (.ofNat 0), .int .u64 (.ofNat 0), .int .u64 (.ofNat 0), .int .u64 (.ofNat 0), .int .u64 (.ofNat 0), .int .u64 (.ofNat 0), .nilsl]))
 replace h0 := h0.permR (R' := (p3, .row [.int .u64 (.ofNat ix), vn, vs, vc, vi, .nilsl, .nilsl, .int .u64 (.ofNat 0), .int .u64 (.ofNat 0), .int .u64 (.ofNat 0), .int .u64 (.ofNat 0), .int .u64 (.ofNat 0), .int .u64 (.ofNat 0), .nilsl]) :: (p4, .row [.int .u64 (.ofNat 0), .nilsl, .nilsl, .nilsl, .nilsl, .nilsl, .nilsl, .int .u64 (.ofNat 0), .int .u64 (.ofNat 0), .int .u64 (.ofNat 0), .int .u64 (.ofNat 0), .int .u64 (.ofNat 0), .int .u64 (.ofNat 0), .nilsl]) :: R) (permF (by intro f; simp only [AV.cells, pm] <;> omega))
 obtain ⟨ne, ye, ene⟩ : ∃ n y, numS 64 s = (n, y) := ⟨_, _, rfl⟩
 have hne := num_le h0 ene
 have ewe := e1
 rw [rowsS, ene] at ewe
 dsimp only at ewe
 refine WC.seq (WC.reg ?_)
 repeat' (first
  | apply WOps.nil | (apply WOps.clA; rfl; rfl; exact numT2 h0 ene; rintro _ Ie ⟨rfl, bqe⟩) | (apply WOps.cvI; rfl; rfl; omega) | (apply WOps.purG; rfl; (intro _; rfl)))
 refine WC.cut2 (X := AV × List (List Fd) × HL × HL) (fun x => [(0, .ptr ⟨false, p, 0⟩), (3, .ptr ⟨false, p3, 0⟩), (4, .ptr ⟨false, p4, 0⟩)]) (fun x => x.2.2.2) (fun x => RdAt B false x.2.2.2 p s1 Y ((p3, .row [.int .u64 (.ofNat ix), vn, vs, vc, vi, x.1, .nilsl, .int .u64 (.ofNat 0), .int .u64 (.ofNat 0), .int .u64 (.ofNat 0), .int .u64 (.ofNat 0), .int .u64 (.ofNat 0), .int .u64 (.ofNat 0), .nilsl]) :: (x.2.2.1 ++ ((p4, .row [.int .u64 (.ofNat 0), .nilsl, .nilsl, .nilsl, .nilsl, .nilsl, .nilsl, .int .u64 (.ofNat 0), .int .u64 (.ofNat 0), .int .u64 (.ofNat 0), .int .u64 (.ofNat 0), .int .u64 (.ofNat 0), .int .u64 (.ofNat 0), .nilsl]) :: R))) ∧ LAt B x.2.2.1 x.1 6 shE x.2.1 ∧ x.2.1.map stripR = re) ?_ ?_
 ·refine WC.seq (WC.reg ?_)
  repeat' (first
   | apply WOps.nil | apply WC.block | (apply WOps.purG; rfl; (intro _; rfl)))
  refine WC.loop ?_
  obtain ⟨i, hi⟩ : ∃ i : Nat, i = 0 := ⟨0, rfl⟩
  obtain ⟨acc, hacc⟩ : ∃ l : List (List Fd), l = [] := ⟨_, rfl⟩
  obtain ⟨v, hv⟩ : ∃ v : AV, v = .nilsl := ⟨_, rfl⟩
  obtain ⟨hh, hhh⟩ : ∃ l : HL, l = [] := ⟨_, rfl⟩
  obtain ⟨G, hG⟩ : ∃ l : HL, l = [] := ⟨_, rfl⟩
  refine WL.le (t' := [(0, .ptr ⟨false, p, 0⟩), (3, .ptr ⟨false, p3, 0⟩), (4, .ptr ⟨false, p4, 0⟩), (6, .int .i64 (.ofNat ne)), (7, .int .i64 (.ofNat i))]) (by subst hi; exact (Sub1.cons rfl (Sub1.cons rfl (Sub1.cons rfl (Sub1.cons rfl (Sub1.cons rfl Sub1.nil)))))) ?_
  have o : OwnSl v (acc.map rowC).flatten (acc.map rowC).length 6 hh := by subst hv hacc hhh; exact rowC_nil
  have ok : ∀ r, r ∈ acc → shE r ∧ (∀ f, f ∈ r → f.wf) ∧ ∀ f, f ∈ r → f.at B G := by subst hacc; intro r hr; cases hr
  obtain ⟨H1, hH1⟩ : ∃ h, h = Ie := ⟨_, rfl⟩
  obtain ⟨sa, hsa⟩ : ∃ y, y = ye := ⟨_, rfl⟩
  have h2 : RdAt B false H1 p sa Y ((p3, .row [.int .u64 (.ofNat ix), vn, vs, vc, vi, v, .nilsl, .int .u64 (.ofNat 0), .int .u64 (.ofNat 0), .int .u64 (.ofNat 0), .int .u64 (.ofNat 0), .int .u64 (.ofNat 0), .int .u64 (.ofNat 0), .nilsl]) :: (hh ++ (G ++ ((p4, .row [.int .u64 (.ofNat 0), .nilsl, .nilsl, .nilsl, .nilsl, .nilsl, .nilsl, .int .u64 (.ofNat 0), .int .u64 (.ofNat 0), .int .u64 (.ofNat 0), .int .u64 (.ofNat 0), .int .u64 (.ofNat 0), .int .u64 (.ofNat 0), .nilsl]) :: R)))) := by subst hhh hG hv hH1 hsa; exact bqe
  have ht : (acc.map stripR ++ (loopS (rdR kE) (ne - i) sa).1, (loopS (rdR kE) (ne - i) sa).2) = (re, s1) := by subst hi hacc hsa; rw [← ewe]; simp
  have hal : acc.length ≤ i := by subst hacc; simp
  have hle : i ≤ ne := by omega
  have h64 := hne.1
  rw [show Ie = H1 from hH1.symm]
  clear hi hacc hv hhh hG hH1 hsa ewe
  induction hk : ne - i using Nat.strongRecOn generalizing i acc v hh G H1 sa with | _ k ih => ?_
  apply WL.step
  by_cases hlt : i < ne
  ·by_cases hs : sa.2 = 0
   ·obtain ⟨r, sb, er⟩ : ∃ r sb, rdR kE sa = (r, sb) := ⟨_, _, rfl⟩
    have ht2 := tot_step (x := r) (l := (loopS (rdR kE) (ne - (i + 1)) sb).1) (s := (loopS (rdR kE) (ne - (i + 1)) sb).2) ht (by rw [show ne - i = (ne - (i + 1)) + 1 by omega, loopS_s hs, er])
    clear ht
    obtain ⟨xa, z1, d1⟩ : ∃ x y, textS 80 sa = (x, y) := ⟨_, _, rfl⟩
    obtain ⟨xb, z2, d2⟩ : ∃ x y, textS 80 z1 = (x, y) := ⟨_, _, rfl⟩
    obtain ⟨xc, z3, d3⟩ : ∃ x y, numS 18446744073709551615 z2 = (x, y) := ⟨_, _, rfl⟩
    obtain ⟨xd, z4, d4⟩ : ∃ x y, numS 18446744073709551615 z3 = (x, y) := ⟨_, _, rfl⟩
    obtain ⟨xe, z5, d5⟩ : ∃ x y, numS 18446744073709551615 z4 = (x, y) := ⟨_, _, rfl⟩
    obtain ⟨xf, z6, d6⟩ : ∃ x y, numS 18446744073709551615 z5 = (x, y) := ⟨_, _, rfl⟩
    simp only [kE, rdR, rdF, d1, d2, d3, d4, d5, d6, Prod.mk.injEq] at er
    obtain ⟨rfl, rfl⟩ := er
    refine WC.seq (WC.seq (WC.reg ?_))
    repeat' (first
     | apply WOps.nil | apply WC.skip | (apply WC.condT; rfl) | (apply WOps.cT; rfl; rfl; rfl; rfl; focus (simp only [cmpP, Int.ofNat_eq_natCast, List.length_cons, List.length_map, List.length_nil, Classical.not_not, not_true_eq_false, not_false_eq_true]; first | done | omega | decide)) | (apply WOps.ldG; rfl; rfl; exact h2.ldE2; rfl) | (apply WOps.purG; rfl; (intro _; rfl)))
    refine WC.seq (WC.block (WC.seq (WC.reg ?_)))
    repeat' (first
     | apply WOps.nil | (apply WOps.alc; rfl; intro _))
    rename_i p8
    have m0 := h2.cons (x := (p8, .row [.str [], .str [], .int .u64 (.ofNat 0), .int .u64 (.ofNat 0), .int .u64 (.ofNat 0), .int .u64 (.ofNat 0)]))
    refine WC.seq (WC.reg ?_)
    repeat' (first
     | apply WOps.nil | (apply WOps.clA; rfl; rfl; exact textT2 m0 d1; rintro _ M1 ⟨rfl, g1⟩; obtain ⟨Z1, u1, f1⟩ := g1.st Tk.head) | (apply WOps.st; rfl; rfl; exact u1; rfl; exact allCell_cons rfl allCell_nil; rfl) | (apply WOps.purG; rfl; (intro _; rfl)))
    have m1 := f1 [.str xa, .str [], .int .u64 (.ofNat 0), .int .u64 (.ofNat 0), .int .u64 (.ofNat 0), .int .u64 (.ofNat 0)]
    refine WC.seq (WC.reg ?_)
    repeat' (first
     | apply WOps.nil | (apply WOps.clA; rfl; rfl; exact textT2 m1 d2; rintro _ M2 ⟨rfl, g2⟩; obtain ⟨Z2, u2, f2⟩ := g2.st Tk.head) | (apply WOps.st; rfl; rfl; exact u2; rfl; exact allCell_cons rfl allCell_nil; rfl) | (apply WOps.purG; rfl; (intro _; rfl)))
    have m2 := f2 [.str xa, .str xb, .int .u64 (.ofNat 0), .int .u64 (.ofNat 0), .int .u64 (.ofNat 0), .int .u64 (.ofNat 0)]
    have w3 := num_le m2 d3
    refine WC.seq (WC.reg ?_)
    repeat' (first
     | apply WOps.nil | (apply WOps.clA; rfl; rfl; exact numT2 m2 d3; rintro _ M3 ⟨rfl, g3⟩; obtain ⟨Z3, u3, f3⟩ := g3.st Tk.head) | (apply WOps.st; rfl; rfl; exact u3; rfl; exact allCell_cons rfl allCell_nil; rfl) | (apply WOps.purG; rfl; (intro _; rfl)))
    have m3 := f3 [.str xa, .str xb, .int .u64 (.ofNat xc), .int .u64 (.ofNat 0), .int .u64 (.ofNat 0), .int .u64 (.ofNat 0)]
    have w4 := num_le m3 d4
    refine WC.seq (WC.reg ?_)
    repeat' (first
     | apply WOps.nil | (apply WOps.clA; rfl; rfl; exact numT2 m3 d4; rintro _ M4 ⟨rfl, g4⟩; obtain ⟨Z4, u4, f4⟩ := g4.st Tk.head) | (apply WOps.st; rfl; rfl; exact u4; rfl; exact allCell_cons rfl allCell_nil; rfl) | (apply WOps.purG; rfl; (intro _; rfl)))
    have m4 := f4 [.str xa, .str xb, .int .u64 (.ofNat xc), .int .u64 (.ofNat xd), .int .u64 (.ofNat 0), .int .u64 (.ofNat 0)]
    have w5 := num_le m4 d5
    refine WC.seq (WC.reg ?_)
    repeat' (first
     | apply WOps.nil | (apply WOps.clA; rfl; rfl; exact numT2 m4 d5; rintro _ M5 ⟨rfl, g5⟩; obtain ⟨Z5, u5, f5⟩ := g5.st Tk.head) | (apply WOps.st; rfl; rfl; exact u5; rfl; exact allCell_cons rfl allCell_nil; rfl) | (apply WOps.purG; rfl; (intro _; rfl)))
    have m5 := f5 [.str xa, .str xb, .int .u64 (.ofNat xc), .int .u64 (.ofNat xd), .int .u64 (.ofNat xe), .int .u64 (.ofNat 0)]
    have w6 := num_le m5 d6
    refine WC.seq (WC.reg ?_)
    repeat' (first
     | apply WOps.nil | apply WC.reg | (apply WOps.clA; rfl; rfl; exact numT2 m5 d6; rintro _ M6 ⟨rfl, g6⟩; obtain ⟨Z6, u6, f6⟩ := g6.st Tk.head) | (apply WOps.st; rfl; rfl; exact u6; rfl; exact allCell_cons rfl allCell_nil; rfl) | (apply WOps.purG; rfl; (intro _; rfl)))
    have m6 := f6 [.str xa, .str xb, .int .u64 (.ofNat xc), .int .u64 (.ofNat xd), .int .u64 (.ofNat xe), .int .u64 (.ofNat xf)]
    repeat' (first
     | (apply WOps.ldG; rfl; rfl; (first | exact ld0 rfl | exact ld1 rfl | exact ld2 rfl); rfl) | (apply WOps.bsl; rfl; (· repeat' (first | rfl | assumption | apply ac1)); intro _) | (apply WOps.ldG; rfl; rfl; exact m6.ld (Ld.cons (Ld.own Tk.head rfl)); rfl))
    rename_i q
    have m := m6.permR (R' := hh ++ ((p8, .row [.str xa, .str xb, .int .u64 (.ofNat xc), .int .u64 (.ofNat xd), .int .u64 (.ofNat xe), .int .u64 (.ofNat xf)]) :: (p3, .row [.int .u64 (.ofNat ix), vn, vs, vc, vi, v, .nilsl, .int .u64 (.ofNat 0), .int .u64 (.ofNat 0), .int .u64 (.ofNat 0), .int .u64 (.ofNat 0), .int .u64 (.ofNat 0), .int .u64 (.ofNat 0), .nilsl]) :: (G ++ ((p4, .row [.int .u64 (.ofNat 0), .nilsl, .nilsl, .nilsl, .nilsl, .nilsl, .nilsl, .int .u64 (.ofNat 0), .int .u64 (.ofNat 0), .int .u64 (.ofNat 0), .int .u64 (.ofNat 0), .int .u64 (.ofNat 0), .int .u64 (.ofNat 0), .nilsl]) :: R)))) (permF (by intro f; simp only [AV.cells, pm] <;> omega))
    obtain ⟨Z, pz, fz⟩ := m.split
    obtain ⟨rw, hrw⟩ : ∃ r : List Fd, r = [.txt xa, .txt xb, .num xc, .num xd, .num xe, .num xf] := ⟨_, rfl⟩
    have a1 : shE rw := ⟨_, _, _, _, _, _, hrw⟩
    have a2 : ∀ f, f ∈ rw → f.wf := by subst hrw; simp only [List.mem_cons, List.not_mem_nil, or_false, forall_eq_or_imp, forall_eq, Fd.wf]; repeat' (first | exact trivial | omega | apply And.intro)
    have a3 : ∀ f, f ∈ rw → f.at B [] := by subst hrw; simp only [List.mem_cons, List.not_mem_nil, or_false, forall_eq_or_imp, forall_eq, Fd.at]; repeat' (first | exact trivial | apply And.intro)
    have a4 := shE_len a1
    have a5 := shE_cell a1 a3
    have a6 : rowC rw = [.str xa, .str xb, .int .u64 (.ofNat xc), .int .u64 (.ofNat xd), .int .u64 (.ofNat xe), .int .u64 (.ofNat xf)] := by subst hrw; rfl
    refine WOps.app (h := hh) (R := (q, .row [.str xa, .str xb, .int .u64 (.ofNat xc), .int .u64 (.ofNat xd), .int .u64 (.ofNat xe), .int .u64 (.ofNat xf)]) :: Z) (n := (acc.map rowC).length) (m := 1) (xs := rowC rw) rfl rfl rfl o ((pz.cons _).trans (permF (by intro f; simp only [AV.cells, pm] <;> omega))) (.inr ⟨_, rfl, .inr (Ld.own Tk.head (by rw [a6]; rfl))⟩) (ac_flat fun x hx => shE_cell (ok x hx).1 (ok x hx).2.2) a5 (by rw [a4.1]) (by rw [List.length_map]; omega) ?_
    intro v2 h4 o2
    have o3 : OwnSl v2 ((acc ++ [rw]).map rowC).flatten ((acc ++ [rw]).map rowC).length 6 h4 := own_snoc o2
    have m9 := ((fz h4).cons (x := (q, .row [.str xa, .str xb, .int .u64 (.ofNat xc), .int .u64 (.ofNat xd), .int .u64 (.ofNat xe), .int .u64 (.ofNat xf)]))).permH (H' := h4 ++ ((q, .row [.str xa, .str xb, .int .u64 (.ofNat xc), .int .u64 (.ofNat xd), .int .u64 (.ofNat xe), .int .u64 (.ofNat xf)]) :: Z)) (permF (by intro f; simp only [AV.cells, pm] <;> omega))
    obtain ⟨Z9, u9, f9⟩ := m9.st (q := p3) (cs := [.int .u64 (.ofNat ix), vn, vs, vc, vi, v, .nilsl, .int .u64 (.ofNat 0), .int .u64 (.ofNat 0), .int .u64 (.ofNat 0), .int .u64 (.ofNat 0), .int .u64 (.ofNat 0), .int .u64 (.ofNat 0), .nilsl]) (R' := (q, .row [.str xa, .str xb, .int .u64 (.ofNat xc), .int .u64 (.ofNat xd), .int .u64 (.ofNat xe), .int .u64 (.ofNat xf)]) :: (p8, .row [.str xa, .str xb, .int .u64 (.ofNat xc), .int .u64 (.ofNat xd), .int .u64 (.ofNat xe), .int .u64 (.ofNat xf)]) :: (h4 ++ (G ++ ((p4, .row [.int .u64 (.ofNat 0), .nilsl, .nilsl, .nilsl, .nilsl, .nilsl, .nilsl, .int .u64 (.ofNat 0), .int .u64 (.ofNat 0), .int .u64 (.ofNat 0), .int .u64 (.ofNat 0), .int .u64 (.ofNat 0), .int .u64 (.ofNat 0), .nilsl]) :: R)))) (permF (by intro f; simp only [AV.cells, pm] <;> omega))
    have mz := f9 [.int .u64 (.ofNat ix), vn, vs, vc, vi, v2, .nilsl, .int .u64 (.ofNat 0), .int .u64 (.ofNat 0), .int .u64 (.ofNat 0), .int .u64 (.ofNat 0), .int .u64 (.ofNat 0), .int .u64 (.ofNat 0), .nilsl]
    repeat' (first
     | apply WOps.nil | apply WC.reg | (apply WOps.st; rfl; rfl; exact u9; exact congrArg List.length (cells1 o3.cell); rw [cells1 o3.cell]; exact allCell_cons o3.cell allCell_nil; rw [cells1 o3.cell]; rfl) | (apply WOps.addN; rfl; rfl; rfl; omega) | (apply WOps.purG; rfl; (intro _; rfl)))
    obtain ⟨H5, b5, s5⟩ := mz.less (R1 := (p3, .row [.int .u64 (.ofNat ix), vn, vs, vc, vi, v2, .nilsl, .int .u64 (.ofNat 0), .int .u64 (.ofNat 0), .int .u64 (.ofNat 0), .int .u64 (.ofNat 0), .int .u64 (.ofNat 0), .int .u64 (.ofNat 0), .nilsl]) :: (h4 ++ (G ++ ((p4, .row [.int .u64 (.ofNat 0), .nilsl, .nilsl, .nilsl, .nilsl, .nilsl, .nilsl, .int .u64 (.ofNat 0), .int .u64 (.ofNat 0), .int .u64 (.ofNat 0), .int .u64 (.ofNat 0), .int .u64 (.ofNat 0), .int .u64 (.ofNat 0), .nilsl]) :: R)))) (subF (by intro f; simp only [AV.cells, pm] <;> omega))
    refine WL.le (Sub1.cons rfl (Sub1.cons rfl (Sub1.cons rfl (Sub1.cons rfl (Sub1.cons rfl Sub1.nil))))) (WL.lessP s5 (ih _ (by omega) (i + 1) _ v2 h4 G o3 (by have := ok_snoc ok a1 a2 a3; rw [List.append_nil] at this; exact this) H5 _ b5 (by rw [List.map_append, List.map_singleton]; subst hrw; exact ht2) (by rw [List.length_append, List.length_singleton]; omega) (by omega) rfl))
   ·have ht2 := tot_end (l := acc.map stripR) ht (loopS_e hs)
    obtain ⟨rfl, rfl⟩ := Prod.mk.inj ht2
    repeat' (first
     | apply WOps.nil | apply WC.seq | apply WC.reg | apply WC.exit | (apply WC.condF; rfl) | (apply WOps.cT; rfl; rfl; rfl; rfl; focus (simp only [cmpP, Int.ofNat_eq_natCast, List.length_cons, List.length_map, List.length_nil, Classical.not_not, not_true_eq_false, not_false_eq_true]; first | done | omega | decide)) | (apply WOps.cF; rfl; rfl; rfl; rfl; focus (simp only [cmpP, Int.ofNat_eq_natCast, List.length_cons, List.length_map, List.length_nil, Classical.not_not, not_true_eq_false, not_false_eq_true]; first | done | omega | decide)) | (apply WOps.ldG; rfl; rfl; exact h2.ldE2; rfl) | (apply WOps.purG; rfl; (intro _; rfl)))
    exact ⟨(v, acc, hh ++ G, H1), (Sub1.cons rfl (Sub1.cons rfl (Sub1.cons rfl Sub1.nil))), SubP.refl, (by simp only [List.append_assoc]; exact h2), got (acc := acc) (hh := hh) (G := G) (v := v) (show acc.length ≤ 64 by omega) (fun r h => (shE_len h).1) ok o, rfl⟩
  ·have ht2 := tot_end (l := acc.map stripR) ht (by rw [show ne - i = 0 by omega]; exact loopS_0)
   obtain ⟨rfl, rfl⟩ := Prod.mk.inj ht2
   repeat' (first
    | apply WOps.nil | apply WC.seq | apply WC.reg | apply WC.exit | (apply WC.condF; rfl) | (apply WOps.cF; rfl; rfl; rfl; rfl; focus (simp only [cmpP, Int.ofNat_eq_natCast, List.length_cons, List.length_map, List.length_nil, Classical.not_not, not_true_eq_false, not_false_eq_true]; first | done | omega | decide)) | (apply WOps.purG; rfl; (intro _; rfl)) | (apply WOps.skp; rfl))
   exact ⟨(v, acc, hh ++ G, H1), (Sub1.cons rfl (Sub1.cons rfl (Sub1.cons rfl Sub1.nil))), SubP.refl, (by simp only [List.append_assoc]; exact h2), got (acc := acc) (hh := hh) (G := G) (v := v) (show acc.length ≤ 64 by omega) (fun r h => (shE_len h).1) ok o, rfl⟩
 rintro ⟨ve, te, Xe, Je⟩ ⟨he, ae, xe⟩
 have ce := ae.sl.cell
 replace he : RdAt B false Je p s1 Y ((p3, .row [.int .u64 (.ofNat ix), vn, vs, vc, vi, ve, .nilsl, .int .u64 (.ofNat 0), .int .u64 (.ofNat 0), .int .u64 (.ofNat 0), .int .u64 (.ofNat 0), .int .u64 (.ofNat 0), .int .u64 (.ofNat 0), .nilsl]) :: (Xe ++ ((p4, .row [.int .u64 (.ofNat 0), .nilsl, .nilsl, .nilsl, .nilsl, .nilsl, .nilsl, .int .u64 (.ofNat 0), .int .u64 (.ofNat 0), .int .u64 (.ofNat 0), .int .u64 (.ofNat 0), .int .u64 (.ofNat 0), .int .u64 (.ofNat 0), .nilsl]) :: R))) := he
 replace ae : LAt B Xe ve 6 shE te := ae
 replace xe : te.map stripR = re := xe
 show WC B tab _ _ _ [(0, .ptr ⟨false, p, 0⟩), (3, .ptr ⟨false, p3, 0⟩), (4, .ptr ⟨false, p4, 0⟩)] Je _
 obtain ⟨nl, yl, enl⟩ : ∃ n y, numS 64 s1 = (n, y) := ⟨_, _, rfl⟩
 have hnl := num_le he enl
 have ewl := e2
 rw [rowsS, enl] at ewl
 dsimp only at ewl
 refine WC.seq (WC.reg ?_)
 repeat' (first
  | apply WOps.nil | (apply WOps.clA; rfl; rfl; exact numT2 he enl; rintro _ Il ⟨rfl, bql⟩) | (apply WOps.cvI; rfl; rfl; omega) | (apply WOps.purG; rfl; (intro _; rfl)))
 refine WC.cut2 (X := AV × List (List Fd) × HL × HL) (fun x => [(0, .ptr ⟨false, p, 0⟩), (3, .ptr ⟨false, p3, 0⟩), (4, .ptr ⟨false, p4, 0⟩)]) (fun x => x.2.2.2) (fun x => RdAt B false x.2.2.2 p s2 Y ((p3, .row [.int .u64 (.ofNat ix), vn, vs, vc, vi, ve, x.1, .int .u64 (.ofNat 0), .int .u64 (.ofNat 0), .int .u64 (.ofNat 0), .int .u64 (.ofNat 0), .int .u64 (.ofNat 0), .int .u64 (.ofNat 0), .nilsl]) :: (x.2.2.1 ++ (Xe ++ ((p4, .row [.int .u64 (.ofNat 0), .nilsl, .nilsl, .nilsl, .nilsl, .nilsl, .nilsl, .int .u64 (.ofNat 0), .int .u64 (.ofNat 0), .int .u64 (.ofNat 0), .int .u64 (.ofNat 0), .int .u64 (.ofNat 0), .int .u64 (.ofNat 0), .nilsl]) :: R)))) ∧ LAt B x.2.2.1 x.1 4 shL x.2.1 ∧ x.2.1.map stripR = rl) ?_ ?_
 ·refine WC.seq (WC.reg ?_)
  repeat' (first
   | apply WOps.nil | apply WC.block | (apply WOps.purG; rfl; (intro _; rfl)))
  refine WC.loop ?_
  obtain ⟨i, hi⟩ : ∃ i : Nat, i = 0 := ⟨0, rfl⟩
  obtain ⟨acc, hacc⟩ : ∃ l : List (List Fd), l = [] := ⟨_, rfl⟩
  obtain ⟨v, hv⟩ : ∃ v : AV, v = .nilsl := ⟨_, rfl⟩
  obtain ⟨hh, hhh⟩ : ∃ l : HL, l = [] := ⟨_, rfl⟩
  obtain ⟨G, hG⟩ : ∃ l : HL, l = [] := ⟨_, rfl⟩
  refine WL.le (t' := [(0, .ptr ⟨false, p, 0⟩), (3, .ptr ⟨false, p3, 0⟩), (4, .ptr ⟨false, p4, 0⟩), (6, .int .i64 (.ofNat nl)), (9, .int .i64 (.ofNat i))]) (by subst hi; exact (Sub1.cons rfl (Sub1.cons rfl (Sub1.cons rfl (Sub1.cons rfl (Sub1.cons rfl Sub1.nil)))))) ?_
  have o : OwnSl v (acc.map rowC).flatten (acc.map rowC).length 4 hh := by subst hv hacc hhh; exact rowC_nil
  have ok : ∀ r, r ∈ acc → shL r ∧ (∀ f, f ∈ r → f.wf) ∧ ∀ f, f ∈ r → f.at B G := by subst hacc; intro r hr; cases hr
  obtain ⟨H1, hH1⟩ : ∃ h, h = Il := ⟨_, rfl⟩
  obtain ⟨sa, hsa⟩ : ∃ y, y = yl := ⟨_, rfl⟩
  have h2 : RdAt B false H1 p sa Y ((p3, .row [.int .u64 (.ofNat ix), vn, vs, vc, vi, ve, v, .int .u64 (.ofNat 0), .int .u64 (.ofNat 0), .int .u64 (.ofNat 0), .int .u64 (.ofNat 0), .int .u64 (.ofNat 0), .int .u64 (.ofNat 0), .nilsl]) :: (hh ++ (G ++ (Xe ++ ((p4, .row [.int .u64 (.ofNat 0), .nilsl, .nilsl, .nilsl, .nilsl, .nilsl, .nilsl, .int .u64 (.ofNat 0), .int .u64 (.ofNat 0), .int .u64 (.ofNat 0), .int .u64 (.ofNat 0), .int .u64 (.ofNat 0), .int .u64 (.ofNat 0), .nilsl]) :: R))))) := by subst hhh hG hv hH1 hsa; exact bql
  have ht : (acc.map stripR ++ (loopS (rdR kL) (nl - i) sa).1, (loopS (rdR kL) (nl - i) sa).2) = (rl, s2) := by subst hi hacc hsa; rw [← ewl]; simp
  have hal : acc.length ≤ i := by subst hacc; simp
  have hle : i ≤ nl := by omega
  have h64 := hnl.1
  rw [show Il = H1 from hH1.symm]
  clear hi hacc hv hhh hG hH1 hsa ewl
  induction hk : nl - i using Nat.strongRecOn generalizing i acc v hh G H1 sa with | _ k ih => ?_
  apply WL.step
  by_cases hlt : i < nl
  ·by_cases hs : sa.2 = 0
   ·obtain ⟨r, sb, er⟩ : ∃ r sb, rdR kL sa = (r, sb) := ⟨_, _, rfl⟩
    have ht2 := tot_step (x := r) (l := (loopS (rdR kL) (nl - (i + 1)) sb).1) (s := (loopS (rdR kL) (nl - (i + 1)) sb).2) ht (by rw [show nl - i = (nl - (i + 1)) + 1 by omega, loopS_s hs, er])
    clear ht
    obtain ⟨xa, z1, d1⟩ : ∃ x y, numS 18446744073709551615 sa = (x, y) := ⟨_, _, rfl⟩
    obtain ⟨xb, z2, d2⟩ : ∃ x y, numS 255 z1 = (x, y) := ⟨_, _, rfl⟩
    obtain ⟨xc, z3, d3⟩ : ∃ x y, numS 18446744073709551615 z2 = (x, y) := ⟨_, _, rfl⟩
    obtain ⟨xd, z4, d4⟩ : ∃ x y, numS 18446744073709551615 z3 = (x, y) := ⟨_, _, rfl⟩
    simp only [kL, rdR, rdF, d1, d2, d3, d4, Prod.mk.injEq] at er
    obtain ⟨rfl, rfl⟩ := er
    refine WC.seq (WC.seq (WC.reg ?_))
    repeat' (first
     | apply WOps.nil | apply WC.skip | (apply WC.condT; rfl) | (apply WOps.cT; rfl; rfl; rfl; rfl; focus (simp only [cmpP, Int.ofNat_eq_natCast, List.length_cons, List.length_map, List.length_nil, Classical.not_not, not_true_eq_false, not_false_eq_true]; first | done | omega | decide)) | (apply WOps.ldG; rfl; rfl; exact h2.ldE2; rfl) | (apply WOps.purG; rfl; (intro _; rfl)))
    refine WC.seq (WC.block (WC.seq (WC.reg ?_)))
    repeat' (first
     | apply WOps.nil | (apply WOps.alc; rfl; intro _))
    rename_i p8
    have m0 := h2.cons (x := (p8, .row [.int .u64 (.ofNat 0), .int .i64 (.ofNat 0), .int .u64 (.ofNat 0), .int .u64 (.ofNat 0)]))
    have w1 := num_le m0 d1
    refine WC.seq (WC.reg ?_)
    repeat' (first
     | apply WOps.nil | (apply WOps.clA; rfl; rfl; exact numT2 m0 d1; rintro _ M1 ⟨rfl, g1⟩; obtain ⟨Z1, u1, f1⟩ := g1.st Tk.head) | (apply WOps.st; rfl; rfl; exact u1; rfl; exact allCell_cons rfl allCell_nil; rfl) | (apply WOps.purG; rfl; (intro _; rfl)))
    have m1 := f1 [.int .u64 (.ofNat xa), .int .i64 (.ofNat 0), .int .u64 (.ofNat 0), .int .u64 (.ofNat 0)]
    have w2 := num_le m1 d2
    refine WC.seq (WC.reg ?_)
    repeat' (first
     | apply WOps.nil | (apply WOps.clA; rfl; rfl; exact numT2 m1 d2; rintro _ M2 ⟨rfl, g2⟩; obtain ⟨Z2, u2, f2⟩ := g2.st Tk.head) | (apply WOps.st; rfl; rfl; exact u2; rfl; exact allCell_cons rfl allCell_nil; rfl) | (apply WOps.cvI; rfl; rfl; omega) | (apply WOps.purG; rfl; (intro _; rfl)))
    have m2 := f2 [.int .u64 (.ofNat xa), .int .i64 (.ofNat xb), .int .u64 (.ofNat 0), .int .u64 (.ofNat 0)]
    have w3 := num_le m2 d3
    refine WC.seq (WC.reg ?_)
    repeat' (first
     | apply WOps.nil | (apply WOps.clA; rfl; rfl; exact numT2 m2 d3; rintro _ M3 ⟨rfl, g3⟩; obtain ⟨Z3, u3, f3⟩ := g3.st Tk.head) | (apply WOps.st; rfl; rfl; exact u3; rfl; exact allCell_cons rfl allCell_nil; rfl) | (apply WOps.purG; rfl; (intro _; rfl)))
    have m3 := f3 [.int .u64 (.ofNat xa), .int .i64 (.ofNat xb), .int .u64 (.ofNat xc), .int .u64 (.ofNat 0)]
    have w4 := num_le m3 d4
    refine WC.seq (WC.reg ?_)
    repeat' (first
     | apply WOps.nil | apply WC.reg | (apply WOps.clA; rfl; rfl; exact numT2 m3 d4; rintro _ M4 ⟨rfl, g4⟩; obtain ⟨Z4, u4, f4⟩ := g4.st Tk.head) | (apply WOps.st; rfl; rfl; exact u4; rfl; exact allCell_cons rfl allCell_nil; rfl) | (apply WOps.purG; rfl; (intro _; rfl)))
    have m4 := f4 [.int .u64 (.ofNat xa), .int .i64 (.ofNat xb), .int .u64 (.ofNat xc), .int .u64 (.ofNat xd)]
    repeat' (first
     | (apply WOps.ldG; rfl; rfl; (first | exact ld0 rfl | exact ld1 rfl | exact ld2 rfl); rfl) | (apply WOps.bsl; rfl; (· repeat' (first | rfl | assumption | apply ac1)); intro _) | (apply WOps.ldG; rfl; rfl; exact m4.ld (Ld.cons (Ld.own Tk.head rfl)); rfl))
    rename_i q
    have m := m4.permR (R' := hh ++ ((p8, .row [.int .u64 (.ofNat xa), .int .i64 (.ofNat xb), .int .u64 (.ofNat xc), .int .u64 (.ofNat xd)]) :: (p3, .row [.int .u64 (.ofNat ix), vn, vs, vc, vi, ve, v, .int .u64 (.ofNat 0), .int .u64 (.ofNat 0), .int .u64 (.ofNat 0), .int .u64 (.ofNat 0), .int .u64 (.ofNat 0), .int .u64 (.ofNat 0), .nilsl]) :: (G ++ (Xe ++ ((p4, .row [.int .u64 (.ofNat 0), .nilsl, .nilsl, .nilsl, .nilsl, .nilsl, .nilsl, .int .u64 (.ofNat 0), .int .u64 (.ofNat 0), .int .u64 (.ofNat 0), .int .u64 (.ofNat 0), .int .u64 (.ofNat 0), .int .u64 (.ofNat 0), .nilsl]) :: R))))) (permF (by intro f; simp only [AV.cells, pm] <;> omega))
    obtain ⟨Z, pz, fz⟩ := m.split
    obtain ⟨rw, hrw⟩ : ∃ r : List Fd, r = [.num xa, .int (.ofNat xb) 255, .num xc, .num xd] := ⟨_, rfl⟩
    have a1 : shL rw := ⟨_, _, _, _, hrw⟩
    have a2 : ∀ f, f ∈ rw → f.wf := by subst hrw; simp only [List.mem_cons, List.not_mem_nil, or_false, forall_eq_or_imp, forall_eq, Fd.wf]; repeat' (first | exact trivial | omega | apply And.intro)
    have a3 : ∀ f, f ∈ rw → f.at B [] := by subst hrw; simp only [List.mem_cons, List.not_mem_nil, or_false, forall_eq_or_imp, forall_eq, Fd.at]; repeat' (first | exact trivial | apply And.intro)
    have a4 := shL_len a1
    have a5 := shL_cell a1 a3
    have a6 : rowC rw = [.int .u64 (.ofNat xa), .int .i64 (.ofNat xb), .int .u64 (.ofNat xc), .int .u64 (.ofNat xd)] := by subst hrw; rfl
    refine WOps.app (h := hh) (R := (q, .row [.int .u64 (.ofNat xa), .int .i64 (.ofNat xb), .int .u64 (.ofNat xc), .int .u64 (.ofNat xd)]) :: Z) (n := (acc.map rowC).length) (m := 1) (xs := rowC rw) rfl rfl rfl o ((pz.cons _).trans (permF (by intro f; simp only [AV.cells, pm] <;> omega))) (.inr ⟨_, rfl, .inr (Ld.own Tk.head (by rw [a6]; rfl))⟩) (ac_flat fun x hx => shL_cell (ok x hx).1 (ok x hx).2.2) a5 (by rw [a4.1]) (by rw [List.length_map]; omega) ?_
    intro v2 h4 o2
    have o3 : OwnSl v2 ((acc ++ [rw]).map rowC).flatten ((acc ++ [rw]).map rowC).length 4 h4 := own_snoc o2
    have m9 := ((fz h4).cons (x := (q, .row [.int .u64 (.ofNat xa), .int .i64 (.ofNat xb), .int .u64 (.ofNat xc), .int .u64 (.ofNat xd)]))).permH (H' := h4 ++ ((q, .row [.int .u64 (.ofNat xa), .int .i64 (.ofNat xb), .int .u64 (.ofNat xc), .int .u64 (.ofNat xd)]) :: Z)) (permF (by intro f; simp only [AV.cells, pm] <;> omega))
    obtain ⟨Z9, u9, f9⟩ := m9.st (q := p3) (cs := [.int .u64 (.ofNat ix), vn, vs, vc, vi, ve, v, .int .u64 (.ofNat 0), .int .u64 (.ofNat 0), .int .u64 (.ofNat 0), .int .u64 (.ofNat 0), .int .u64 (.ofNat 0), .int .u64 (.ofNat 0), .nilsl]) (R' := (q, .row [.int .u64 (.ofNat xa), .int .i64 (.ofNat xb), .int .u64 (.ofNat xc), .int .u64 (.ofNat xd)]) :: (p8, .row [.int .u64 (.ofNat xa), .int .i64 (.ofNat xb), .int .u64 (.ofNat xc), .int .u64 (.ofNat xd)]) :: (h4 ++ (G ++ (Xe ++ ((p4, .row [.int .u64 (.ofNat 0), .nilsl, .nilsl, .nilsl, .nilsl, .nilsl, .nilsl, .int .u64 (.ofNat 0), .int .u64 (.ofNat 0), .int .u64 (.ofNat 0), .int .u64 (.ofNat 0), .int .u64 (.ofNat 0), .int .u64 (.ofNat 0), .nilsl]) :: R))))) (permF (by intro f; simp only [AV.cells, pm] <;> omega))
    have mz := f9 [.int .u64 (.ofNat ix), vn, vs, vc, vi, ve, v2, .int .u64 (.ofNat 0), .int .u64 (.ofNat 0), .int .u64 (.ofNat 0), .int .u64 (.ofNat 0), .int .u64 (.ofNat 0), .int .u64 (.ofNat 0), .nilsl]
    repeat' (first
     | apply WOps.nil | apply WC.reg | (apply WOps.st; rfl; rfl; exact u9; exact congrArg List.length (cells1 o3.cell); rw [cells1 o3.cell]; exact allCell_cons o3.cell allCell_nil; rw [cells1 o3.cell]; rfl) | (apply WOps.addN; rfl; rfl; rfl; omega) | (apply WOps.purG; rfl; (intro _; rfl)))
    obtain ⟨H5, b5, s5⟩ := mz.less (R1 := (p3, .row [.int .u64 (.ofNat ix), vn, vs, vc, vi, ve, v2, .int .u64 (.ofNat 0), .int .u64 (.ofNat 0), .int .u64 (.ofNat 0), .int .u64 (.ofNat 0), .int .u64 (.ofNat 0), .int .u64 (.ofNat 0), .nilsl]) :: (h4 ++ (G ++ (Xe ++ ((p4, .row [.int .u64 (.ofNat 0), .nilsl, .nilsl, .nilsl, .nilsl, .nilsl, .nilsl, .int .u64 (.ofNat 0), .int .u64 (.ofNat 0), .int .u64 (.ofNat 0), .int .u64 (.ofNat 0), .int .u64 (.ofNat 0), .int .u64 (.ofNat 0), .nilsl]) :: R))))) (subF (by intro f; simp only [AV.cells, pm] <;> omega))
    refine WL.le (Sub1.cons rfl (Sub1.cons rfl (Sub1.cons rfl (Sub1.cons rfl (Sub1.cons rfl Sub1.nil))))) (WL.lessP s5 (ih _ (by omega) (i + 1) _ v2 h4 G o3 (by have := ok_snoc ok a1 a2 a3; rw [List.append_nil] at this; exact this) H5 _ b5 (by rw [List.map_append, List.map_singleton]; subst hrw; exact ht2) (by rw [List.length_append, List.length_singleton]; omega) (by omega) rfl))
   ·have ht2 := tot_end (l := acc.map stripR) ht (loopS_e hs)
    obtain ⟨rfl, rfl⟩ := Prod.mk.inj ht2
    repeat' (first
     | apply WOps.nil | apply WC.seq | apply WC.reg | apply WC.exit | (apply WC.condF; rfl) | (apply WOps.cT; rfl; rfl; rfl; rfl; focus (simp only [cmpP, Int.ofNat_eq_natCast, List.length_cons, List.length_map, List.length_nil, Classical.not_not, not_true_eq_false, not_false_eq_true]; first | done | omega | decide)) | (apply WOps.cF; rfl; rfl; rfl; rfl; focus (simp only [cmpP, Int.ofNat_eq_natCast, List.length_cons, List.length_map, List.length_nil, Classical.not_not, not_true_eq_false, not_false_eq_true]; first | done | omega | decide)) | (apply WOps.ldG; rfl; rfl; exact h2.ldE2; rfl) | (apply WOps.purG; rfl; (intro _; rfl)))
    exact ⟨(v, acc, hh ++ G, H1), (Sub1.cons rfl (Sub1.cons rfl (Sub1.cons rfl Sub1.nil))), SubP.refl, (by simp only [List.append_assoc]; exact h2), got (acc := acc) (hh := hh) (G := G) (v := v) (show acc.length ≤ 64 by omega) (fun r h => (shL_len h).1) ok o, rfl⟩
  ·have ht2 := tot_end (l := acc.map stripR) ht (by rw [show nl - i = 0 by omega]; exact loopS_0)
   obtain ⟨rfl, rfl⟩ := Prod.mk.inj ht2
   repeat' (first
    | apply WOps.nil | apply WC.seq | apply WC.reg | apply WC.exit | (apply WC.condF; rfl) | (apply WOps.cF; rfl; rfl; rfl; rfl; focus (simp only [cmpP, Int.ofNat_eq_natCast, List.length_cons, List.length_map, List.length_nil, Classical.not_not, not_true_eq_false, not_false_eq_true]; first | done | omega | decide)) | (apply WOps.purG; rfl; (intro _; rfl)) | (apply WOps.skp; rfl))
   exact ⟨(v, acc, hh ++ G, H1), (Sub1.cons rfl (Sub1.cons rfl (Sub1.cons rfl Sub1.nil))), SubP.refl, (by simp only [List.append_assoc]; exact h2), got (acc := acc) (hh := hh) (G := G) (v := v) (show acc.length ≤ 64 by omega) (fun r h => (shL_len h).1) ok o, rfl⟩
 rintro ⟨vl, tl, Xl, Jl⟩ ⟨hl, al, xl⟩
 have cl := al.sl.cell
 replace hl : RdAt B false Jl p s2 Y ((p3, .row [.int .u64 (.ofNat ix), vn, vs, vc, vi, ve, vl, .int .u64 (.ofNat 0), .int .u64 (.ofNat 0), .int .u64 (.ofNat 0), .int .u64 (.ofNat 0), .int .u64 (.ofNat 0), .int .u64 (.ofNat 0), .nilsl]) :: (Xl ++ (Xe ++ ((p4, .row [.int .u64 (.ofNat 0), .nilsl, .nilsl, .nilsl, .nilsl, .nilsl, .nilsl, .int .u64 (.ofNat 0), .int .u64 (.ofNat 0), .int .u64 (.ofNat 0), .int .u64 (.ofNat 0), .int .u64 (.ofNat 0), .int .u64 (.ofNat 0), .nilsl]) :: R)))) := hl
 replace al : LAt B Xl vl 4 shL tl := al
 replace xl : tl.map stripR = rl := xl
 show WC B tab _ _ _ [(0, .ptr ⟨false, p, 0⟩), (3, .ptr ⟨false, p3, 0⟩), (4, .ptr ⟨false, p4, 0⟩)] Jl _
 refine WC.seq (WC.seq (WC.reg ?_))
 repeat' (first
  | apply WOps.nil | apply WC.block | (apply WOps.purG; rfl; (intro _; rfl)))
 refine WC.loop ?_
 have q0 := num_le hl e3
 refine WL.le (t' := [(0, .ptr ⟨false, p, 0⟩), (3, .ptr ⟨false, p3, 0⟩), (4, .ptr ⟨false, p4, 0⟩), (11, .int .i64 (.ofNat 0))]) (Sub1.cons rfl (Sub1.cons rfl (Sub1.cons rfl (Sub1.cons rfl Sub1.nil)))) ?_
 apply WL.step
 repeat' (first
  | apply WOps.nil | apply WC.seq | apply WC.reg | apply WC.skip | (apply WC.condT; rfl) | apply WC.block | (apply WOps.cT; rfl; rfl; rfl; rfl; focus (simp only [cmpP, Int.ofNat_eq_natCast, List.length_cons, List.length_map, List.length_nil, Classical.not_not, not_true_eq_false, not_false_eq_true]; first | done | omega | decide)) | (apply WOps.clA; rfl; rfl; exact numT2 hl e3; rintro _ H0 ⟨rfl, g0⟩; obtain ⟨Z0, u0, f0⟩ := g0.st Tk.head) | (apply WOps.ixA; rfl; rfl; omega) | (apply WOps.st; rfl; rfl; exact u0; rfl; exact allCell_cons rfl allCell_nil; rfl) | (apply WOps.addN; rfl; rfl; rfl; omega) | (apply WOps.purG; rfl; (intro _; rfl)))
 have k0 := f0 [.int .u64 (.ofNat ix), vn, vs, vc, vi, ve, vl, .int .u64 (.ofNat l0), .int .u64 (.ofNat 0), .int .u64 (.ofNat 0), .int .u64 (.ofNat 0), .int .u64 (.ofNat 0), .int .u64 (.ofNat 0), .nilsl]
 have q1 := num_le k0 e4
 refine WL.le (t' := [(0, .ptr ⟨false, p, 0⟩), (3, .ptr ⟨false, p3, 0⟩), (4, .ptr ⟨false, p4, 0⟩), (11, .int .i64 (.ofNat 1))]) (Sub1.cons rfl (Sub1.cons rfl (Sub1.cons rfl (Sub1.cons rfl Sub1.nil)))) ?_
 apply WL.step
 repeat' (first
  | apply WOps.nil | apply WC.seq | apply WC.reg | apply WC.skip | (apply WC.condT; rfl) | apply WC.block | (apply WOps.cT; rfl; rfl; rfl; rfl; focus (simp only [cmpP, Int.ofNat_eq_natCast, List.length_cons, List.length_map, List.length_nil, Classical.not_not, not_true_eq_false, not_false_eq_true]; first | done | omega | decide)) | (apply WOps.clA; rfl; rfl; exact numT2 k0 e4; rintro _ H1 ⟨rfl, g1⟩; obtain ⟨Z1, u1, f1⟩ := g1.st Tk.head) | (apply WOps.ixA; rfl; rfl; omega) | (apply WOps.st; rfl; rfl; exact u1; rfl; exact allCell_cons rfl allCell_nil; rfl) | (apply WOps.addN; rfl; rfl; rfl; omega) | (apply WOps.purG; rfl; (intro _; rfl)))
 have k1 := f1 [.int .u64 (.ofNat ix), vn, vs, vc, vi, ve, vl, .int .u64 (.ofNat l0), .int .u64 (.ofNat l1), .int .u64 (.ofNat 0), .int .u64 (.ofNat 0), .int .u64 (.ofNat 0), .int .u64 (.ofNat 0), .nilsl]
 have q2 := num_le k1 e5
 refine WL.le (t' := [(0, .ptr ⟨false, p, 0⟩), (3, .ptr ⟨false, p3, 0⟩), (4, .ptr ⟨false, p4, 0⟩), (11, .int .i64 (.ofNat 2))]) (Sub1.cons rfl (Sub1.cons rfl (Sub1.cons rfl (Sub1.cons rfl Sub1.nil)))) ?_
 apply WL.step
 repeat' (first
  | apply WOps.nil | apply WC.seq | apply WC.reg | apply WC.skip | (apply WC.condT; rfl) | apply WC.block | (apply WOps.cT; rfl; rfl; rfl; rfl; focus (simp only [cmpP, Int.ofNat_eq_natCast, List.length_cons, List.length_map, List.length_nil, Classical.not_not, not_true_eq_false, not_false_eq_true]; first | done | omega | decide)) | (apply WOps.clA; rfl; rfl; exact numT2 k1 e5; rintro _ H2 ⟨rfl, g2⟩; obtain ⟨Z2, u2, f2⟩ := g2.st Tk.head) | (apply WOps.ixA; rfl; rfl; omega) | (apply WOps.st; rfl; rfl; exact u2; rfl; exact allCell_cons rfl allCell_nil; rfl) | (apply WOps.addN; rfl; rfl; rfl; omega) | (apply WOps.purG; rfl; (intro _; rfl)))
 have k2 := f2 [.int .u64 (.ofNat ix), vn, vs, vc, vi, ve, vl, .int .u64 (.ofNat l0), .int .u64 (.ofNat l1), .int .u64 (.ofNat l2), .int .u64 (.ofNat 0), .int .u64 (.ofNat 0), .int .u64 (.ofNat 0), .nilsl]
 have q3 := num_le k2 e6
 refine WL.le (t' := [(0, .ptr ⟨false, p, 0⟩), (3, .ptr ⟨false, p3, 0⟩), (4, .ptr ⟨false, p4, 0⟩), (11, .int .i64 (.ofNat 3))]) (Sub1.cons rfl (Sub1.cons rfl (Sub1.cons rfl (Sub1.cons rfl Sub1.nil)))) ?_
 apply WL.step
 repeat' (first
  | apply WOps.nil | apply WC.seq | apply WC.reg | apply WC.skip | (apply WC.condT; rfl) | apply WC.block | (apply WOps.cT; rfl; rfl; rfl; rfl; focus (simp only [cmpP, Int.ofNat_eq_natCast, List.length_cons, List.length_map, List.length_nil, Classical.not_not, not_true_eq_false, not_false_eq_true]; first | done | omega | decide)) | (apply WOps.clA; rfl; rfl; exact numT2 k2 e6; rintro _ H3 ⟨rfl, g3⟩; obtain ⟨Z3, u3, f3⟩ := g3.st Tk.head) | (apply WOps.ixA; rfl; rfl; omega) | (apply WOps.st; rfl; rfl; exact u3; rfl; exact allCell_cons rfl allCell_nil; rfl) | (apply WOps.addN; rfl; rfl; rfl; omega) | (apply WOps.purG; rfl; (intro _; rfl)))
 have k3 := f3 [.int .u64 (.ofNat ix), vn, vs, vc, vi, ve, vl, .int .u64 (.ofNat l0), .int .u64 (.ofNat l1), .int .u64 (.ofNat l2), .int .u64 (.ofNat l3), .int .u64 (.ofNat 0), .int .u64 (.ofNat 0), .nilsl]
 have q4 := num_le k3 e7
 refine WL.le (t' := [(0, .ptr ⟨false, p, 0⟩), (3, .ptr ⟨false, p3, 0⟩), (4, .ptr ⟨false, p4, 0⟩), (11, .int .i64 (.ofNat 4))]) (Sub1.cons rfl (Sub1.cons rfl (Sub1.cons rfl (Sub1.cons rfl Sub1.nil)))) ?_
 apply WL.step
 repeat' (first
  | apply WOps.nil | apply WC.seq | apply WC.reg | apply WC.skip | (apply WC.condT; rfl) | apply WC.block | (apply WOps.cT; rfl; rfl; rfl; rfl; focus (simp only [cmpP, Int.ofNat_eq_natCast, List.length_cons, List.length_map, List.length_nil, Classical.not_not, not_true_eq_false, not_false_eq_true]; first | done | omega | decide)) | (apply WOps.clA; rfl; rfl; exact numT2 k3 e7; rintro _ H4 ⟨rfl, g4⟩; obtain ⟨Z4, u4, f4⟩ := g4.st Tk.head) | (apply WOps.ixA; rfl; rfl; omega) | (apply WOps.st; rfl; rfl; exact u4; rfl; exact allCell_cons rfl allCell_nil; rfl) | (apply WOps.addN; rfl; rfl; rfl; omega) | (apply WOps.purG; rfl; (intro _; rfl)))
 have k4 := f4 [.int .u64 (.ofNat ix), vn, vs, vc, vi, ve, vl, .int .u64 (.ofNat l0), .int .u64 (.ofNat l1), .int .u64 (.ofNat l2), .int .u64 (.ofNat l3), .int .u64 (.ofNat l4), .int .u64 (.ofNat 0), .nilsl]
 have q5 := num_le k4 e8
 refine WL.le (t' := [(0, .ptr ⟨false, p, 0⟩), (3, .ptr ⟨false, p3, 0⟩), (4, .ptr ⟨false, p4, 0⟩), (11, .int .i64 (.ofNat 5))]) (Sub1.cons rfl (Sub1.cons rfl (Sub1.cons rfl (Sub1.cons rfl Sub1.nil)))) ?_
 apply WL.step
 repeat' (first
  | apply WOps.nil | apply WC.seq | apply WC.reg | apply WC.skip | (apply WC.condT; rfl) | apply WC.block | (apply WOps.cT; rfl; rfl; rfl; rfl; focus (simp only [cmpP, Int.ofNat_eq_natCast, List.length_cons, List.length_map, List.length_nil, Classical.not_not, not_true_eq_false, not_false_eq_true]; first | done | omega | decide)) | (apply WOps.clA; rfl; rfl; exact numT2 k4 e8; rintro _ H5 ⟨rfl, g5⟩; obtain ⟨Z5, u5, f5⟩ := g5.st Tk.head) | (apply WOps.ixA; rfl; rfl; omega) | (apply WOps.st; rfl; rfl; exact u5; rfl; exact allCell_cons rfl allCell_nil; rfl) | (apply WOps.addN; rfl; rfl; rfl; omega) | (apply WOps.purG; rfl; (intro _; rfl)))
 have k5 := f5 [.int .u64 (.ofNat ix), vn, vs, vc, vi, ve, vl, .int .u64 (.ofNat l0), .int .u64 (.ofNat l1), .int .u64 (.ofNat l2), .int .u64 (.ofNat l3), .int .u64 (.ofNat l4), .int .u64 (.ofNat l5), .nilsl]
 refine WL.le (t' := [(0, .ptr ⟨false, p, 0⟩), (3, .ptr ⟨false, p3, 0⟩), (4, .ptr ⟨false, p4, 0⟩), (11, .int .i64 (.ofNat 6))]) (Sub1.cons rfl (Sub1.cons rfl (Sub1.cons rfl (Sub1.cons rfl Sub1.nil)))) ?_
 apply WL.step
 refine WC.seq (WC.seq (WC.reg ?_))
 repeat' (first
  | apply WOps.nil | apply WC.exit | (apply WC.condF; rfl) | (apply WOps.cF; rfl; rfl; rfl; rfl; focus (simp only [cmpP, Int.ofNat_eq_natCast, List.length_cons, List.length_map, List.length_nil, Classical.not_not, not_true_eq_false, not_false_eq_true]; first | done | omega | decide)) | (apply WOps.purG; rfl; (intro _; rfl)))
 obtain ⟨nq, yq, enq⟩ : ∃ n y, numS 64 s8 = (n, y) := ⟨_, _, rfl⟩
 have hnq := num_le k5 enq
 have ewq := e9
 rw [rowsS, enq] at ewq
 dsimp only at ewq
 refine WC.seq (WC.reg ?_)
 repeat' (first
  | apply WOps.nil | (apply WOps.clA; rfl; rfl; exact numT2 k5 enq; rintro _ Iq ⟨rfl, bqq⟩) | (apply WOps.cvI; rfl; rfl; omega) | (apply WOps.purG; rfl; (intro _; rfl)))
 refine WC.cut2 (X := AV × List (List Fd) × HL × HL) (fun x => [(0, .ptr ⟨false, p, 0⟩), (3, .ptr ⟨false, p3, 0⟩), (4, .ptr ⟨false, p4, 0⟩)]) (fun x => x.2.2.2) (fun x => RdAt B false x.2.2.2 p s9 Y ((p3, .row [.int .u64 (.ofNat ix), vn, vs, vc, vi, ve, vl, .int .u64 (.ofNat l0), .int .u64 (.ofNat l1), .int .u64 (.ofNat l2), .int .u64 (.ofNat l3), .int .u64 (.ofNat l4), .int .u64 (.ofNat l5), x.1]) :: (x.2.2.1 ++ (Xl ++ (Xe ++ ((p4, .row [.int .u64 (.ofNat 0), .nilsl, .nilsl, .nilsl, .nilsl, .nilsl, .nilsl, .int .u64 (.ofNat 0), .int .u64 (.ofNat 0), .int .u64 (.ofNat 0), .int .u64 (.ofNat 0), .int .u64 (.ofNat 0), .int .u64 (.ofNat 0), .nilsl]) :: R))))) ∧ LAt B x.2.2.1 x.1 3 shQ x.2.1 ∧ x.2.1.map stripR = rq) ?_ ?_
 ·refine WC.seq (WC.reg ?_)
  repeat' (first
   | apply WOps.nil | apply WC.block | (apply WOps.purG; rfl; (intro _; rfl)))
  refine WC.loop ?_
  obtain ⟨i, hi⟩ : ∃ i : Nat, i = 0 := ⟨0, rfl⟩
  obtain ⟨acc, hacc⟩ : ∃ l : List (List Fd), l = [] := ⟨_, rfl⟩
  obtain ⟨v, hv⟩ : ∃ v : AV, v = .nilsl := ⟨_, rfl⟩
  obtain ⟨hh, hhh⟩ : ∃ l : HL, l = [] := ⟨_, rfl⟩
  obtain ⟨G, hG⟩ : ∃ l : HL, l = [] := ⟨_, rfl⟩
  refine WL.le (t' := [(0, .ptr ⟨false, p, 0⟩), (3, .ptr ⟨false, p3, 0⟩), (4, .ptr ⟨false, p4, 0⟩), (6, .int .i64 (.ofNat nq)), (12, .int .i64 (.ofNat i))]) (by subst hi; exact (Sub1.cons rfl (Sub1.cons rfl (Sub1.cons rfl (Sub1.cons rfl (Sub1.cons rfl Sub1.nil)))))) ?_
  have o : OwnSl v (acc.map rowC).flatten (acc.map rowC).length 3 hh := by subst hv hacc hhh; exact rowC_nil
  have ok : ∀ r, r ∈ acc → shQ r ∧ (∀ f, f ∈ r → f.wf) ∧ ∀ f, f ∈ r → f.at B G := by subst hacc; intro r hr; cases hr
  obtain ⟨H1, hH1⟩ : ∃ h, h = Iq := ⟨_, rfl⟩
  obtain ⟨sa, hsa⟩ : ∃ y, y = yq := ⟨_, rfl⟩
  have h2 : RdAt B false H1 p sa Y ((p3, .row [.int .u64 (.ofNat ix), vn, vs, vc, vi, ve, vl, .int .u64 (.ofNat l0), .int .u64 (.ofNat l1), .int .u64 (.ofNat l2), .int .u64 (.ofNat l3), .int .u64 (.ofNat l4), .int .u64 (.ofNat l5), v]) :: (hh ++ (G ++ (Xl ++ (Xe ++ ((p4, .row [.int .u64 (.ofNat 0), .nilsl, .nilsl, .nilsl, .nilsl, .nilsl, .nilsl, .int .u64 (.ofNat 0), .int .u64 (.ofNat 0), .int .u64 (.ofNat 0), .int .u64 (.ofNat 0), .int .u64 (.ofNat 0), .int .u64 (.ofNat 0), .nilsl]) :: R)))))) := by subst hhh hG hv hH1 hsa; exact bqq
  have ht : (acc.map stripR ++ (loopS (rdR kQ) (nq - i) sa).1, (loopS (rdR kQ) (nq - i) sa).2) = (rq, s9) := by subst hi hacc hsa; rw [← ewq]; simp
  have hal : acc.length ≤ i := by subst hacc; simp
  have hle : i ≤ nq := by omega
  have h64 := hnq.1
  rw [show Iq = H1 from hH1.symm]
  clear hi hacc hv hhh hG hH1 hsa ewq
  induction hk : nq - i using Nat.strongRecOn generalizing i acc v hh G H1 sa with | _ k ih => ?_
  apply WL.step
  by_cases hlt : i < nq
  ·by_cases hs : sa.2 = 0
   ·obtain ⟨r, sb, er⟩ : ∃ r sb, rdR kQ sa = (r, sb) := ⟨_, _, rfl⟩
    have ht2 := tot_step (x := r) (l := (loopS (rdR kQ) (nq - (i + 1)) sb).1) (s := (loopS (rdR kQ) (nq - (i + 1)) sb).2) ht (by rw [show nq - i = (nq - (i + 1)) + 1 by omega, loopS_s hs, er])
    clear ht
    obtain ⟨xa, z1, d1⟩ : ∃ x y, numS 255 sa = (x, y) := ⟨_, _, rfl⟩
    obtain ⟨xb, z2, d2⟩ : ∃ x y, numS 4294967295 z1 = (x, y) := ⟨_, _, rfl⟩
    obtain ⟨xc, z3, d3⟩ : ∃ x y, numS 18446744073709551615 z2 = (x, y) := ⟨_, _, rfl⟩
    simp only [kQ, rdR, rdF, d1, d2, d3, Prod.mk.injEq] at er
    obtain ⟨rfl, rfl⟩ := er
    refine WC.seq (WC.seq (WC.reg ?_))
    repeat' (first
     | apply WOps.nil | apply WC.skip | (apply WC.condT; rfl) | (apply WOps.cT; rfl; rfl; rfl; rfl; focus (simp only [cmpP, Int.ofNat_eq_natCast, List.length_cons, List.length_map, List.length_nil, Classical.not_not, not_true_eq_false, not_false_eq_true]; first | done | omega | decide)) | (apply WOps.ldG; rfl; rfl; exact h2.ldE2; rfl) | (apply WOps.purG; rfl; (intro _; rfl)))
    refine WC.seq (WC.block (WC.seq (WC.reg ?_)))
    repeat' (first
     | apply WOps.nil | (apply WOps.alc; rfl; intro _))
    rename_i p8
    have m0 := h2.cons (x := (p8, .row [.int .i64 (.ofNat 0), .int .u32 (.ofNat 0), .int .u64 (.ofNat 0)]))
    have w1 := num_le m0 d1
    refine WC.seq (WC.reg ?_)
    repeat' (first
     | apply WOps.nil | (apply WOps.clA; rfl; rfl; exact numT2 m0 d1; rintro _ M1 ⟨rfl, g1⟩; obtain ⟨Z1, u1, f1⟩ := g1.st Tk.head) | (apply WOps.st; rfl; rfl; exact u1; rfl; exact allCell_cons rfl allCell_nil; rfl) | (apply WOps.cvI; rfl; rfl; omega) | (apply WOps.purG; rfl; (intro _; rfl)))
    have m1 := f1 [.int .i64 (.ofNat xa), .int .u32 (.ofNat 0), .int .u64 (.ofNat 0)]
    have w2 := num_le m1 d2
    refine WC.seq (WC.reg ?_)
    repeat' (first
     | apply WOps.nil | (apply WOps.clA; rfl; rfl; exact numT2 m1 d2; rintro _ M2 ⟨rfl, g2⟩; obtain ⟨Z2, u2, f2⟩ := g2.st Tk.head) | (apply WOps.st; rfl; rfl; exact u2; rfl; exact allCell_cons rfl allCell_nil; rfl) | (apply WOps.cv32; rfl; rfl; omega) | (apply WOps.purG; rfl; (intro _; rfl)))
    have m2 := f2 [.int .i64 (.ofNat xa), .int .u32 (.ofNat xb), .int .u64 (.ofNat 0)]
    have w3 := num_le m2 d3
    refine WC.seq (WC.reg ?_)
    repeat' (first
     | apply WOps.nil | apply WC.reg | (apply WOps.clA; rfl; rfl; exact numT2 m2 d3; rintro _ M3 ⟨rfl, g3⟩; obtain ⟨Z3, u3, f3⟩ := g3.st Tk.head) | (apply WOps.st; rfl; rfl; exact u3; rfl; exact allCell_cons rfl allCell_nil; rfl) | (apply WOps.purG; rfl; (intro _; rfl)))
    have m3 := f3 [.int .i64 (.ofNat xa), .int .u32 (.ofNat xb), .int .u64 (.ofNat xc)]
    repeat' (first
     | (apply WOps.ldG; rfl; rfl; (first | exact ld0 rfl | exact ld1 rfl | exact ld2 rfl); rfl) | (apply WOps.bsl; rfl; (· repeat' (first | rfl | assumption | apply ac1)); intro _) | (apply WOps.ldG; rfl; rfl; exact m3.ld (Ld.cons (Ld.own Tk.head rfl)); rfl))
    rename_i q
    have m := m3.permR (R' := hh ++ ((p8, .row [.int .i64 (.ofNat xa), .int .u32 (.ofNat xb), .int .u64 (.ofNat xc)]) :: (p3, .row [.int .u64 (.ofNat ix), vn, vs, vc, vi, ve, vl, .int .u64 (.ofNat l0), .int .u64 (.ofNat l1), .int .u64 (.ofNat l2), .int .u64 (.ofNat l3), .int .u64 (.ofNat l4), .int .u64 (.ofNat l5), v]) :: (G ++ (Xl ++ (Xe ++ ((p4, .row [.int .u64 (.ofNat 0), .nilsl, .nilsl, .nilsl, .nilsl, .nilsl, .nilsl, .int .u64 (.ofNat 0), .int .u64 (.ofNat 0), .int .u64 (.ofNat 0), .int .u64 (.ofNat 0), .int .u64 (.ofNat 0), .int .u64 (.ofNat 0), .nilsl]) :: R)))))) (permF (by intro f; simp only [AV.cells, pm] <;> omega))
    obtain ⟨Z, pz, fz⟩ := m.split
    obtain ⟨rw, hrw⟩ : ∃ r : List Fd, r = [.int (.ofNat xa) 255, .u32 xb, .num xc] := ⟨_, rfl⟩
    have a1 : shQ rw := ⟨_, _, _, hrw⟩
    have a2 : ∀ f, f ∈ rw → f.wf := by subst hrw; simp only [List.mem_cons, List.not_mem_nil, or_false, forall_eq_or_imp, forall_eq, Fd.wf]; repeat' (first | exact trivial | omega | apply And.intro)
    have a3 : ∀ f, f ∈ rw → f.at B [] := by subst hrw; simp only [List.mem_cons, List.not_mem_nil, or_false, forall_eq_or_imp, forall_eq, Fd.at]; repeat' (first | exact trivial | apply And.intro)
    have a4 := shQ_len a1
    have a5 := shQ_cell a1 a3
    have a6 : rowC rw = [.int .i64 (.ofNat xa), .int .u32 (.ofNat xb), .int .u64 (.ofNat xc)] := by subst hrw; rfl
    refine WOps.app (h := hh) (R := (q, .row [.int .i64 (.ofNat xa), .int .u32 (.ofNat xb), .int .u64 (.ofNat xc)]) :: Z) (n := (acc.map rowC).length) (m := 1) (xs := rowC rw) rfl rfl rfl o ((pz.cons _).trans (permF (by intro f; simp only [AV.cells, pm] <;> omega))) (.inr ⟨_, rfl, .inr (Ld.own Tk.head (by rw [a6]; rfl))⟩) (ac_flat fun x hx => shQ_cell (ok x hx).1 (ok x hx).2.2) a5 (by rw [a4.1]) (by rw [List.length_map]; omega) ?_
    intro v2 h4 o2
    have o3 : OwnSl v2 ((acc ++ [rw]).map rowC).flatten ((acc ++ [rw]).map rowC).length 3 h4 := own_snoc o2
    have m9 := ((fz h4).cons (x := (q, .row [.int .i64 (.ofNat xa), .int .u32 (.ofNat xb), .int .u64 (.ofNat xc)]))).permH (H' := h4 ++ ((q, .row [.int .i64 (.ofNat xa), .int .u32 (.ofNat xb), .int .u64 (.ofNat xc)]) :: Z)) (permF (by intro f; simp only [AV.cells, pm] <;> omega))
    obtain ⟨Z9, u9, f9⟩ := m9.st (q := p3) (cs := [.int .u64 (.ofNat ix), vn, vs, vc, vi, ve, vl, .int .u64 (.ofNat l0), .int .u64 (.ofNat l1), .int .u64 (.ofNat l2), .int .u64 (.ofNat l3), .int .u64 (.ofNat l4), .int .u64 (.ofNat l5), v]) (R' := (q, .row [.int .i64 (.ofNat xa), .int .u32 (.ofNat xb), .int .u64 (.ofNat xc)]) :: (p8, .row [.int .i64 (.ofNat xa), .int .u32 (.ofNat xb), .int .u64 (.ofNat xc)]) :: (h4 ++ (G ++ (Xl ++ (Xe ++ ((p4, .row [.int .u64 (.ofNat 0), .nilsl, .nilsl, .nilsl, .nilsl, .nilsl, .nilsl, .int .u64 (.ofNat 0), .int .u64 (.ofNat 0), .int .u64 (.ofNat 0), .int .u64 (.ofNat 0), .int .u64 (.ofNat 0), .int .u64 (.ofNat 0), .nilsl]) :: R)))))) (permF (by intro f; simp only [AV.cells, pm] <;> omega))
    have mz := f9 [.int .u64 (.ofNat ix), vn, vs, vc, vi, ve, vl, .int .u64 (.ofNat l0), .int .u64 (.ofNat l1), .int .u64 (.ofNat l2), .int .u64 (.ofNat l3), .int .u64 (.ofNat l4), .int .u64 (.ofNat l5), v2]
    repeat' (first
     | apply WOps.nil | apply WC.reg | (apply WOps.st; rfl; rfl; exact u9; exact congrArg List.length (cells1 o3.cell); rw [cells1 o3.cell]; exact allCell_cons o3.cell allCell_nil; rw [cells1 o3.cell]; rfl) | (apply WOps.addN; rfl; rfl; rfl; omega) | (apply WOps.purG; rfl; (intro _; rfl)))
    obtain ⟨H5, b5, s5⟩ := mz.less (R1 := (p3, .row [.int .u64 (.ofNat ix), vn, vs, vc, vi, ve, vl, .int .u64 (.ofNat l0), .int .u64 (.ofNat l1), .int .u64 (.ofNat l2), .int .u64 (.ofNat l3), .int .u64 (.ofNat l4), .int .u64 (.ofNat l5), v2]) :: (h4 ++ (G ++ (Xl ++ (Xe ++ ((p4, .row [.int .u64 (.ofNat 0), .nilsl, .nilsl, .nilsl, .nilsl, .nilsl, .nilsl, .int .u64 (.ofNat 0), .int .u64 (.ofNat 0), .int .u64 (.ofNat 0), .int .u64 (.ofNat 0), .int .u64 (.ofNat 0), .int .u64 (.ofNat 0), .nilsl]) :: R)))))) (subF (by intro f; simp only [AV.cells, pm] <;> omega))
    refine WL.le (Sub1.cons rfl (Sub1.cons rfl (Sub1.cons rfl (Sub1.cons rfl (Sub1.cons rfl Sub1.nil))))) (WL.lessP s5 (ih _ (by omega) (i + 1) _ v2 h4 G o3 (by have := ok_snoc ok a1 a2 a3; rw [List.append_nil] at this; exact this) H5 _ b5 (by rw [List.map_append, List.map_singleton]; subst hrw; exact ht2) (by rw [List.length_append, List.length_singleton]; omega) (by omega) rfl))
   ·have ht2 := tot_end (l := acc.map stripR) ht (loopS_e hs)
    obtain ⟨rfl, rfl⟩ := Prod.mk.inj ht2
    repeat' (first
     | apply WOps.nil | apply WC.seq | apply WC.reg | apply WC.exit | (apply WC.condF; rfl) | (apply WOps.cT; rfl; rfl; rfl; rfl; focus (simp only [cmpP, Int.ofNat_eq_natCast, List.length_cons, List.length_map, List.length_nil, Classical.not_not, not_true_eq_false, not_false_eq_true]; first | done | omega | decide)) | (apply WOps.cF; rfl; rfl; rfl; rfl; focus (simp only [cmpP, Int.ofNat_eq_natCast, List.length_cons, List.length_map, List.length_nil, Classical.not_not, not_true_eq_false, not_false_eq_true]; first | done | omega | decide)) | (apply WOps.ldG; rfl; rfl; exact h2.ldE2; rfl) | (apply WOps.purG; rfl; (intro _; rfl)))
    exact ⟨(v, acc, hh ++ G, H1), (Sub1.cons rfl (Sub1.cons rfl (Sub1.cons rfl Sub1.nil))), SubP.refl, (by simp only [List.append_assoc]; exact h2), got (acc := acc) (hh := hh) (G := G) (v := v) (show acc.length ≤ 64 by omega) (fun r h => (shQ_len h).1) ok o, rfl⟩
  ·have ht2 := tot_end (l := acc.map stripR) ht (by rw [show nq - i = 0 by omega]; exact loopS_0)
   obtain ⟨rfl, rfl⟩ := Prod.mk.inj ht2
   repeat' (first
    | apply WOps.nil | apply WC.seq | apply WC.reg | apply WC.exit | (apply WC.condF; rfl) | (apply WOps.cF; rfl; rfl; rfl; rfl; focus (simp only [cmpP, Int.ofNat_eq_natCast, List.length_cons, List.length_map, List.length_nil, Classical.not_not, not_true_eq_false, not_false_eq_true]; first | done | omega | decide)) | (apply WOps.purG; rfl; (intro _; rfl)) | (apply WOps.skp; rfl))
   exact ⟨(v, acc, hh ++ G, H1), (Sub1.cons rfl (Sub1.cons rfl (Sub1.cons rfl Sub1.nil))), SubP.refl, (by simp only [List.append_assoc]; exact h2), got (acc := acc) (hh := hh) (G := G) (v := v) (show acc.length ≤ 64 by omega) (fun r h => (shQ_len h).1) ok o, rfl⟩
 rintro ⟨vq, tq, Xq, Jq⟩ ⟨hq, aq, xq⟩
 have cq := aq.sl.cell
 replace hq : RdAt B false Jq p s9 Y ((p3, .row [.int .u64 (.ofNat ix), vn, vs, vc, vi, ve, vl, .int .u64 (.ofNat l0), .int .u64 (.ofNat l1), .int .u64 (.ofNat l2), .int .u64 (.ofNat l3), .int .u64 (.ofNat l4), .int .u64 (.ofNat l5), vq]) :: (Xq ++ (Xl ++ (Xe ++ ((p4, .row [.int .u64 (.ofNat 0), .nilsl, .nilsl, .nilsl, .nilsl, .nilsl, .nilsl, .int .u64 (.ofNat 0), .int .u64 (.ofNat 0), .int .u64 (.ofNat 0), .int .u64 (.ofNat 0), .int .u64 (.ofNat 0), .int .u64 (.ofNat 0), .nilsl]) :: R))))) := hq
 replace aq : LAt B Xq vq 3 shQ tq := aq
 replace xq : tq.map stripR = rq := xq
 show WC B tab _ _ _ [(0, .ptr ⟨false, p, 0⟩), (3, .ptr ⟨false, p3, 0⟩), (4, .ptr ⟨false, p4, 0⟩)] Jq _
 obtain ⟨Zz, uz, fz⟩ := hq.st (q := p4) (cs := [.int .u64 (.ofNat 0), .nilsl, .nilsl, .nilsl, .nilsl, .nilsl, .nilsl, .int .u64 (.ofNat 0), .int .u64 (.ofNat 0), .int .u64 (.ofNat 0), .int .u64 (.ofNat 0), .int .u64 (.ofNat 0), .int .u64 (.ofNat 0), .nilsl]) (R' := (p3, .row [.int .u64 (.ofNat ix), vn, vs, vc, vi, ve, vl, .int .u64 (.ofNat l0), .int .u64 (.ofNat l1), .int .u64 (.ofNat l2), .int .u64 (.ofNat l3), .int .u64 (.ofNat l4), .int .u64 (.ofNat l5), vq]) :: (Xq ++ (Xl ++ (Xe ++ R)))) (permF (by intro f; simp only [AV.cells, pm] <;> omega))
 by_cases hz : doneS s9 = 0
 ·have fy := fz [.int .u64 (.ofNat ix), vn, vs, vc, vi, ve, vl, .int .u64 (.ofNat l0), .int .u64 (.ofNat l1), .int .u64 (.ofNat l2), .int .u64 (.ofNat l3), .int .u64 (.ofNat l4), .int .u64 (.ofNat l5), vq]
  repeat' (first
   | apply WOps.nil | apply WC.seq | apply WC.reg | apply WC.skip | apply WC.ret | (apply WC.condF; rfl) | (apply WOps.cF; rfl; rfl; rfl; rfl; focus (simp only [cmpP, Int.ofNat_eq_natCast, List.length_cons, List.length_map, List.length_nil, Classical.not_not, not_true_eq_false, not_false_eq_true]; first | done | omega | decide)) | (apply WOps.clR; rfl; rfl; exact done92_ok hq; intro _ hv; subst hv) | (apply WOps.ldG; rfl; rfl; exact hq.ld (Ld.own Tk.head rfl); rfl) | (apply WOps.st; rfl; rfl; exact uz; rfl; exact ac1 rfl (ac1 cn (ac1 cs (ac1 cc (ac1 ci (ac1 ce (ac1 cl (ac1 rfl (ac1 rfl (ac1 rfl (ac1 rfl (ac1 rfl (ac1 rfl (ac1 cq ac0))))))))))))); rfl) | (apply WOps.purG; rfl; (intro _; rfl)))
  exact ⟨trivial, [_, _], ⟨_, [_], rfl, ⟨_, _, rfl, Ld.own Tk.head rfl, rfl⟩, _, [], rfl, rfl, rfl⟩, .inl ⟨hz, ve, vl, vq, te, tl, tq, Xq ++ (Xl ++ Xe), rfl, (ae.app _).app _, al.left.app _, aq.left, xe, xl, xq, SubP.trans (subF (by intro f; simp only [AV.cells, pm] <;> omega)) fy.subP⟩⟩
 ·have fy := fz [.int .u64 (.ofNat 0), .nilsl, .nilsl, .nilsl, .nilsl, .nilsl, .nilsl, .int .u64 (.ofNat 0), .int .u64 (.ofNat 0), .int .u64 (.ofNat 0), .int .u64 (.ofNat 0), .int .u64 (.ofNat 0), .int .u64 (.ofNat 0), .nilsl]
  repeat' (first
   | apply WOps.nil | apply WC.seq | apply WC.reg | apply WC.ret | (apply WC.condT; rfl) | (apply WOps.cT; rfl; rfl; rfl; rfl; focus (simp only [cmpP, Int.ofNat_eq_natCast, List.length_cons, List.length_map, List.length_nil, Classical.not_not, not_true_eq_false, not_false_eq_true]; first | done | omega | decide)) | (apply WOps.clR; rfl; rfl; exact done92_ok hq; intro _ hv; subst hv) | (apply WOps.st; rfl; rfl; exact uz; rfl; rfl; rfl) | (apply WOps.purG; rfl; (intro _; rfl)))
  exact ⟨trivial, [_, _], ⟨_, [_], rfl, ⟨_, _, rfl, Ld.own Tk.head rfl, rfl⟩, _, [], rfl, rfl, rfl⟩, .inr ⟨hz, rfl, SubP.trans (subF (by intro f; simp only [AV.cells, pm] <;> omega)) fy.subP⟩⟩
theorem tk_sub {H R : HL} {q : Nat} {o : AObj} (h : SubP ((q, o) :: R) H) : ∃ Z, Tk H q o Z ∧ SubP R Z := by
 obtain ⟨G, p⟩ := h
 exact ⟨R ++ G, p, G, List.Perm.refl _⟩
theorem fill_u {t : EL} {x : AO} {u y z : AV} (hx : gl t x = some u) (hu : u.cells = [u]) : fillL t [y, z] [(0, 1, x)] = some [u, z] := by
 simp only [fillL, hx, hu]
 rfl
theorem num_b {m n : Nat} {s s' : St} (e : numS m s = (n, s')) : n ≤ m := by
 have : (numS m s).1 ≤ m := by
  unfold numS
  split
  ·split
   ·split
    ·simp only; assumption
    ·simp
   ·simp
  ·simp
 rw [e] at this; exact this
theorem num_u {n : Nat} {s s' : St} (e : numS 18446744073709551615 s = (n, s')) : n < 18446744073709551616 := by have := num_b e; omega
set_option maxHeartbeats 16000000 in
theorem get13_ok {R : HL} {u : AV} {bs : List Nat} (sr : SrcIs B [] u 1 bs.length (cellsOfStr bs)) (hb : byL bs) (hl0 : bs.length ≤ 140737488355328) :
  WF B tab (.func 13) [u] R fun r H' => ∃ d X, r = .tup [.agg (dumpC d), .int .i64 (.ofNat (getD bs).2)] ∧ DdAt B X d ∧ stripD d = (getD bs).1 ∧ H' = X ++ R := by
 obtain ⟨ix, s1, e1⟩ : ∃ x y, numS 18446744073709551615 (bs, 0) = (x, y) := ⟨_, _, rfl⟩
 obtain ⟨rn, s2, e2⟩ : ∃ x y, rowsS kN s1 = (x, y) := ⟨_, _, rfl⟩
 obtain ⟨rs, s3, e3⟩ : ∃ x y, rowsS kS s2 = (x, y) := ⟨_, _, rfl⟩
 obtain ⟨rc, s4, e4⟩ : ∃ x y, rowsS kC s3 = (x, y) := ⟨_, _, rfl⟩
 obtain ⟨ri, s5, e5⟩ : ∃ x y, rowsS kI s4 = (x, y) := ⟨_, _, rfl⟩
 obtain ⟨re, s6, e6⟩ : ∃ x y, rowsS kE s5 = (x, y) := ⟨_, _, rfl⟩
 obtain ⟨rl, s7, e7⟩ : ∃ x y, rowsS kL s6 = (x, y) := ⟨_, _, rfl⟩
 obtain ⟨l0, s8, e8⟩ : ∃ x y, numS 18446744073709551615 s7 = (x, y) := ⟨_, _, rfl⟩
 obtain ⟨l1, s9, e9⟩ : ∃ x y, numS 18446744073709551615 s8 = (x, y) := ⟨_, _, rfl⟩
 obtain ⟨l2, s10, e10⟩ : ∃ x y, numS 18446744073709551615 s9 = (x, y) := ⟨_, _, rfl⟩
 obtain ⟨l3, s11, e11⟩ : ∃ x y, numS 18446744073709551615 s10 = (x, y) := ⟨_, _, rfl⟩
 obtain ⟨l4, s12, e12⟩ : ∃ x y, numS 18446744073709551615 s11 = (x, y) := ⟨_, _, rfl⟩
 obtain ⟨l5, s13, e13⟩ : ∃ x y, numS 18446744073709551615 s12 = (x, y) := ⟨_, _, rfl⟩
 obtain ⟨rq, s14, e14⟩ : ∃ x y, rowsS kQ s13 = (x, y) := ⟨_, _, rfl⟩
 have eg : getS bs = (⟨ix, .nilsl, .nilsl, .nilsl, .nilsl, .nilsl, .nilsl, l0, l1, l2, l3, l4, l5, .nilsl, rn, rs, rc, ri, re, rl, rq⟩, s14) := by simp only [getS, e1, e2, e3, e4, e5, e6, e7, e8, e9, e10, e11, e12, e13, e14]
 have hv : u.isCell = true := src_cell sr
 obtain ⟨Y, hY⟩ : ∃ Y : HL, Y = [] := ⟨_, rfl⟩
 refine WF.lessP ?_
 refine WF.fn g13 rfl ?_
 refine WC.seq (WC.reg ?_)
 repeat' (first
  | apply WOps.nil | (apply WOps.alc; rfl; intro _) | (apply WOps.purG; rfl; (intro _; rfl)))
 rename_i p2
 refine WC.seq (WC.reg ?_)
 repeat' (first
  | apply WOps.nil | (apply WOps.bx; rfl; rfl; (· repeat' (first | rfl | assumption | apply ac1)); intro _) | (refine WOps.bld (fill_u rfl (cells1 hv)) ?_) | (apply WOps.purG; rfl; (intro _; rfl)))
 rename_i p
 refine WC.seq (WC.reg ?_)
 repeat' (first
  | apply WOps.nil | (apply WOps.alc; rfl; intro _))
 rename_i p5
 have g0 : RdAt B false ((p, .row [u, .int .i64 (.ofNat 0)]) :: (p2, .row [.int .u64 (.ofNat 0), .nilsl, .nilsl, .nilsl, .nilsl, .nilsl, .nilsl, .int .u64 (.ofNat 0), .int .u64 (.ofNat 0), .int .u64 (.ofNat 0), .int .u64 (.ofNat 0), .int .u64 (.ofNat 0), .int .u64 (.ofNat 0), .nilsl]) :: R) p (bs, 0) Y ((p2, .row [.int .u64 (.ofNat 0), .nilsl, .nilsl, .nilsl, .nilsl, .nilsl, .nilsl, .int .u64 (.ofNat 0), .int .u64 (.ofNat 0), .int .u64 (.ofNat 0), .int .u64 (.ofNat 0), .int .u64 (.ofNat 0), .int .u64 (.ofNat 0), .nilsl]) :: R) := by subst hY; exact ⟨u, sr, ⟨hb, by simp only; omega⟩, List.Perm.refl _⟩
 have h0 := g0.cons (x := (p5, .row [.int .u64 (.ofNat 0), .nilsl, .nilsl, .nilsl, .nilsl, .nilsl, .nilsl, .int .u64 (.ofNat 0), .int .u64 (.ofNat 0), .int .u64 (.ofNat 0), .int .u64 (.ofNat 0), .int .u64 (.ofNat 0), .int .u64 (.ofNat 0), .nilsl]))
 have q1 := num_le h0 e1
 refine WC.seq (WC.reg ?_)
 repeat' (first
  | apply WOps.nil | (apply WOps.clA; rfl; rfl; exact numT2 h0 e1; rintro _ H2 ⟨rfl, g2⟩; obtain ⟨Z1, u1, f1⟩ := g2.st Tk.head) | (apply WOps.st; rfl; rfl; exact u1; rfl; exact allCell_cons rfl allCell_nil; rfl) | (apply WOps.purG; rfl; (intro _; rfl)))
 have h1 := f1 [.int .u64 (.ofNat ix), .nilsl, .nilsl, .nilsl, .nilsl, .nilsl, .nilsl, .int .u64 (.ofNat 0), .int .u64 (.ofNat 0), .int .u64 (.ofNat 0), .int .u64 (.ofNat 0), .int .u64 (.ofNat 0), .int .u64 (.ofNat 0), .nilsl]
 obtain ⟨nn, yn, enn⟩ : ∃ n y, numS 64 s1 = (n, y) := ⟨_, _, rfl⟩
 have hnn := num_le h1 enn
 have ewn := e2
 rw [rowsS, enn] at ewn
 dsimp only at ewn
 refine WC.seq (WC.reg ?_)
 repeat' (first
  | apply WOps.nil | (apply WOps.clA; rfl; rfl; exact numT2 h1 enn; rintro _ In ⟨rfl, bqn⟩) | (apply WOps.cvI; rfl; rfl; omega) | (apply WOps.purG; rfl; (intro _; rfl)))
 refine WC.cut2 (X := AV × List (List Fd) × HL × HL) (fun x => [(2, .ptr ⟨false, p2, 0⟩), (4, .ptr ⟨false, p, 0⟩), (5, .ptr ⟨false, p5, 0⟩)]) (fun x => x.2.2.2) (fun x => RdAt B false x.2.2.2 p s2 Y ((p5, .row [.int .u64 (.ofNat ix), x.1, .nilsl, .nilsl, .nilsl, .nilsl, .nilsl, .int .u64 (.ofNat 0), .int .u64 (.ofNat 0), .int .u64 (.ofNat 0), .int .u64 (.ofNat 0), .int .u64 (.ofNat 0), .int .u64 (.ofNat 0), .nilsl]) :: (x.2.2.1 ++ ((p2, .row [.int .u64 (.ofNat 0), .nilsl, .nilsl, .nilsl, .nilsl, .nilsl, .nilsl, .int .u64 (.ofNat 0), .int .u64 (.ofNat 0), .int .u64 (.ofNat 0), .int .u64 (.ofNat 0), .int .u64 (.ofNat 0), .int .u64 (.ofNat 0), .nilsl]) :: R))) ∧ LAt B x.2.2.1 x.1 4 shN x.2.1 ∧ x.2.1.map stripR = rn) ?_ ?_
 ·refine WC.seq (WC.reg ?_)
  repeat' (first
   | apply WOps.nil | apply WC.block | (apply WOps.purG; rfl; (intro _; rfl)))
  refine WC.loop ?_
  obtain ⟨i, hi⟩ : ∃ i : Nat, i = 0 := ⟨0, rfl⟩
  obtain ⟨acc, hacc⟩ : ∃ l : List (List Fd), l = [] := ⟨_, rfl⟩
  obtain ⟨v, hv⟩ : ∃ v : AV, v = .nilsl := ⟨_, rfl⟩
  obtain ⟨hh, hhh⟩ : ∃ l : HL, l = [] := ⟨_, rfl⟩
  obtain ⟨G, hG⟩ : ∃ l : HL, l = [] := ⟨_, rfl⟩
  refine WL.le (t' := [(2, .ptr ⟨false, p2, 0⟩), (4, .ptr ⟨false, p, 0⟩), (5, .ptr ⟨false, p5, 0⟩), (6, .int .i64 (.ofNat nn)), (7, .int .i64 (.ofNat i))]) (by subst hi; exact (Sub1.cons rfl (Sub1.cons rfl (Sub1.cons rfl (Sub1.cons rfl (Sub1.cons rfl Sub1.nil)))))) ?_
  have o : OwnSl v (acc.map rowC).flatten (acc.map rowC).length 4 hh := by subst hv hacc hhh; exact rowC_nil
  have ok : ∀ r, r ∈ acc → shN r ∧ (∀ f, f ∈ r → f.wf) ∧ ∀ f, f ∈ r → f.at B G := by subst hacc; intro r hr; cases hr
  obtain ⟨H1, hH1⟩ : ∃ h, h = In := ⟨_, rfl⟩
  obtain ⟨sa, hsa⟩ : ∃ y, y = yn := ⟨_, rfl⟩
  have h2 : RdAt B false H1 p sa Y ((p5, .row [.int .u64 (.ofNat ix), v, .nilsl, .nilsl, .nilsl, .nilsl, .nilsl, .int .u64 (.ofNat 0), .int .u64 (.ofNat 0), .int .u64 (.ofNat 0), .int .u64 (.ofNat 0), .int .u64 (.ofNat 0), .int .u64 (.ofNat 0), .nilsl]) :: (hh ++ (G ++ ((p2, .row [.int .u64 (.ofNat 0), .nilsl, .nilsl, .nilsl, .nilsl, .nilsl, .nilsl, .int .u64 (.ofNat 0), .int .u64 (.ofNat 0), .int .u64 (.ofNat 0), .int .u64 (.ofNat 0), .int .u64 (.ofNat 0), .int .u64 (.ofNat 0), .nilsl]) :: R)))) := by subst hhh hG hv hH1 hsa; exact bqn
  have ht : (acc.map stripR ++ (loopS (rdR kN) (nn - i) sa).1, (loopS (rdR kN) (nn - i) sa).2) = (rn, s2) := by subst hi hacc hsa; rw [← ewn]; simp
  have hal : acc.length ≤ i := by subst hacc; simp
  have hle : i ≤ nn := by omega
  have h64 := hnn.1
  rw [show In = H1 from hH1.symm]
  clear hi hacc hv hhh hG hH1 hsa ewn
  induction hk : nn - i using Nat.strongRecOn generalizing i acc v hh G H1 sa with | _ k ih => ?_
  apply WL.step
  by_cases hlt : i < nn
  ·by_cases hs : sa.2 = 0
   ·obtain ⟨r, sb, er⟩ : ∃ r sb, rdR kN sa = (r, sb) := ⟨_, _, rfl⟩
    have ht2 := tot_step (x := r) (l := (loopS (rdR kN) (nn - (i + 1)) sb).1) (s := (loopS (rdR kN) (nn - (i + 1)) sb).2) ht (by rw [show nn - i = (nn - (i + 1)) + 1 by omega, loopS_s hs, er])
    clear ht
    obtain ⟨xa, z1, d1⟩ : ∃ x y, numS 255 sa = (x, y) := ⟨_, _, rfl⟩
    obtain ⟨xb, z2, d2⟩ : ∃ x y, textS 80 z1 = (x, y) := ⟨_, _, rfl⟩
    obtain ⟨xc, z3, d3⟩ : ∃ x y, numS 18446744073709551615 z2 = (x, y) := ⟨_, _, rfl⟩
    obtain ⟨xd, z4, d4⟩ : ∃ x y, numS 18446744073709551615 z3 = (x, y) := ⟨_, _, rfl⟩
    simp only [kN, rdR, rdF, d1, d2, d3, d4, Prod.mk.injEq] at er
    obtain ⟨rfl, rfl⟩ := er
    refine WC.seq (WC.seq (WC.reg ?_))
    repeat' (first
     | apply WOps.nil | apply WC.skip | (apply WC.condT; rfl) | (apply WOps.cT; rfl; rfl; rfl; rfl; focus (simp only [cmpP, Int.ofNat_eq_natCast, List.length_cons, List.length_map, List.length_nil, Classical.not_not, not_true_eq_false, not_false_eq_true]; first | done | omega | decide)) | (apply WOps.ldG; rfl; rfl; exact h2.ldE2; rfl) | (apply WOps.purG; rfl; (intro _; rfl)))
    refine WC.seq (WC.block (WC.seq (WC.reg ?_)))
    repeat' (first
     | apply WOps.nil | (apply WOps.alc; rfl; intro _))
    rename_i p8
    have m0 := h2.cons (x := (p8, .row [.int .i64 (.ofNat 0), .str [], .int .u64 (.ofNat 0), .int .u64 (.ofNat 0)]))
    have w1 := num_le m0 d1
    refine WC.seq (WC.reg ?_)
    repeat' (first
     | apply WOps.nil | (apply WOps.clA; rfl; rfl; exact numT2 m0 d1; rintro _ M1 ⟨rfl, g1⟩; obtain ⟨Z1, u1, f1⟩ := g1.st Tk.head) | (apply WOps.st; rfl; rfl; exact u1; rfl; exact allCell_cons rfl allCell_nil; rfl) | (apply WOps.cvI; rfl; rfl; omega) | (apply WOps.purG; rfl; (intro _; rfl)))
    have m1 := f1 [.int .i64 (.ofNat xa), .str [], .int .u64 (.ofNat 0), .int .u64 (.ofNat 0)]
    refine WC.seq (WC.reg ?_)
    repeat' (first
     | apply WOps.nil | (apply WOps.clA; rfl; rfl; exact textT2 m1 d2; rintro _ M2 ⟨rfl, g2⟩; obtain ⟨Z2, u2, f2⟩ := g2.st Tk.head) | (apply WOps.st; rfl; rfl; exact u2; rfl; exact allCell_cons rfl allCell_nil; rfl) | (apply WOps.purG; rfl; (intro _; rfl)))
    have m2 := f2 [.int .i64 (.ofNat xa), .str xb, .int .u64 (.ofNat 0), .int .u64 (.ofNat 0)]
    have w3 := num_le m2 d3
    refine WC.seq (WC.reg ?_)
    repeat' (first
     | apply WOps.nil | (apply WOps.clA; rfl; rfl; exact numT2 m2 d3; rintro _ M3 ⟨rfl, g3⟩; obtain ⟨Z3, u3, f3⟩ := g3.st Tk.head) | (apply WOps.st; rfl; rfl; exact u3; rfl; exact allCell_cons rfl allCell_nil; rfl) | (apply WOps.purG; rfl; (intro _; rfl)))
    have m3 := f3 [.int .i64 (.ofNat xa), .str xb, .int .u64 (.ofNat xc), .int .u64 (.ofNat 0)]
    have w4 := num_le m3 d4
    refine WC.seq (WC.reg ?_)
    repeat' (first
     | apply WOps.nil | apply WC.reg | (apply WOps.clA; rfl; rfl; exact numT2 m3 d4; rintro _ M4 ⟨rfl, g4⟩; obtain ⟨Z4, u4, f4⟩ := g4.st Tk.head) | (apply WOps.st; rfl; rfl; exact u4; rfl; exact allCell_cons rfl allCell_nil; rfl) | (apply WOps.purG; rfl; (intro _; rfl)))
    have m4 := f4 [.int .i64 (.ofNat xa), .str xb, .int .u64 (.ofNat xc), .int .u64 (.ofNat xd)]
    repeat' (first
     | (apply WOps.ldG; rfl; rfl; (first | exact ld0 rfl | exact ld1 rfl | exact ld2 rfl); rfl) | (apply WOps.bsl; rfl; (· repeat' (first | rfl | assumption | apply ac1)); intro _) | (apply WOps.ldG; rfl; rfl; exact m4.ld (Ld.cons (Ld.own Tk.head rfl)); rfl))
    rename_i q
    have m := m4.permR (R' := hh ++ ((p8, .row [.int .i64 (.ofNat xa), .str xb, .int .u64 (.ofNat xc), .int .u64 (.ofNat xd)]) :: (p5, .row [.int .u64 (.ofNat ix), v, .nilsl, .nilsl, .nilsl, .nilsl, .nilsl, .int .u64 (.ofNat 0), .int .u64 (.ofNat 0), .int .u64 (.ofNat 0), .int .u64 (.ofNat 0), .int .u64 (.ofNat 0), .int .u64 (.ofNat 0), .nilsl]) :: (G ++ ((p2, .row [.int .u64 (.ofNat 0), .nilsl, .nilsl, .nilsl, .nilsl, .nilsl, .nilsl, .int .u64 (.ofNat 0), .int .u64 (.ofNat 0), .int .u64 (.ofNat 0), .int .u64 (.ofNat 0), .int .u64 (.ofNat 0), .int .u64 (.ofNat 0), .nilsl]) :: R)))) (permF (by intro f; simp only [AV.cells, pm] <;> omega))
    obtain ⟨Z, pz, fz⟩ := m.split
    obtain ⟨rw, hrw⟩ : ∃ r : List Fd, r = [.int (.ofNat xa) 255, .txt xb, .num xc, .num xd] := ⟨_, rfl⟩
    have a1 : shN rw := ⟨_, _, _, _, hrw⟩
    have a2 : ∀ f, f ∈ rw → f.wf := by subst hrw; simp only [List.mem_cons, List.not_mem_nil, or_false, forall_eq_or_imp, forall_eq, Fd.wf]; repeat' (first | exact trivial | omega | apply And.intro)
    have a3 : ∀ f, f ∈ rw → f.at B [] := by subst hrw; simp only [List.mem_cons, List.not_mem_nil, or_false, forall_eq_or_imp, forall_eq, Fd.at]; repeat' (first | exact trivial | apply And.intro)
    have a4 := shN_len a1
    have a5 := shN_cell a1 a3
    have a6 : rowC rw = [.int .i64 (.ofNat xa), .str xb, .int .u64 (.ofNat xc), .int .u64 (.ofNat xd)] := by subst hrw; rfl
    refine WOps.app (h := hh) (R := (q, .row [.int .i64 (.ofNat xa), .str xb, .int .u64 (.ofNat xc), .int .u64 (.ofNat xd)]) :: Z) (n := (acc.map rowC).length) (m := 1) (xs := rowC rw) rfl rfl rfl o ((pz.cons _).trans (permF (by intro f; simp only [AV.cells, pm] <;> omega))) (.inr ⟨_, rfl, .inr (Ld.own Tk.head (by rw [a6]; rfl))⟩) (ac_flat fun x hx => shN_cell (ok x hx).1 (ok x hx).2.2) a5 (by rw [a4.1]) (by rw [List.length_map]; omega) ?_
    intro v2 h4 o2
    have o3 : OwnSl v2 ((acc ++ [rw]).map rowC).flatten ((acc ++ [rw]).map rowC).length 4 h4 := own_snoc o2
    have m9 := ((fz h4).cons (x := (q, .row [.int .i64 (.ofNat xa), .str xb, .int .u64 (.ofNat xc), .int .u64 (.ofNat xd)]))).permH (H' := h4 ++ ((q, .row [.int .i64 (.ofNat xa), .str xb, .int .u64 (.ofNat xc), .int .u64 (.ofNat xd)]) :: Z)) (permF (by intro f; simp only [AV.cells, pm] <;> omega))
    obtain ⟨Z9, u9, f9⟩ := m9.st (q := p5) (cs := [.int .u64 (.ofNat ix), v, .nilsl, .nilsl, .nilsl, .nilsl, .nilsl, .int .u64 (.ofNat 0), .int .u64 (.ofNat 0), .int .u64 (.ofNat 0), .int .u64 (.ofNat 0), .int .u64 (.ofNat 0), .int .u64 (.ofNat 0), .nilsl]) (R' := (q, .row [.int .i64 (.ofNat xa), .str xb, .int .u64 (.ofNat xc), .int .u64 (.ofNat xd)]) :: (p8, .row [.int .i64 (.ofNat xa), .str xb, .int .u64 (.ofNat xc), .int .u64 (.ofNat xd)]) :: (h4 ++ (G ++ ((p2, .row [.int .u64 (.ofNat 0), .nilsl, .nilsl, .nilsl, .nilsl, .nilsl, .nilsl, .int .u64 (.ofNat 0), .int .u64 (.ofNat 0), .int .u64 (.ofNat 0), .int .u64 (.ofNat 0), .int .u64 (.ofNat 0), .int .u64 (.ofNat 0), .nilsl]) :: R)))) (permF (by intro f; simp only [AV.cells, pm] <;> omega))
    have mz := f9 [.int .u64 (.ofNat ix), v2, .nilsl, .nilsl, .nilsl, .nilsl, .nilsl, .int .u64 (.ofNat 0), .int .u64 (.ofNat 0), .int .u64 (.ofNat 0), .int .u64 (.ofNat 0), .int .u64 (.ofNat 0), .int .u64 (.ofNat 0), .nilsl]
    repeat' (first
     | apply WOps.nil | apply WC.reg | (apply WOps.st; rfl; rfl; exact u9; exact congrArg List.length (cells1 o3.cell); rw [cells1 o3.cell]; exact allCell_cons o3.cell allCell_nil; rw [cells1 o3.cell]; rfl) | (apply WOps.addN; rfl; rfl; rfl; omega) | (apply WOps.purG; rfl; (intro _; rfl)))
    obtain ⟨H5, b5, s5⟩ := mz.less (R1 := (p5, .row [.int .u64 (.ofNat ix), v2, .nilsl, .nilsl, .nilsl, .nilsl, .nilsl, .int .u64 (.ofNat 0), .int .u64 (.ofNat 0), .int .u64 (.ofNat 0), .int .u64 (.ofNat 0), .int .u64 (.ofNat 0), .int .u64 (.ofNat 0), .nilsl]) :: (h4 ++ (G ++ ((p2, .row [.int .u64 (.ofNat 0), .nilsl, .nilsl, .nilsl, .nilsl, .nilsl, .nilsl, .int .u64 (.ofNat 0), .int .u64 (.ofNat 0), .int .u64 (.ofNat 0), .int .u64 (.ofNat 0), .int .u64 (.ofNat 0), .int .u64 (.ofNat 0), .nilsl]) :: R)))) (subF (by intro f; simp only [AV.cells, pm] <;> omega))
    refine WL.le (Sub1.cons rfl (Sub1.cons rfl (Sub1.cons rfl (Sub1.cons rfl (Sub1.cons rfl Sub1.nil))))) (WL.lessP s5 (ih _ (by omega) (i + 1) _ v2 h4 G o3 (by have := ok_snoc ok a1 a2 a3; rw [List.append_nil] at this; exact this) H5 _ b5 (by rw [List.map_append, List.map_singleton]; subst hrw; exact ht2) (by rw [List.length_append, List.length_singleton]; omega) (by omega) rfl))
   ·have ht2 := tot_end (l := acc.map stripR) ht (loopS_e hs)
    obtain ⟨rfl, rfl⟩ := Prod.mk.inj ht2
    repeat' (first
     | apply WOps.nil | apply WC.seq | apply WC.reg | apply WC.exit | (apply WC.condF; rfl) | (apply WOps.cT; rfl; rfl; rfl; rfl; focus (simp only [cmpP, Int.ofNat_eq_natCast, List.length_cons, List.length_map, List.length_nil, Classical.not_not, not_true_eq_false, not_false_eq_true]; first | done | omega | decide)) | (apply WOps.cF; rfl; rfl; rfl; rfl; focus (simp only [cmpP, Int.ofNat_eq_natCast, List.length_cons, List.length_map, List.length_nil, Classical.not_not, not_true_eq_false, not_false_eq_true]; first | done | omega | decide)) | (apply WOps.ldG; rfl; rfl; exact h2.ldE2; rfl) | (apply WOps.purG; rfl; (intro _; rfl)))
    exact ⟨(v, acc, hh ++ G, H1), (Sub1.cons rfl (Sub1.cons rfl (Sub1.cons rfl Sub1.nil))), SubP.refl, (by simp only [List.append_assoc]; exact h2), got (acc := acc) (hh := hh) (G := G) (v := v) (show acc.length ≤ 64 by omega) (fun r h => (shN_len h).1) ok o, rfl⟩
  ·have ht2 := tot_end (l := acc.map stripR) ht (by rw [show nn - i = 0 by omega]; exact loopS_0)
   obtain ⟨rfl, rfl⟩ := Prod.mk.inj ht2
   repeat' (first
    | apply WOps.nil | apply WC.seq | apply WC.reg | apply WC.exit | (apply WC.condF; rfl) | (apply WOps.cF; rfl; rfl; rfl; rfl; focus (simp only [cmpP, Int.ofNat_eq_natCast, List.length_cons, List.length_map, List.length_nil, Classical.not_not, not_true_eq_false, not_false_eq_true]; first | done | omega | decide)) | (apply WOps.purG; rfl; (intro _; rfl)) | (apply WOps.skp; rfl))
   exact ⟨(v, acc, hh ++ G, H1), (Sub1.cons rfl (Sub1.cons rfl (Sub1.cons rfl Sub1.nil))), SubP.refl, (by simp only [List.append_assoc]; exact h2), got (acc := acc) (hh := hh) (G := G) (v := v) (show acc.length ≤ 64 by omega) (fun r h => (shN_len h).1) ok o, rfl⟩
 rintro ⟨vn, tn, Xn, Jn⟩ ⟨hn, an, xn⟩
 have cn := an.sl.cell
 replace hn : RdAt B false Jn p s2 Y ((p5, .row [.int .u64 (.ofNat ix), vn, .nilsl, .nilsl, .nilsl, .nilsl, .nilsl, .int .u64 (.ofNat 0), .int .u64 (.ofNat 0), .int .u64 (.ofNat 0), .int .u64 (.ofNat 0), .int .u64 (.ofNat 0), .int .u64 (.ofNat 0), .nilsl]) :: (Xn ++ ((p2, .row [.int .u64 (.ofNat 0), .nilsl, .nilsl, .nilsl, .nilsl, .nilsl, .nilsl, .int .u64 (.ofNat 0), .int .u64 (.ofNat 0), .int .u64 (.ofNat 0), .int .u64 (.ofNat 0), .int .u64 (.ofNat 0), .int .u64 (.ofNat 0), .nilsl]) :: R))) := hn
 replace an : LAt B Xn vn 4 shN tn := an
 replace xn : tn.map stripR = rn := xn
 show WC B tab _ _ _ [(2, .ptr ⟨false, p2, 0⟩), (4, .ptr ⟨false, p, 0⟩), (5, .ptr ⟨false, p5, 0⟩)] Jn _
 obtain ⟨ns, ys, ens⟩ : ∃ n y, numS 64 s2 = (n, y) := ⟨_, _, rfl⟩
 have hns := num_le hn ens
 have ews := e3
 rw [rowsS, ens] at ews
 dsimp only at ews
 refine WC.seq (WC.reg ?_)
 repeat' (first
  | apply WOps.nil | (apply WOps.clA; rfl; rfl; exact numT2 hn ens; rintro _ Is ⟨rfl, bqs⟩) | (apply WOps.cvI; rfl; rfl; omega) | (apply WOps.purG; rfl; (intro _; rfl)))
 refine WC.cut2 (X := AV × List (List Fd) × HL × HL) (fun x => [(2, .ptr ⟨false, p2, 0⟩), (4, .ptr ⟨false, p, 0⟩), (5, .ptr ⟨false, p5, 0⟩)]) (fun x => x.2.2.2) (fun x => RdAt B false x.2.2.2 p s3 Y ((p5, .row [.int .u64 (.ofNat ix), vn, x.1, .nilsl, .nilsl, .nilsl, .nilsl, .int .u64 (.ofNat 0), .int .u64 (.ofNat 0), .int .u64 (.ofNat 0), .int .u64 (.ofNat 0), .int .u64 (.ofNat 0), .int .u64 (.ofNat 0), .nilsl]) :: (x.2.2.1 ++ (Xn ++ ((p2, .row [.int .u64 (.ofNat 0), .nilsl, .nilsl, .nilsl, .nilsl, .nilsl, .nilsl, .int .u64 (.ofNat 0), .int .u64 (.ofNat 0), .int .u64 (.ofNat 0), .int .u64 (.ofNat 0), .int .u64 (.ofNat 0), .int .u64 (.ofNat 0), .nilsl]) :: R)))) ∧ LAt B x.2.2.1 x.1 7 shS x.2.1 ∧ x.2.1.map stripR = rs) ?_ ?_
 ·refine WC.seq (WC.reg ?_)
  repeat' (first
   | apply WOps.nil | apply WC.block | (apply WOps.purG; rfl; (intro _; rfl)))
  refine WC.loop ?_
  obtain ⟨i, hi⟩ : ∃ i : Nat, i = 0 := ⟨0, rfl⟩
  obtain ⟨acc, hacc⟩ : ∃ l : List (List Fd), l = [] := ⟨_, rfl⟩
  obtain ⟨v, hv⟩ : ∃ v : AV, v = .nilsl := ⟨_, rfl⟩
  obtain ⟨hh, hhh⟩ : ∃ l : HL, l = [] := ⟨_, rfl⟩
  obtain ⟨G, hG⟩ : ∃ l : HL, l = [] := ⟨_, rfl⟩
  refine WL.le (t' := [(2, .ptr ⟨false, p2, 0⟩), (4, .ptr ⟨false, p, 0⟩), (5, .ptr ⟨false, p5, 0⟩), (6, .int .i64 (.ofNat ns)), (9, .int .i64 (.ofNat i))]) (by subst hi; exact (Sub1.cons rfl (Sub1.cons rfl (Sub1.cons rfl (Sub1.cons rfl (Sub1.cons rfl Sub1.nil)))))) ?_
  have o : OwnSl v (acc.map rowC).flatten (acc.map rowC).length 7 hh := by subst hv hacc hhh; exact rowC_nil
  have ok : ∀ r, r ∈ acc → shS r ∧ (∀ f, f ∈ r → f.wf) ∧ ∀ f, f ∈ r → f.at B G := by subst hacc; intro r hr; cases hr
  obtain ⟨H1, hH1⟩ : ∃ h, h = Is := ⟨_, rfl⟩
  obtain ⟨sa, hsa⟩ : ∃ y, y = ys := ⟨_, rfl⟩
  have h2 : RdAt B false H1 p sa Y ((p5, .row [.int .u64 (.ofNat ix), vn, v, .nilsl, .nilsl, .nilsl, .nilsl, .int .u64 (.ofNat 0), .int .u64 (.ofNat 0), .int .u64 (.ofNat 0), .int .u64 (.ofNat 0), .int .u64 (.ofNat 0), .int .u64 (.ofNat 0), .nilsl]) :: (hh ++ (G ++ (Xn ++ ((p2, .row [.int .u64 (.ofNat 0), .nilsl, .nilsl, .nilsl, .nilsl, .nilsl, .nilsl, .int .u64 (.ofNat 0), .int .u64 (.ofNat 0), .int .u64 (.ofNat 0), .int .u64 (.ofNat 0), .int .u64 (.ofNat 0), .int .u64 (.ofNat 0), .nilsl]) :: R))))) := by subst hhh hG hv hH1 hsa; exact bqs
  have ht : (acc.map stripR ++ (loopS (rdR kS) (ns - i) sa).1, (loopS (rdR kS) (ns - i) sa).2) = (rs, s3) := by subst hi hacc hsa; rw [← ews]; simp
  have hal : acc.length ≤ i := by subst hacc; simp
  have hle : i ≤ ns := by omega
  have h64 := hns.1
  rw [show Is = H1 from hH1.symm]
  clear hi hacc hv hhh hG hH1 hsa ews
  induction hk : ns - i using Nat.strongRecOn generalizing i acc v hh G H1 sa with | _ k ih => ?_
  apply WL.step
  by_cases hlt : i < ns
  ·by_cases hs : sa.2 = 0
   ·obtain ⟨r, sb, er⟩ : ∃ r sb, rdR kS sa = (r, sb) := ⟨_, _, rfl⟩
    have ht2 := tot_step (x := r) (l := (loopS (rdR kS) (ns - (i + 1)) sb).1) (s := (loopS (rdR kS) (ns - (i + 1)) sb).2) ht (by rw [show ns - i = (ns - (i + 1)) + 1 by omega, loopS_s hs, er])
    clear ht
    obtain ⟨xa, z1, d1⟩ : ∃ x y, numS 255 sa = (x, y) := ⟨_, _, rfl⟩
    obtain ⟨xb, z2, d2⟩ : ∃ x y, textS 80 z1 = (x, y) := ⟨_, _, rfl⟩
    obtain ⟨xc, z3, d3⟩ : ∃ x y, textS 80 z2 = (x, y) := ⟨_, _, rfl⟩
    obtain ⟨xd, z4, d4⟩ : ∃ x y, textsS 8 80 z3 = (x, y) := ⟨_, _, rfl⟩
    obtain ⟨xe, z5, d5⟩ : ∃ x y, numS 65535 z4 = (x, y) := ⟨_, _, rfl⟩
    obtain ⟨xf, z6, d6⟩ : ∃ x y, numS 18446744073709551615 z5 = (x, y) := ⟨_, _, rfl⟩
    obtain ⟨xg, z7, d7⟩ : ∃ x y, numS 18446744073709551615 z6 = (x, y) := ⟨_, _, rfl⟩
    simp only [kS, rdR, rdF, d1, d2, d3, d4, d5, d6, d7, Prod.mk.injEq] at er
    obtain ⟨rfl, rfl⟩ := er
    refine WC.seq (WC.seq (WC.reg ?_))
    repeat' (first
     | apply WOps.nil | apply WC.skip | (apply WC.condT; rfl) | (apply WOps.cT; rfl; rfl; rfl; rfl; focus (simp only [cmpP, Int.ofNat_eq_natCast, List.length_cons, List.length_map, List.length_nil, Classical.not_not, not_true_eq_false, not_false_eq_true]; first | done | omega | decide)) | (apply WOps.ldG; rfl; rfl; exact h2.ldE2; rfl) | (apply WOps.purG; rfl; (intro _; rfl)))
    refine WC.seq (WC.block (WC.seq (WC.reg ?_)))
    repeat' (first
     | apply WOps.nil | (apply WOps.alc; rfl; intro _))
    rename_i p8
    have m0 := h2.cons (x := (p8, .row [.int .i64 (.ofNat 0), .str [], .str [], .nilsl, .int .i64 (.ofNat 0), .int .u64 (.ofNat 0), .int .u64 (.ofNat 0)]))
    have w1 := num_le m0 d1
    refine WC.seq (WC.reg ?_)
    repeat' (first
     | apply WOps.nil | (apply WOps.clA; rfl; rfl; exact numT2 m0 d1; rintro _ M1 ⟨rfl, g1⟩; obtain ⟨Z1, u1, f1⟩ := g1.st Tk.head) | (apply WOps.st; rfl; rfl; exact u1; rfl; exact allCell_cons rfl allCell_nil; rfl) | (apply WOps.cvI; rfl; rfl; omega) | (apply WOps.purG; rfl; (intro _; rfl)))
    have m1 := f1 [.int .i64 (.ofNat xa), .str [], .str [], .nilsl, .int .i64 (.ofNat 0), .int .u64 (.ofNat 0), .int .u64 (.ofNat 0)]
    refine WC.seq (WC.reg ?_)
    repeat' (first
     | apply WOps.nil | (apply WOps.clA; rfl; rfl; exact textT2 m1 d2; rintro _ M2 ⟨rfl, g2⟩; obtain ⟨Z2, u2, f2⟩ := g2.st Tk.head) | (apply WOps.st; rfl; rfl; exact u2; rfl; exact allCell_cons rfl allCell_nil; rfl) | (apply WOps.purG; rfl; (intro _; rfl)))
    have m2 := f2 [.int .i64 (.ofNat xa), .str xb, .str [], .nilsl, .int .i64 (.ofNat 0), .int .u64 (.ofNat 0), .int .u64 (.ofNat 0)]
    refine WC.seq (WC.reg ?_)
    repeat' (first
     | apply WOps.nil | (apply WOps.clA; rfl; rfl; exact textT2 m2 d3; rintro _ M3 ⟨rfl, g3⟩; obtain ⟨Z3, u3, f3⟩ := g3.st Tk.head) | (apply WOps.st; rfl; rfl; exact u3; rfl; exact allCell_cons rfl allCell_nil; rfl) | (apply WOps.purG; rfl; (intro _; rfl)))
    have m3 := f3 [.int .i64 (.ofNat xa), .str xb, .str xc, .nilsl, .int .i64 (.ofNat 0), .int .u64 (.ofNat 0), .int .u64 (.ofNat 0)]
    refine WC.seq (WC.reg ?_)
    repeat' (first
     | apply WOps.nil | (apply WOps.clA; rfl; rfl; exact textsT2 m3 d4; rintro vxd M4 ⟨X, sx, g4⟩; obtain ⟨Z4, u4, f4⟩ := g4.st tk_mid) | (apply WOps.st; rfl; rfl; exact u4; exact congrArg List.length (cells1 sx.cell); rw [cells1 sx.cell]; exact allCell_cons sx.cell allCell_nil; rw [cells1 sx.cell]; rfl) | (apply WOps.purG; rfl; (intro _; rfl)))
    have m4 := f4 [.int .i64 (.ofNat xa), .str xb, .str xc, vxd, .int .i64 (.ofNat 0), .int .u64 (.ofNat 0), .int .u64 (.ofNat 0)]
    have cx := sx.cell
    have w5 := num_le m4 d5
    refine WC.seq (WC.reg ?_)
    repeat' (first
     | apply WOps.nil | (apply WOps.clA; rfl; rfl; exact numT2 m4 d5; rintro _ M5 ⟨rfl, g5⟩; obtain ⟨Z5, u5, f5⟩ := g5.st Tk.head) | (apply WOps.st; rfl; rfl; exact u5; rfl; exact allCell_cons rfl allCell_nil; rfl) | (apply WOps.cvI; rfl; rfl; omega) | (apply WOps.purG; rfl; (intro _; rfl)))
    have m5 := f5 [.int .i64 (.ofNat xa), .str xb, .str xc, vxd, .int .i64 (.ofNat xe), .int .u64 (.ofNat 0), .int .u64 (.ofNat 0)]
    have w6 := num_le m5 d6
    refine WC.seq (WC.reg ?_)
    repeat' (first
     | apply WOps.nil | (apply WOps.clA; rfl; rfl; exact numT2 m5 d6; rintro _ M6 ⟨rfl, g6⟩; obtain ⟨Z6, u6, f6⟩ := g6.st Tk.head) | (apply WOps.st; rfl; rfl; exact u6; rfl; exact allCell_cons rfl allCell_nil; rfl) | (apply WOps.purG; rfl; (intro _; rfl)))
    have m6 := f6 [.int .i64 (.ofNat xa), .str xb, .str xc, vxd, .int .i64 (.ofNat xe), .int .u64 (.ofNat xf), .int .u64 (.ofNat 0)]
    have w7 := num_le m6 d7
    refine WC.seq (WC.reg ?_)
    repeat' (first
     | apply WOps.nil | apply WC.reg | (apply WOps.clA; rfl; rfl; exact numT2 m6 d7; rintro _ M7 ⟨rfl, g7⟩; obtain ⟨Z7, u7, f7⟩ := g7.st Tk.head) | (apply WOps.st; rfl; rfl; exact u7; rfl; exact allCell_cons rfl allCell_nil; rfl) | (apply WOps.purG; rfl; (intro _; rfl)))
    have m7 := f7 [.int .i64 (.ofNat xa), .str xb, .str xc, vxd, .int .i64 (.ofNat xe), .int .u64 (.ofNat xf), .int .u64 (.ofNat xg)]
    repeat' (first
     | (apply WOps.ldG; rfl; rfl; (first | exact ld0 rfl | exact ld1 rfl | exact ld2 rfl); rfl) | (apply WOps.bsl; rfl; (· repeat' (first | rfl | assumption | apply ac1)); intro _) | (apply WOps.ldG; rfl; rfl; exact m7.ld (Ld.cons (Ld.right (Ld.own Tk.head rfl))); rfl))
    rename_i q
    have m := m7.permR (R' := hh ++ ((p8, .row [.int .i64 (.ofNat xa), .str xb, .str xc, vxd, .int .i64 (.ofNat xe), .int .u64 (.ofNat xf), .int .u64 (.ofNat xg)]) :: (p5, .row [.int .u64 (.ofNat ix), vn, v, .nilsl, .nilsl, .nilsl, .nilsl, .int .u64 (.ofNat 0), .int .u64 (.ofNat 0), .int .u64 (.ofNat 0), .int .u64 (.ofNat 0), .int .u64 (.ofNat 0), .int .u64 (.ofNat 0), .nilsl]) :: ((G ++ X) ++ (Xn ++ ((p2, .row [.int .u64 (.ofNat 0), .nilsl, .nilsl, .nilsl, .nilsl, .nilsl, .nilsl, .int .u64 (.ofNat 0), .int .u64 (.ofNat 0), .int .u64 (.ofNat 0), .int .u64 (.ofNat 0), .int .u64 (.ofNat 0), .int .u64 (.ofNat 0), .nilsl]) :: R))))) (permF (by intro f; simp only [AV.cells, pm] <;> omega))
    obtain ⟨Z, pz, fz⟩ := m.split
    obtain ⟨rw, hrw⟩ : ∃ r : List Fd, r = [.int (.ofNat xa) 255, .txt xb, .txt xc, .txs vxd xd, .int (.ofNat xe) 65535, .num xf, .num xg] := ⟨_, rfl⟩
    have a1 : shS rw := ⟨_, _, _, _, _, _, _, _, hrw⟩
    have ql : xd.length ≤ 8 := by have := textsS_len (s := z3); rw [d4] at this; exact this
    have a2 : ∀ f, f ∈ rw → f.wf := by subst hrw; simp only [List.mem_cons, List.not_mem_nil, or_false, forall_eq_or_imp, forall_eq, Fd.wf]; repeat' (first | exact trivial | omega | apply And.intro)
    have a3 : ∀ f, f ∈ rw → f.at B X := by subst hrw; simp only [List.mem_cons, List.not_mem_nil, or_false, forall_eq_or_imp, forall_eq, Fd.at]; repeat' (first | exact trivial | exact sx | apply And.intro)
    have a4 := shS_len a1
    have a5 := shS_cell a1 a3
    have a6 : rowC rw = [.int .i64 (.ofNat xa), .str xb, .str xc, vxd, .int .i64 (.ofNat xe), .int .u64 (.ofNat xf), .int .u64 (.ofNat xg)] := by subst hrw; rfl
    refine WOps.app (h := hh) (R := (q, .row [.int .i64 (.ofNat xa), .str xb, .str xc, vxd, .int .i64 (.ofNat xe), .int .u64 (.ofNat xf), .int .u64 (.ofNat xg)]) :: Z) (n := (acc.map rowC).length) (m := 1) (xs := rowC rw) rfl rfl rfl o ((pz.cons _).trans (permF (by intro f; simp only [AV.cells, pm] <;> omega))) (.inr ⟨_, rfl, .inr (Ld.own Tk.head (by rw [a6]; rfl))⟩) (ac_flat fun x hx => shS_cell (ok x hx).1 (ok x hx).2.2) a5 (by rw [a4.1]) (by rw [List.length_map]; omega) ?_
    intro v2 h4 o2
    have o3 : OwnSl v2 ((acc ++ [rw]).map rowC).flatten ((acc ++ [rw]).map rowC).length 7 h4 := own_snoc o2
    have m9 := ((fz h4).cons (x := (q, .row [.int .i64 (.ofNat xa), .str xb, .str xc, vxd, .int .i64 (.ofNat xe), .int .u64 (.ofNat xf), .int .u64 (.ofNat xg)]))).permH (H' := h4 ++ ((q, .row [.int .i64 (.ofNat xa), .str xb, .str xc, vxd, .int .i64 (.ofNat xe), .int .u64 (.ofNat xf), .int .u64 (.ofNat xg)]) :: Z)) (permF (by intro f; simp only [AV.cells, pm] <;> omega))
    obtain ⟨Z9, u9, f9⟩ := m9.st (q := p5) (cs := [.int .u64 (.ofNat ix), vn, v, .nilsl, .nilsl, .nilsl, .nilsl, .int .u64 (.ofNat 0), .int .u64 (.ofNat 0), .int .u64 (.ofNat 0), .int .u64 (.ofNat 0), .int .u64 (.ofNat 0), .int .u64 (.ofNat 0), .nilsl]) (R' := (q, .row [.int .i64 (.ofNat xa), .str xb, .str xc, vxd, .int .i64 (.ofNat xe), .int .u64 (.ofNat xf), .int .u64 (.ofNat xg)]) :: (p8, .row [.int .i64 (.ofNat xa), .str xb, .str xc, vxd, .int .i64 (.ofNat xe), .int .u64 (.ofNat xf), .int .u64 (.ofNat xg)]) :: (h4 ++ ((G ++ X) ++ (Xn ++ ((p2, .row [.int .u64 (.ofNat 0), .nilsl, .nilsl, .nilsl, .nilsl, .nilsl, .nilsl, .int .u64 (.ofNat 0), .int .u64 (.ofNat 0), .int .u64 (.ofNat 0), .int .u64 (.ofNat 0), .int .u64 (.ofNat 0), .int .u64 (.ofNat 0), .nilsl]) :: R))))) (permF (by intro f; simp only [AV.cells, pm] <;> omega))
    have mz := f9 [.int .u64 (.ofNat ix), vn, v2, .nilsl, .nilsl, .nilsl, .nilsl, .int .u64 (.ofNat 0), .int .u64 (.ofNat 0), .int .u64 (.ofNat 0), .int .u64 (.ofNat 0), .int .u64 (.ofNat 0), .int .u64 (.ofNat 0), .nilsl]
    repeat' (first
     | apply WOps.nil | apply WC.reg | (apply WOps.st; rfl; rfl; exact u9; exact congrArg List.length (cells1 o3.cell); rw [cells1 o3.cell]; exact allCell_cons o3.cell allCell_nil; rw [cells1 o3.cell]; rfl) | (apply WOps.addN; rfl; rfl; rfl; omega) | (apply WOps.purG; rfl; (intro _; rfl)))
    obtain ⟨H5, b5, s5⟩ := mz.less (R1 := (p5, .row [.int .u64 (.ofNat ix), vn, v2, .nilsl, .nilsl, .nilsl, .nilsl, .int .u64 (.ofNat 0), .int .u64 (.ofNat 0), .int .u64 (.ofNat 0), .int .u64 (.ofNat 0), .int .u64 (.ofNat 0), .int .u64 (.ofNat 0), .nilsl]) :: (h4 ++ ((G ++ X) ++ (Xn ++ ((p2, .row [.int .u64 (.ofNat 0), .nilsl, .nilsl, .nilsl, .nilsl, .nilsl, .nilsl, .int .u64 (.ofNat 0), .int .u64 (.ofNat 0), .int .u64 (.ofNat 0), .int .u64 (.ofNat 0), .int .u64 (.ofNat 0), .int .u64 (.ofNat 0), .nilsl]) :: R))))) (subF (by intro f; simp only [AV.cells, pm] <;> omega))
    refine WL.le (Sub1.cons rfl (Sub1.cons rfl (Sub1.cons rfl (Sub1.cons rfl (Sub1.cons rfl Sub1.nil))))) (WL.lessP s5 (ih _ (by omega) (i + 1) _ v2 h4 (G ++ X) o3 (ok_snoc ok a1 a2 a3) H5 _ b5 (by rw [List.map_append, List.map_singleton]; subst hrw; exact ht2) (by rw [List.length_append, List.length_singleton]; omega) (by omega) rfl))
   ·have ht2 := tot_end (l := acc.map stripR) ht (loopS_e hs)
    obtain ⟨rfl, rfl⟩ := Prod.mk.inj ht2
    repeat' (first
     | apply WOps.nil | apply WC.seq | apply WC.reg | apply WC.exit | (apply WC.condF; rfl) | (apply WOps.cT; rfl; rfl; rfl; rfl; focus (simp only [cmpP, Int.ofNat_eq_natCast, List.length_cons, List.length_map, List.length_nil, Classical.not_not, not_true_eq_false, not_false_eq_true]; first | done | omega | decide)) | (apply WOps.cF; rfl; rfl; rfl; rfl; focus (simp only [cmpP, Int.ofNat_eq_natCast, List.length_cons, List.length_map, List.length_nil, Classical.not_not, not_true_eq_false, not_false_eq_true]; first | done | omega | decide)) | (apply WOps.ldG; rfl; rfl; exact h2.ldE2; rfl) | (apply WOps.purG; rfl; (intro _; rfl)))
    exact ⟨(v, acc, hh ++ G, H1), (Sub1.cons rfl (Sub1.cons rfl (Sub1.cons rfl Sub1.nil))), SubP.refl, (by simp only [List.append_assoc]; exact h2), got (acc := acc) (hh := hh) (G := G) (v := v) (show acc.length ≤ 64 by omega) (fun r h => (shS_len h).1) ok o, rfl⟩
  ·have ht2 := tot_end (l := acc.map stripR) ht (by rw [show ns - i = 0 by omega]; exact loopS_0)
   obtain ⟨rfl, rfl⟩ := Prod.mk.inj ht2
   repeat' (first
    | apply WOps.nil | apply WC.seq | apply WC.reg | apply WC.exit | (apply WC.condF; rfl) | (apply WOps.cF; rfl; rfl; rfl; rfl; focus (simp only [cmpP, Int.ofNat_eq_natCast, List.length_cons, List.length_map, List.length_nil, Classical.not_not, not_true_eq_false, not_false_eq_true]; first | done | omega | decide)) | (apply WOps.purG; rfl; (intro _; rfl)) | (apply WOps.skp; rfl))
   exact ⟨(v, acc, hh ++ G, H1), (Sub1.cons rfl (Sub1.cons rfl (Sub1.cons rfl Sub1.nil))), SubP.refl, (by simp only [List.append_assoc]; exact h2), got (acc := acc) (hh := hh) (G := G) (v := v) (show acc.length ≤ 64 by omega) (fun r h => (shS_len h).1) ok o, rfl⟩
 rintro ⟨vs, ts, Xs, Js⟩ ⟨hs, asx, xs⟩
 have cs := asx.sl.cell
 replace hs : RdAt B false Js p s3 Y ((p5, .row [.int .u64 (.ofNat ix), vn, vs, .nilsl, .nilsl, .nilsl, .nilsl, .int .u64 (.ofNat 0), .int .u64 (.ofNat 0), .int .u64 (.ofNat 0), .int .u64 (.ofNat 0), .int .u64 (.ofNat 0), .int .u64 (.ofNat 0), .nilsl]) :: (Xs ++ (Xn ++ ((p2, .row [.int .u64 (.ofNat 0), .nilsl, .nilsl, .nilsl, .nilsl, .nilsl, .nilsl, .int .u64 (.ofNat 0), .int .u64 (.ofNat 0), .int .u64 (.ofNat 0), .int .u64 (.ofNat 0), .int .u64 (.ofNat 0), .int .u64 (.ofNat 0), .nilsl]) :: R)))) := hs
 replace asx : LAt B Xs vs 7 shS ts := asx
 replace xs : ts.map stripR = rs := xs
 show WC B tab _ _ _ [(2, .ptr ⟨false, p2, 0⟩), (4, .ptr ⟨false, p, 0⟩), (5, .ptr ⟨false, p5, 0⟩)] Js _
 obtain ⟨nc, yc, enc⟩ : ∃ n y, numS 64 s3 = (n, y) := ⟨_, _, rfl⟩
 have hnc := num_le hs enc
 have ewc := e4
 rw [rowsS, enc] at ewc
 dsimp only at ewc
 refine WC.seq (WC.reg ?_)
 repeat' (first
  | apply WOps.nil | (apply WOps.clA; rfl; rfl; exact numT2 hs enc; rintro _ Ic ⟨rfl, bqc⟩) | (apply WOps.cvI; rfl; rfl; omega) | (apply WOps.purG; rfl; (intro _; rfl)))
 refine WC.cut2 (X := AV × List (List Fd) × HL × HL) (fun x => [(2, .ptr ⟨false, p2, 0⟩), (4, .ptr ⟨false, p, 0⟩), (5, .ptr ⟨false, p5, 0⟩)]) (fun x => x.2.2.2) (fun x => RdAt B false x.2.2.2 p s4 Y ((p5, .row [.int .u64 (.ofNat ix), vn, vs, x.1, .nilsl, .nilsl, .nilsl, .int .u64 (.ofNat 0), .int .u64 (.ofNat 0), .int .u64 (.ofNat 0), .int .u64 (.ofNat 0), .int .u64 (.ofNat 0), .int .u64 (.ofNat 0), .nilsl]) :: (x.2.2.1 ++ (Xs ++ (Xn ++ ((p2, .row [.int .u64 (.ofNat 0), .nilsl, .nilsl, .nilsl, .nilsl, .nilsl, .nilsl, .int .u64 (.ofNat 0), .int .u64 (.ofNat 0), .int .u64 (.ofNat 0), .int .u64 (.ofNat 0), .int .u64 (.ofNat 0), .int .u64 (.ofNat 0), .nilsl]) :: R))))) ∧ LAt B x.2.2.1 x.1 7 shC x.2.1 ∧ x.2.1.map stripR = rc) ?_ ?_
 ·refine WC.seq (WC.reg ?_)
  repeat' (first
   | apply WOps.nil | apply WC.block | (apply WOps.purG; rfl; (intro _; rfl)))
  refine WC.loop ?_
  obtain ⟨i, hi⟩ : ∃ i : Nat, i = 0 := ⟨0, rfl⟩
  obtain ⟨acc, hacc⟩ : ∃ l : List (List Fd), l = [] := ⟨_, rfl⟩
  obtain ⟨v, hv⟩ : ∃ v : AV, v = .nilsl := ⟨_, rfl⟩
  obtain ⟨hh, hhh⟩ : ∃ l : HL, l = [] := ⟨_, rfl⟩
  obtain ⟨G, hG⟩ : ∃ l : HL, l = [] := ⟨_, rfl⟩
  refine WL.le (t' := [(2, .ptr ⟨false, p2, 0⟩), (4, .ptr ⟨false, p, 0⟩), (5, .ptr ⟨false, p5, 0⟩), (6, .int .i64 (.ofNat nc)), (11, .int .i64 (.ofNat i))]) (by subst hi; exact (Sub1.cons rfl (Sub1.cons rfl (Sub1.cons rfl (Sub1.cons rfl (Sub1.cons rfl Sub1.nil)))))) ?_
  have o : OwnSl v (acc.map rowC).flatten (acc.map rowC).length 7 hh := by subst hv hacc hhh; exact rowC_nil
  have ok : ∀ r, r ∈ acc → shC r ∧ (∀ f, f ∈ r → f.wf) ∧ ∀ f, f ∈ r → f.at B G := by subst hacc; intro r hr; cases hr
  obtain ⟨H1, hH1⟩ : ∃ h, h = Ic := ⟨_, rfl⟩
  obtain ⟨sa, hsa⟩ : ∃ y, y = yc := ⟨_, rfl⟩
  have h2 : RdAt B false H1 p sa Y ((p5, .row [.int .u64 (.ofNat ix), vn, vs, v, .nilsl, .nilsl, .nilsl, .int .u64 (.ofNat 0), .int .u64 (.ofNat 0), .int .u64 (.ofNat 0), .int .u64 (.ofNat 0), .int .u64 (.ofNat 0), .int .u64 (.ofNat 0), .nilsl]) :: (hh ++ (G ++ (Xs ++ (Xn ++ ((p2, .row [.int .u64 (.ofNat 0), .nilsl, .nilsl, .nilsl, .nilsl, .nilsl, .nilsl, .int .u64 (.ofNat 0), .int .u64 (.ofNat 0), .int .u64 (.ofNat 0), .int .u64 (.ofNat 0), .int .u64 (.ofNat 0), .int .u64 (.ofNat 0), .nilsl]) :: R)))))) := by subst hhh hG hv hH1 hsa; exact bqc
  have ht : (acc.map stripR ++ (loopS (rdR kC) (nc - i) sa).1, (loopS (rdR kC) (nc - i) sa).2) = (rc, s4) := by subst hi hacc hsa; rw [← ewc]; simp
  have hal : acc.length ≤ i := by subst hacc; simp
  have hle : i ≤ nc := by omega
  have h64 := hnc.1
  rw [show Ic = H1 from hH1.symm]
  clear hi hacc hv hhh hG hH1 hsa ewc
  induction hk : nc - i using Nat.strongRecOn generalizing i acc v hh G H1 sa with | _ k ih => ?_
  apply WL.step
  by_cases hlt : i < nc
  ·by_cases hs : sa.2 = 0
   ·obtain ⟨r, sb, er⟩ : ∃ r sb, rdR kC sa = (r, sb) := ⟨_, _, rfl⟩
    have ht2 := tot_step (x := r) (l := (loopS (rdR kC) (nc - (i + 1)) sb).1) (s := (loopS (rdR kC) (nc - (i + 1)) sb).2) ht (by rw [show nc - i = (nc - (i + 1)) + 1 by omega, loopS_s hs, er])
    clear ht
    obtain ⟨xa, z1, d1⟩ : ∃ x y, numS 255 sa = (x, y) := ⟨_, _, rfl⟩
    obtain ⟨xb, z2, d2⟩ : ∃ x y, textS 80 z1 = (x, y) := ⟨_, _, rfl⟩
    obtain ⟨xc, z3, d3⟩ : ∃ x y, textS 80 z2 = (x, y) := ⟨_, _, rfl⟩
    obtain ⟨xd, z4, d4⟩ : ∃ x y, textS 80 z3 = (x, y) := ⟨_, _, rfl⟩
    obtain ⟨xe, z5, d5⟩ : ∃ x y, numS 255 z4 = (x, y) := ⟨_, _, rfl⟩
    obtain ⟨xf, z6, d6⟩ : ∃ x y, numS 18446744073709551615 z5 = (x, y) := ⟨_, _, rfl⟩
    obtain ⟨xg, z7, d7⟩ : ∃ x y, numS 18446744073709551615 z6 = (x, y) := ⟨_, _, rfl⟩
    simp only [kC, rdR, rdF, d1, d2, d3, d4, d5, d6, d7, Prod.mk.injEq] at er
    obtain ⟨rfl, rfl⟩ := er
    refine WC.seq (WC.seq (WC.reg ?_))
    repeat' (first
     | apply WOps.nil | apply WC.skip | (apply WC.condT; rfl) | (apply WOps.cT; rfl; rfl; rfl; rfl; focus (simp only [cmpP, Int.ofNat_eq_natCast, List.length_cons, List.length_map, List.length_nil, Classical.not_not, not_true_eq_false, not_false_eq_true]; first | done | omega | decide)) | (apply WOps.ldG; rfl; rfl; exact h2.ldE2; rfl) | (apply WOps.purG; rfl; (intro _; rfl)))
    refine WC.seq (WC.block (WC.seq (WC.reg ?_)))
    repeat' (first
     | apply WOps.nil | (apply WOps.alc; rfl; intro _))
    rename_i p8
    have m0 := h2.cons (x := (p8, .row [.int .i64 (.ofNat 0), .str [], .str [], .str [], .int .i64 (.ofNat 0), .int .u64 (.ofNat 0), .int .u64 (.ofNat 0)]))
    have w1 := num_le m0 d1
    refine WC.seq (WC.reg ?_)
    repeat' (first
     | apply WOps.nil | (apply WOps.clA; rfl; rfl; exact numT2 m0 d1; rintro _ M1 ⟨rfl, g1⟩; obtain ⟨Z1, u1, f1⟩ := g1.st Tk.head) | (apply WOps.st; rfl; rfl; exact u1; rfl; exact allCell_cons rfl allCell_nil; rfl) | (apply WOps.cvI; rfl; rfl; omega) | (apply WOps.purG; rfl; (intro _; rfl)))
    have m1 := f1 [.int .i64 (.ofNat xa), .str [], .str [], .str [], .int .i64 (.ofNat 0), .int .u64 (.ofNat 0), .int .u64 (.ofNat 0)]
    refine WC.seq (WC.reg ?_)
    repeat' (first
     | apply WOps.nil | (apply WOps.clA; rfl; rfl; exact textT2 m1 d2; rintro _ M2 ⟨rfl, g2⟩; obtain ⟨Z2, u2, f2⟩ := g2.st Tk.head) | (apply WOps.st; rfl; rfl; exact u2; rfl; exact allCell_cons rfl allCell_nil; rfl) | (apply WOps.purG; rfl; (intro _; rfl)))
    have m2 := f2 [.int .i64 (.ofNat xa), .str xb, .str [], .str [], .int .i64 (.ofNat 0), .int .u64 (.ofNat 0), .int .u64 (.ofNat 0)]
    refine WC.seq (WC.reg ?_)
    repeat' (first
     | apply WOps.nil | (apply WOps.clA; rfl; rfl; exact textT2 m2 d3; rintro _ M3 ⟨rfl, g3⟩; obtain ⟨Z3, u3, f3⟩ := g3.st Tk.head) | (apply WOps.st; rfl; rfl; exact u3; rfl; exact allCell_cons rfl allCell_nil; rfl) | (apply WOps.purG; rfl; (intro _; rfl)))
    have m3 := f3 [.int .i64 (.ofNat xa), .str xb, .str xc, .str [], .int .i64 (.ofNat 0), .int .u64 (.ofNat 0), .int .u64 (.ofNat 0)]
    refine WC.seq (WC.reg ?_)
    repeat' (first
     | apply WOps.nil | (apply WOps.clA; rfl; rfl; exact textT2 m3 d4; rintro _ M4 ⟨rfl, g4⟩; obtain ⟨Z4, u4, f4⟩ := g4.st Tk.head) | (apply WOps.st; rfl; rfl; exact u4; rfl; exact allCell_cons rfl allCell_nil; rfl) | (apply WOps.purG; rfl; (intro _; rfl)))
    have m4 := f4 [.int .i64 (.ofNat xa), .str xb, .str xc, .str xd, .int .i64 (.ofNat 0), .int .u64 (.ofNat 0), .int .u64 (.ofNat 0)]
    have w5 := num_le m4 d5
    refine WC.seq (WC.reg ?_)
    repeat' (first
     | apply WOps.nil | (apply WOps.clA; rfl; rfl; exact numT2 m4 d5; rintro _ M5 ⟨rfl, g5⟩; obtain ⟨Z5, u5, f5⟩ := g5.st Tk.head) | (apply WOps.st; rfl; rfl; exact u5; rfl; exact allCell_cons rfl allCell_nil; rfl) | (apply WOps.cvI; rfl; rfl; omega) | (apply WOps.purG; rfl; (intro _; rfl)))
    have m5 := f5 [.int .i64 (.ofNat xa), .str xb, .str xc, .str xd, .int .i64 (.ofNat xe), .int .u64 (.ofNat 0), .int .u64 (.ofNat 0)]
    have w6 := num_le m5 d6
    refine WC.seq (WC.reg ?_)
    repeat' (first
     | apply WOps.nil | (apply WOps.clA; rfl; rfl; exact numT2 m5 d6; rintro _ M6 ⟨rfl, g6⟩; obtain ⟨Z6, u6, f6⟩ := g6.st Tk.head) | (apply WOps.st; rfl; rfl; exact u6; rfl; exact allCell_cons rfl allCell_nil; rfl) | (apply WOps.purG; rfl; (intro _; rfl)))
    have m6 := f6 [.int .i64 (.ofNat xa), .str xb, .str xc, .str xd, .int .i64 (.ofNat xe), .int .u64 (.ofNat xf), .int .u64 (.ofNat 0)]
    have w7 := num_le m6 d7
    refine WC.seq (WC.reg ?_)
    repeat' (first
     | apply WOps.nil | apply WC.reg | (apply WOps.clA; rfl; rfl; exact numT2 m6 d7; rintro _ M7 ⟨rfl, g7⟩; obtain ⟨Z7, u7, f7⟩ := g7.st Tk.head) | (apply WOps.st; rfl; rfl; exact u7; rfl; exact allCell_cons rfl allCell_nil; rfl) | (apply WOps.purG; rfl; (intro _; rfl)))
    have m7 := f7 [.int .i64 (.ofNat xa), .str xb, .str xc, .str xd, .int .i64 (.ofNat xe), .int .u64 (.ofNat xf), .int .u64 (.ofNat xg)]
    repeat' (first
     | (apply WOps.ldG; rfl; rfl; (first | exact ld0 rfl | exact ld1 rfl | exact ld2 rfl); rfl) | (apply WOps.bsl; rfl; (· repeat' (first | rfl | assumption | apply ac1)); intro _) | (apply WOps.ldG; rfl; rfl; exact m7.ld (Ld.cons (Ld.own Tk.head rfl)); rfl))
    rename_i q
    have m := m7.permR (R' := hh ++ ((p8, .row [.int .i64 (.ofNat xa), .str xb, .str xc, .str xd, .int .i64 (.ofNat xe), .int .u64 (.ofNat xf), .int .u64 (.ofNat xg)]) :: (p5, .row [.int .u64 (.ofNat ix), vn, vs, v, .nilsl, .nilsl, .nilsl, .int .u64 (.ofNat 0), .int .u64 (.ofNat 0), .int .u64 (.ofNat 0), .int .u64 (.ofNat 0), .int .u64 (.ofNat 0), .int .u64 (.ofNat 0), .nilsl]) :: (G ++ (Xs ++ (Xn ++ ((p2, .row [.int .u64 (.ofNat 0), .nilsl, .nilsl, .nilsl, .nilsl, .nilsl, .nilsl, .int .u64 (.ofNat 0), .int .u64 (.ofNat 0), .int .u64 (.ofNat 0), .int .u64 (.ofNat 0), .int .u64 (.ofNat 0), .int .u64 (.ofNat 0), .nilsl]) :: R)))))) (permF (by intro f; simp only [AV.cells, pm] <;> omega))
    obtain ⟨Z, pz, fz⟩ := m.split
    obtain ⟨rw, hrw⟩ : ∃ r : List Fd, r = [.int (.ofNat xa) 255, .txt xb, .txt xc, .txt xd, .int (.ofNat xe) 255, .num xf, .num xg] := ⟨_, rfl⟩
    have a1 : shC rw := ⟨_, _, _, _, _, _, _, hrw⟩
    have a2 : ∀ f, f ∈ rw → f.wf := by subst hrw; simp only [List.mem_cons, List.not_mem_nil, or_false, forall_eq_or_imp, forall_eq, Fd.wf]; repeat' (first | exact trivial | omega | apply And.intro)
    have a3 : ∀ f, f ∈ rw → f.at B [] := by subst hrw; simp only [List.mem_cons, List.not_mem_nil, or_false, forall_eq_or_imp, forall_eq, Fd.at]; repeat' (first | exact trivial | apply And.intro)
    have a4 := shC_len a1
    have a5 := shC_cell a1 a3
    have a6 : rowC rw = [.int .i64 (.ofNat xa), .str xb, .str xc, .str xd, .int .i64 (.ofNat xe), .int .u64 (.ofNat xf), .int .u64 (.ofNat xg)] := by subst hrw; rfl
    refine WOps.app (h := hh) (R := (q, .row [.int .i64 (.ofNat xa), .str xb, .str xc, .str xd, .int .i64 (.ofNat xe), .int .u64 (.ofNat xf), .int .u64 (.ofNat xg)]) :: Z) (n := (acc.map rowC).length) (m := 1) (xs := rowC rw) rfl rfl rfl o ((pz.cons _).trans (permF (by intro f; simp only [AV.cells, pm] <;> omega))) (.inr ⟨_, rfl, .inr (Ld.own Tk.head (by rw [a6]; rfl))⟩) (ac_flat fun x hx => shC_cell (ok x hx).1 (ok x hx).2.2) a5 (by rw [a4.1]) (by rw [List.length_map]; omega) ?_
    intro v2 h4 o2
    have o3 : OwnSl v2 ((acc ++ [rw]).map rowC).flatten ((acc ++ [rw]).map rowC).length 7 h4 := own_snoc o2
    have m9 := ((fz h4).cons (x := (q, .row [.int .i64 (.ofNat xa), .str xb, .str xc, .str xd, .int .i64 (.ofNat xe), .int .u64 (.ofNat xf), .int .u64 (.ofNat xg)]))).permH (H' := h4 ++ ((q, .row [.int .i64 (.ofNat xa), .str xb, .str xc, .str xd, .int .i64 (.ofNat xe), .int .u64 (.ofNat xf), .int .u64 (.ofNat xg)]) :: Z)) (permF (by intro f; simp only [AV.cells, pm] <;> omega))
    obtain ⟨Z9, u9, f9⟩ := m9.st (q := p5) (cs := [.int .u64 (.ofNat ix), vn, vs, v, .nilsl, .nilsl, .nilsl, .int .u64 (.ofNat 0), .int .u64 (.ofNat 0), .int .u64 (.ofNat 0), .int .u64 (.ofNat 0), .int .u64 (.ofNat 0), .int .u64 (.ofNat 0), .nilsl]) (R' := (q, .row [.int .i64 (.ofNat xa), .str xb, .str xc, .str xd, .int .i64 (.ofNat xe), .int .u64 (.ofNat xf), .int .u64 (.ofNat xg)]) :: (p8, .row [.int .i64 (.ofNat xa), .str xb, .str xc, .str xd, .int .i64 (.ofNat xe), .int .u64 (.ofNat xf), .int .u64 (.ofNat xg)]) :: (h4 ++ (G ++ (Xs ++ (Xn ++ ((p2, .row [.int .u64 (.ofNat 0), .nilsl, .nilsl, .nilsl, .nilsl, .nilsl, .nilsl, .int .u64 (.ofNat 0), .int .u64 (.ofNat 0), .int .u64 (.ofNat 0), .int .u64 (.ofNat 0), .int .u64 (.ofNat 0), .int .u64 (.ofNat 0), .nilsl]) :: R)))))) (permF (by intro f; simp only [AV.cells, pm] <;> omega))
    have mz := f9 [.int .u64 (.ofNat ix), vn, vs, v2, .nilsl, .nilsl, .nilsl, .int .u64 (.ofNat 0), .int .u64 (.ofNat 0), .int .u64 (.ofNat 0), .int .u64 (.ofNat 0), .int .u64 (.ofNat 0), .int .u64 (.ofNat 0), .nilsl]
    repeat' (first
     | apply WOps.nil | apply WC.reg | (apply WOps.st; rfl; rfl; exact u9; exact congrArg List.length (cells1 o3.cell); rw [cells1 o3.cell]; exact allCell_cons o3.cell allCell_nil; rw [cells1 o3.cell]; rfl) | (apply WOps.addN; rfl; rfl; rfl; omega) | (apply WOps.purG; rfl; (intro _; rfl)))
    obtain ⟨H5, b5, s5⟩ := mz.less (R1 := (p5, .row [.int .u64 (.ofNat ix), vn, vs, v2, .nilsl, .nilsl, .nilsl, .int .u64 (.ofNat 0), .int .u64 (.ofNat 0), .int .u64 (.ofNat 0), .int .u64 (.ofNat 0), .int .u64 (.ofNat 0), .int .u64 (.ofNat 0), .nilsl]) :: (h4 ++ (G ++ (Xs ++ (Xn ++ ((p2, .row [.int .u64 (.ofNat 0), .nilsl, .nilsl, .nilsl, .nilsl, .nilsl, .nilsl, .int .u64 (.ofNat 0), .int .u64 (.ofNat 0), .int .u64 (.ofNat 0), .int .u64 (.ofNat 0), .int .u64 (.ofNat 0), .int .u64 (.ofNat 0), .nilsl]) :: R)))))) (subF (by intro f; simp only [AV.cells, pm] <;> omega))
    refine WL.le (Sub1.cons rfl (Sub1.cons rfl (Sub1.cons rfl (Sub1.cons rfl (Sub1.cons rfl Sub1.nil))))) (WL.lessP s5 (ih _ (by omega) (i + 1) _ v2 h4 G o3 (by have := ok_snoc ok a1 a2 a3; rw [List.append_nil] at this; exact this) H5 _ b5 (by rw [List.map_append, List.map_singleton]; subst hrw; exact ht2) (by rw [List.length_append, List.length_singleton]; omega) (by omega) rfl))
   ·have ht2 := tot_end (l := acc.map stripR) ht (loopS_e hs)
    obtain ⟨rfl, rfl⟩ := Prod.mk.inj ht2
    repeat' (first
     | apply WOps.nil | apply WC.seq | apply WC.reg | apply WC.exit | (apply WC.condF; rfl) | (apply WOps.cT; rfl; rfl; rfl; rfl; focus (simp only [cmpP, Int.ofNat_eq_natCast, List.length_cons, List.length_map, List.length_nil, Classical.not_not, not_true_eq_false, not_false_eq_true]; first | done | omega | decide)) | (apply WOps.cF; rfl; rfl; rfl; rfl; focus (simp only [cmpP, Int.ofNat_eq_natCast, List.length_cons, List.length_map, List.length_nil, Classical.not_not, not_true_eq_false, not_false_eq_true]; first | done | omega | decide)) | (apply WOps.ldG; rfl; rfl; exact h2.ldE2; rfl) | (apply WOps.purG; rfl; (intro _; rfl)))
    exact ⟨(v, acc, hh ++ G, H1), (Sub1.cons rfl (Sub1.cons rfl (Sub1.cons rfl Sub1.nil))), SubP.refl, (by simp only [List.append_assoc]; exact h2), got (acc := acc) (hh := hh) (G := G) (v := v) (show acc.length ≤ 64 by omega) (fun r h => (shC_len h).1) ok o, rfl⟩
  ·have ht2 := tot_end (l := acc.map stripR) ht (by rw [show nc - i = 0 by omega]; exact loopS_0)
   obtain ⟨rfl, rfl⟩ := Prod.mk.inj ht2
   repeat' (first
    | apply WOps.nil | apply WC.seq | apply WC.reg | apply WC.exit | (apply WC.condF; rfl) | (apply WOps.cF; rfl; rfl; rfl; rfl; focus (simp only [cmpP, Int.ofNat_eq_natCast, List.length_cons, List.length_map, List.length_nil, Classical.not_not, not_true_eq_false, not_false_eq_true]; first | done | omega | decide)) | (apply WOps.purG; rfl; (intro _; rfl)) | (apply WOps.skp; rfl))
   exact ⟨(v, acc, hh ++ G, H1), (Sub1.cons rfl (Sub1.cons rfl (Sub1.cons rfl Sub1.nil))), SubP.refl, (by simp only [List.append_assoc]; exact h2), got (acc := acc) (hh := hh) (G := G) (v := v) (show acc.length ≤ 64 by omega) (fun r h => (shC_len h).1) ok o, rfl⟩
 rintro ⟨vc, tc, Xc, Jc⟩ ⟨hc, ac, xc⟩
 have cc := ac.sl.cell
 replace hc : RdAt B false Jc p s4 Y ((p5, .row [.int .u64 (.ofNat ix), vn, vs, vc, .nilsl, .nilsl, .nilsl, .int .u64 (.ofNat 0), .int .u64 (.ofNat 0), .int .u64 (.ofNat 0), .int .u64 (.ofNat 0), .int .u64 (.ofNat 0), .int .u64 (.ofNat 0), .nilsl]) :: (Xc ++ (Xs ++ (Xn ++ ((p2, .row [.int .u64 (.ofNat 0), .nilsl, .nilsl, .nilsl, .nilsl, .nilsl, .nilsl, .int .u64 (.ofNat 0), .int .u64 (.ofNat 0), .int .u64 (.ofNat 0), .int .u64 (.ofNat 0), .int .u64 (.ofNat 0), .int .u64 (.ofNat 0), .nilsl]) :: R))))) := hc
 replace ac : LAt B Xc vc 7 shC tc := ac
 replace xc : tc.map stripR = rc := xc
 show WC B tab _ _ _ [(2, .ptr ⟨false, p2, 0⟩), (4, .ptr ⟨false, p, 0⟩), (5, .ptr ⟨false, p5, 0⟩)] Jc _
 obtain ⟨ni, yi, eni⟩ : ∃ n y, numS 64 s4 = (n, y) := ⟨_, _, rfl⟩
 have hni := num_le hc eni
 have ewi := e5
 rw [rowsS, eni] at ewi
 dsimp only at ewi
 refine WC.seq (WC.reg ?_)
 repeat' (first
  | apply WOps.nil | (apply WOps.clA; rfl; rfl; exact numT2 hc eni; rintro _ Ii ⟨rfl, bqi⟩) | (apply WOps.cvI; rfl; rfl; omega) | (apply WOps.purG; rfl; (intro _; rfl)))
 refine WC.cut2 (X := AV × List (List Fd) × HL × HL) (fun x => [(2, .ptr ⟨false, p2, 0⟩), (4, .ptr ⟨false, p, 0⟩), (5, .ptr ⟨false, p5, 0⟩)]) (fun x => x.2.2.2) (fun x => RdAt B false x.2.2.2 p s5 Y ((p5, .row [.int .u64 (.ofNat ix), vn, vs, vc, x.1, .nilsl, .nilsl, .int .u64 (.ofNat 0), .int .u64 (.ofNat 0), .int .u64 (.ofNat 0), .int .u64 (.ofNat 0), .int .u64 (.ofNat 0), .int .u64 (.ofNat 0), .nilsl]) :: (x.2.2.1 ++ (Xc ++ (Xs ++ (Xn ++ ((p2, .row [.int .u64 (.ofNat 0), .nilsl, .nilsl, .nilsl, .nilsl, .nilsl, .nilsl, .int .u64 (.ofNat 0), .int .u64 (.ofNat 0), .int .u64 (.ofNat 0), .int .u64 (.ofNat 0), .int .u64 (.ofNat 0), .int .u64 (.ofNat 0), .nilsl]) :: R)))))) ∧ LAt B x.2.2.1 x.1 5 shI x.2.1 ∧ x.2.1.map stripR = ri) ?_ ?_
 ·refine WC.seq (WC.reg ?_)
  repeat' (first
   | apply WOps.nil | apply WC.block | (apply WOps.purG; rfl; (intro _; rfl)))
  refine WC.loop ?_
  obtain ⟨i, hi⟩ : ∃ i : Nat, i = 0 := ⟨0, rfl⟩
  obtain ⟨acc, hacc⟩ : ∃ l : List (List Fd), l = [] := ⟨_, rfl⟩
  obtain ⟨v, hv⟩ : ∃ v : AV, v = .nilsl := ⟨_, rfl⟩
  obtain ⟨hh, hhh⟩ : ∃ l : HL, l = [] := ⟨_, rfl⟩
  obtain ⟨G, hG⟩ : ∃ l : HL, l = [] := ⟨_, rfl⟩
  refine WL.le (t' := [(2, .ptr ⟨false, p2, 0⟩), (4, .ptr ⟨false, p, 0⟩), (5, .ptr ⟨false, p5, 0⟩), (6, .int .i64 (.ofNat ni)), (13, .int .i64 (.ofNat i))]) (by subst hi; exact (Sub1.cons rfl (Sub1.cons rfl (Sub1.cons rfl (Sub1.cons rfl (Sub1.cons rfl Sub1.nil)))))) ?_
  have o : OwnSl v (acc.map rowC).flatten (acc.map rowC).length 5 hh := by subst hv hacc hhh; exact rowC_nil
  have ok : ∀ r, r ∈ acc → shI r ∧ (∀ f, f ∈ r → f.wf) ∧ ∀ f, f ∈ r → f.at B G := by subst hacc; intro r hr; cases hr
  obtain ⟨H1, hH1⟩ : ∃ h, h = Ii := ⟨_, rfl⟩
  obtain ⟨sa, hsa⟩ : ∃ y, y = yi := ⟨_, rfl⟩
  have h2 : RdAt B false H1 p sa Y ((p5, .row [.int .u64 (.ofNat ix), vn, vs, vc, v, .nilsl, .nilsl, .int .u64 (.ofNat 0), .int .u64 (.ofNat 0), .int .u64 (.ofNat 0), .int .u64 (.ofNat 0), .int .u64 (.ofNat 0), .int .u64 (.ofNat 0), .nilsl]) :: (hh ++ (G ++ (Xc ++ (Xs ++ (Xn ++ ((p2, .row [.int .u64 (.ofNat 0), .nilsl, .nilsl, .nilsl, .nilsl, .nilsl, .nilsl, .int .u64 (.ofNat 0), .int .u64 (.ofNat 0), .int .u64 (.ofNat 0), .int .u64 (.ofNat 0), .int .u64 (.ofNat 0), .int .u64 (.ofNat 0), .nilsl]) :: R))))))) := by subst hhh hG hv hH1 hsa; exact bqi
  have ht : (acc.map stripR ++ (loopS (rdR kI) (ni - i) sa).1, (loopS (rdR kI) (ni - i) sa).2) = (ri, s5) := by subst hi hacc hsa; rw [← ewi]; simp
  have hal : acc.length ≤ i := by subst hacc; simp
  have hle : i ≤ ni := by omega
  have h64 := hni.1
  rw [show Ii = H1 from hH1.symm]
  clear hi hacc hv hhh hG hH1 hsa ewi
  induction hk : ni - i using Nat.strongRecOn generalizing i acc v hh G H1 sa with | _ k ih => ?_
  apply WL.step
  by_cases hlt : i < ni
  ·by_cases hs : sa.2 = 0
   ·obtain ⟨r, sb, er⟩ : ∃ r sb, rdR kI sa = (r, sb) := ⟨_, _, rfl⟩
    have ht2 := tot_step (x := r) (l := (loopS (rdR kI) (ni - (i + 1)) sb).1) (s := (loopS (rdR kI) (ni - (i + 1)) sb).2) ht (by rw [show ni - i = (ni - (i + 1)) + 1 by omega, loopS_s hs, er])
    clear ht
    obtain ⟨xa, z1, d1⟩ : ∃ x y, textS 80 sa = (x, y) := ⟨_, _, rfl⟩
    obtain ⟨xb, z2, d2⟩ : ∃ x y, textS 80 z1 = (x, y) := ⟨_, _, rfl⟩
    obtain ⟨xc, z3, d3⟩ : ∃ x y, flagS z2 = (x, y) := ⟨_, _, rfl⟩
    obtain ⟨xd, z4, d4⟩ : ∃ x y, numS 18446744073709551615 z3 = (x, y) := ⟨_, _, rfl⟩
    obtain ⟨xe, z5, d5⟩ : ∃ x y, numS 18446744073709551615 z4 = (x, y) := ⟨_, _, rfl⟩
    simp only [kI, rdR, rdF, d1, d2, d3, d4, d5, Prod.mk.injEq] at er
    obtain ⟨rfl, rfl⟩ := er
    refine WC.seq (WC.seq (WC.reg ?_))
    repeat' (first
     | apply WOps.nil | apply WC.skip | (apply WC.condT; rfl) | (apply WOps.cT; rfl; rfl; rfl; rfl; focus (simp only [cmpP, Int.ofNat_eq_natCast, List.length_cons, List.length_map, List.length_nil, Classical.not_not, not_true_eq_false, not_false_eq_true]; first | done | omega | decide)) | (apply WOps.ldG; rfl; rfl; exact h2.ldE2; rfl) | (apply WOps.purG; rfl; (intro _; rfl)))
    refine WC.seq (WC.block (WC.seq (WC.reg ?_)))
    repeat' (first
     | apply WOps.nil | (apply WOps.alc; rfl; intro _))
    rename_i p8
    have m0 := h2.cons (x := (p8, .row [.str [], .str [], .bool false, .int .u64 (.ofNat 0), .int .u64 (.ofNat 0)]))
    refine WC.seq (WC.reg ?_)
    repeat' (first
     | apply WOps.nil | (apply WOps.clA; rfl; rfl; exact textT2 m0 d1; rintro _ M1 ⟨rfl, g1⟩; obtain ⟨Z1, u1, f1⟩ := g1.st Tk.head) | (apply WOps.st; rfl; rfl; exact u1; rfl; exact allCell_cons rfl allCell_nil; rfl) | (apply WOps.purG; rfl; (intro _; rfl)))
    have m1 := f1 [.str xa, .str [], .bool false, .int .u64 (.ofNat 0), .int .u64 (.ofNat 0)]
    refine WC.seq (WC.reg ?_)
    repeat' (first
     | apply WOps.nil | (apply WOps.clA; rfl; rfl; exact textT2 m1 d2; rintro _ M2 ⟨rfl, g2⟩; obtain ⟨Z2, u2, f2⟩ := g2.st Tk.head) | (apply WOps.st; rfl; rfl; exact u2; rfl; exact allCell_cons rfl allCell_nil; rfl) | (apply WOps.purG; rfl; (intro _; rfl)))
    have m2 := f2 [.str xa, .str xb, .bool false, .int .u64 (.ofNat 0), .int .u64 (.ofNat 0)]
    refine WC.seq (WC.reg ?_)
    repeat' (first
     | apply WOps.nil | (apply WOps.clA; rfl; rfl; exact flagT2 m2 d3; rintro _ M3 ⟨rfl, g3⟩; obtain ⟨Z3, u3, f3⟩ := g3.st Tk.head) | (apply WOps.st; rfl; rfl; exact u3; rfl; exact allCell_cons rfl allCell_nil; rfl) | (apply WOps.purG; rfl; (intro _; rfl)))
    have m3 := f3 [.str xa, .str xb, .bool xc, .int .u64 (.ofNat 0), .int .u64 (.ofNat 0)]
    have w4 := num_le m3 d4
    refine WC.seq (WC.reg ?_)
    repeat' (first
     | apply WOps.nil | (apply WOps.clA; rfl; rfl; exact numT2 m3 d4; rintro _ M4 ⟨rfl, g4⟩; obtain ⟨Z4, u4, f4⟩ := g4.st Tk.head) | (apply WOps.st; rfl; rfl; exact u4; rfl; exact allCell_cons rfl allCell_nil; rfl) | (apply WOps.purG; rfl; (intro _; rfl)))
    have m4 := f4 [.str xa, .str xb, .bool xc, .int .u64 (.ofNat xd), .int .u64 (.ofNat 0)]
    have w5 := num_le m4 d5
    refine WC.seq (WC.reg ?_)
    repeat' (first
     | apply WOps.nil | apply WC.reg | (apply WOps.clA; rfl; rfl; exact numT2 m4 d5; rintro _ M5 ⟨rfl, g5⟩; obtain ⟨Z5, u5, f5⟩ := g5.st Tk.head) | (apply WOps.st; rfl; rfl; exact u5; rfl; exact allCell_cons rfl allCell_nil; rfl) | (apply WOps.purG; rfl; (intro _; rfl)))
    have m5 := f5 [.str xa, .str xb, .bool xc, .int .u64 (.ofNat xd), .int .u64 (.ofNat xe)]
    repeat' (first
     | (apply WOps.ldG; rfl; rfl; (first | exact ld0 rfl | exact ld1 rfl | exact ld2 rfl); rfl) | (apply WOps.bsl; rfl; (· repeat' (first | rfl | assumption | apply ac1)); intro _) | (apply WOps.ldG; rfl; rfl; exact m5.ld (Ld.cons (Ld.own Tk.head rfl)); rfl))
    rename_i q
    have m := m5.permR (R' := hh ++ ((p8, .row [.str xa, .str xb, .bool xc, .int .u64 (.ofNat xd), .int .u64 (.ofNat xe)]) :: (p5, .row [.int .u64 (.ofNat ix), vn, vs, vc, v, .nilsl, .nilsl, .int .u64 (.ofNat 0), .int .u64 (.ofNat 0), .int .u64 (.ofNat 0), .int .u64 (.ofNat 0), .int .u64 (.ofNat 0), .int .u64 (.ofNat 0), .nilsl]) :: (G ++ (Xc ++ (Xs ++ (Xn ++ ((p2, .row [.int .u64 (.ofNat 0), .nilsl, .nilsl, .nilsl, .nilsl, .nilsl, .nilsl, .int .u64 (.ofNat 0), .int .u64 (.ofNat 0), .int .u64 (.ofNat 0), .int .u64 (.ofNat 0), .int .u64 (.ofNat 0), .int .u64 (.ofNat 0), .nilsl]) :: R))))))) (permF (by intro f; simp only [AV.cells, pm] <;> omega))
    obtain ⟨Z, pz, fz⟩ := m.split
    obtain ⟨rw, hrw⟩ : ∃ r : List Fd, r = [.txt xa, .txt xb, .flg xc, .num xd, .num xe] := ⟨_, rfl⟩
    have a1 : shI rw := ⟨_, _, _, _, _, hrw⟩
    have a2 : ∀ f, f ∈ rw → f.wf := by subst hrw; simp only [List.mem_cons, List.not_mem_nil, or_false, forall_eq_or_imp, forall_eq, Fd.wf]; repeat' (first | exact trivial | omega | apply And.intro)
    have a3 : ∀ f, f ∈ rw → f.at B [] := by subst hrw; simp only [List.mem_cons, List.not_mem_nil, or_false, forall_eq_or_imp, forall_eq, Fd.at]; repeat' (first | exact trivial | apply And.intro)
    have a4 := shI_len a1
    have a5 := shI_cell a1 a3
    have a6 : rowC rw = [.str xa, .str xb, .bool xc, .int .u64 (.ofNat xd), .int .u64 (.ofNat xe)] := by subst hrw; rfl
    refine WOps.app (h := hh) (R := (q, .row [.str xa, .str xb, .bool xc, .int .u64 (.ofNat xd), .int .u64 (.ofNat xe)]) :: Z) (n := (acc.map rowC).length) (m := 1) (xs := rowC rw) rfl rfl rfl o ((pz.cons _).trans (permF (by intro f; simp only [AV.cells, pm] <;> omega))) (.inr ⟨_, rfl, .inr (Ld.own Tk.head (by rw [a6]; rfl))⟩) (ac_flat fun x hx => shI_cell (ok x hx).1 (ok x hx).2.2) a5 (by rw [a4.1]) (by rw [List.length_map]; omega) ?_
    intro v2 h4 o2
    have o3 : OwnSl v2 ((acc ++ [rw]).map rowC).flatten ((acc ++ [rw]).map rowC).length 5 h4 := own_snoc o2
    have m9 := ((fz h4).cons (x := (q, .row [.str xa, .str xb, .bool xc, .int .u64 (.ofNat xd), .int .u64 (.ofNat xe)]))).permH (H' := h4 ++ ((q, .row [.str xa, .str xb, .bool xc, .int .u64 (.ofNat xd), .int .u64 (.ofNat xe)]) :: Z)) (permF (by intro f; simp only [AV.cells, pm] <;> omega))
    obtain ⟨Z9, u9, f9⟩ := m9.st (q := p5) (cs := [.int .u64 (.ofNat ix), vn, vs, vc, v, .nilsl, .nilsl, .int .u64 (.ofNat 0), .int .u64 (.ofNat 0), .int .u64 (.ofNat 0), .int .u64 (.ofNat 0), .int .u64 (.ofNat 0), .int .u64 (.ofNat 0), .nilsl]) (R' := (q, .row [.str xa, .str xb, .bool xc, .int .u64 (.ofNat xd), .int .u64 (.ofNat xe)]) :: (p8, .row [.str xa, .str xb, .bool xc, .int .u64 (.ofNat xd), .int .u64 (.ofNat xe)]) :: (h4 ++ (G ++ (Xc ++ (Xs ++ (Xn ++ ((p2, .row [.int .u64 (.ofNat 0), .nilsl, .nilsl, .nilsl, .nilsl, .nilsl, .nilsl, .int .u64 (.ofNat 0), .int .u64 (.ofNat 0), .int .u64 (.ofNat 0), .int .u64 (.ofNat 0), .int .u64 (.ofNat 0), .int .u64 (.ofNat 0), .nilsl]) :: R))))))) (permF (by intro f; simp only [AV.cells, pm] <;> omega))
    have mz := f9 [.int .u64 (.ofNat ix), vn, vs, vc, v2, .nilsl, .nilsl, .int .u64 (.ofNat 0), .int .u64 (.ofNat 0), .int .u64 (.ofNat 0), .int .u64 (.ofNat 0), .int .u64 (.ofNat 0), .int .u64 (.ofNat 0), .nilsl]
    repeat' (first
     | apply WOps.nil | apply WC.reg | (apply WOps.st; rfl; rfl; exact u9; exact congrArg List.length (cells1 o3.cell); rw [cells1 o3.cell]; exact allCell_cons o3.cell allCell_nil; rw [cells1 o3.cell]; rfl) | (apply WOps.addN; rfl; rfl; rfl; omega) | (apply WOps.purG; rfl; (intro _; rfl)))
    obtain ⟨H5, b5, s5⟩ := mz.less (R1 := (p5, .row [.int .u64 (.ofNat ix), vn, vs, vc, v2, .nilsl, .nilsl, .int .u64 (.ofNat 0), .int .u64 (.ofNat 0), .int .u64 (.ofNat 0), .int .u64 (.ofNat 0), .int .u64 (.ofNat 0), .int .u64 (.ofNat 0), .nilsl]) :: (h4 ++ (G ++ (Xc ++ (Xs ++ (Xn ++ ((p2, .row [.int .u64 (.ofNat 0), .nilsl, .nilsl, .nilsl, .nilsl, .nilsl, .nilsl, .int .u64 (.ofNat 0), .int .u64 (.ofNat 0), .int .u64 (.ofNat 0), .int .u64 (.ofNat 0), .int .u64 (.ofNat 0), .int .u64 (.ofNat 0), .nilsl]) :: R))))))) (subF (by intro f; simp only [AV.cells, pm] <;> omega))
    refine WL.le (Sub1.cons rfl (Sub1.cons rfl (Sub1.cons rfl (Sub1.cons rfl (Sub1.cons rfl Sub1.nil))))) (WL.lessP s5 (ih _ (by omega) (i + 1) _ v2 h4 G o3 (by have := ok_snoc ok a1 a2 a3; rw [List.append_nil] at this; exact this) H5 _ b5 (by rw [List.map_append, List.map_singleton]; subst hrw; exact ht2) (by rw [List.length_append, List.length_singleton]; omega) (by omega) rfl))
   ·have ht2 := tot_end (l := acc.map stripR) ht (loopS_e hs)
    obtain ⟨rfl, rfl⟩ := Prod.mk.inj ht2
    repeat' (first
     | apply WOps.nil | apply WC.seq | apply WC.reg | apply WC.exit | (apply WC.condF; rfl) | (apply WOps.cT; rfl; rfl; rfl; rfl; focus (simp only [cmpP, Int.ofNat_eq_natCast, List.length_cons, List.length_map, List.length_nil, Classical.not_not, not_true_eq_false, not_false_eq_true]; first | done | omega | decide)) | (apply WOps.cF; rfl; rfl; rfl; rfl; focus (simp only [cmpP, Int.ofNat_eq_natCast, List.length_cons, List.length_map, List.length_nil, Classical.not_not, not_true_eq_false, not_false_eq_true]; first | done | omega | decide)) | (apply WOps.ldG; rfl; rfl; exact h2.ldE2; rfl) | (apply WOps.purG; rfl; (intro _; rfl)))
    exact ⟨(v, acc, hh ++ G, H1), (Sub1.cons rfl (Sub1.cons rfl (Sub1.cons rfl Sub1.nil))), SubP.refl, (by simp only [List.append_assoc]; exact h2), got (acc := acc) (hh := hh) (G := G) (v := v) (show acc.length ≤ 64 by omega) (fun r h => (shI_len h).1) ok o, rfl⟩
  ·have ht2 := tot_end (l := acc.map stripR) ht (by rw [show ni - i = 0 by omega]; exact loopS_0)
   obtain ⟨rfl, rfl⟩ := Prod.mk.inj ht2
   repeat' (first
    | apply WOps.nil | apply WC.seq | apply WC.reg | apply WC.exit | (apply WC.condF; rfl) | (apply WOps.cF; rfl; rfl; rfl; rfl; focus (simp only [cmpP, Int.ofNat_eq_natCast, List.length_cons, List.length_map, List.length_nil, Classical.not_not, not_true_eq_false, not_false_eq_true]; first | done | omega | decide)) | (apply WOps.purG; rfl; (intro _; rfl)) | (apply WOps.skp; rfl))
   exact ⟨(v, acc, hh ++ G, H1), (Sub1.cons rfl (Sub1.cons rfl (Sub1.cons rfl Sub1.nil))), SubP.refl, (by simp only [List.append_assoc]; exact h2), got (acc := acc) (hh := hh) (G := G) (v := v) (show acc.length ≤ 64 by omega) (fun r h => (shI_len h).1) ok o, rfl⟩
 rintro ⟨vi, ti, Xi, Ji⟩ ⟨hi, ai, xi⟩
 have ci := ai.sl.cell
 replace hi : RdAt B false Ji p s5 Y ((p5, .row [.int .u64 (.ofNat ix), vn, vs, vc, vi, .nilsl, .nilsl, .int .u64 (.ofNat 0), .int .u64 (.ofNat 0), .int .u64 (.ofNat 0), .int .u64 (.ofNat 0), .int .u64 (.ofNat 0), .int .u64 (.ofNat 0), .nilsl]) :: (Xi ++ (Xc ++ (Xs ++ (Xn ++ ((p2, .row [.int .u64 (.ofNat 0), .nilsl, .nilsl, .nilsl, .nilsl, .nilsl, .nilsl, .int .u64 (.ofNat 0), .int .u64 (.ofNat 0), .int .u64 (.ofNat 0), .int .u64 (.ofNat 0), .int .u64 (.ofNat 0), .int .u64 (.ofNat 0), .nilsl]) :: R)))))) := hi
 replace ai : LAt B Xi vi 5 shI ti := ai
 replace xi : ti.map stripR = ri := xi
 show WC B tab _ _ _ [(2, .ptr ⟨false, p2, 0⟩), (4, .ptr ⟨false, p, 0⟩), (5, .ptr ⟨false, p5, 0⟩)] Ji _
 have w54 := more54_ok (ix := ix) hi cn cs cc ci e6 e7 e8 e9 e10 e11 e12 e13 e14
 refine WC.seq (WC.reg ?_)
 repeat' (first
  | (apply WOps.ldG; rfl; rfl; exact hi.ld (Ld.own Tk.head rfl); rfl) | (apply WOps.clA; rfl; rfl; exact w54; rintro _ H9 w9) | (apply WOps.purG; rfl; (intro _; rfl)))
 rcases w9 with ⟨hz, ve, vl, vq, te, tl, tq, X, rfl, ae, al, aq, xe, xl, xq, sp⟩ | ⟨hz, rfl, sp⟩
 ·have gz : getD bs = (⟨ix, .nilsl, .nilsl, .nilsl, .nilsl, .nilsl, .nilsl, l0, l1, l2, l3, l4, l5, .nilsl, rn, rs, rc, ri, re, rl, rq⟩, 0) := by simp only [getD, eg, hz, if_pos]
  obtain ⟨Z, tz, sz⟩ := tk_sub (q := p2) (o := .row [.int .u64 (.ofNat 0), .nilsl, .nilsl, .nilsl, .nilsl, .nilsl, .nilsl, .int .u64 (.ofNat 0), .int .u64 (.ofNat 0), .int .u64 (.ofNat 0), .int .u64 (.ofNat 0), .int .u64 (.ofNat 0), .int .u64 (.ofNat 0), .nilsl]) (R := X ++ (Xi ++ (Xc ++ (Xs ++ (Xn ++ R))))) (SubP.trans (subF (by intro f; simp only [AV.cells, pm] <;> omega)) sp)
  have ce := ae.sl.cell
  have cl := al.sl.cell
  have cq := aq.sl.cell
  have hd : DdAt B (X ++ (Xi ++ (Xc ++ (Xs ++ Xn)))) ⟨ix, vn, vs, vc, vi, ve, vl, l0, l1, l2, l3, l4, l5, vq, tn, ts, tc, ti, te, tl, tq⟩ := ⟨(((an.app _).app _).app _).app _, ((asx.left.app _).app _).app _, (ac.left.app _).app _, ai.left.app _, ae.left, al.left, aq.left, ⟨q1.2, num_u e8, num_u e9, num_u e10, num_u e11, num_u e12, num_u e13⟩⟩
  repeat' (first
   | apply WOps.nil | apply WC.ret | (apply WOps.st; rfl; rfl; exact tz; rfl; exact ac1 rfl (ac1 cn (ac1 cs (ac1 cc (ac1 ci (ac1 ce (ac1 cl (ac1 rfl (ac1 rfl (ac1 rfl (ac1 rfl (ac1 rfl (ac1 rfl (ac1 cq ac0))))))))))))); rfl) | (apply WOps.purG; rfl; (intro _; rfl)))
  exact ⟨trivial, [_, _], ⟨_, [_], rfl, ⟨_, _, rfl, Ld.own Tk.head rfl, rfl⟩, _, [], rfl, rfl, rfl⟩, _, ⟨_, _, by rw [gz]; rfl, hd, by rw [gz]; simp only [stripD, xn, xs, xc, xi, xe, xl, xq], rfl⟩, SubP.trans (SubP.trans (subF (by intro f; simp only [AV.cells, pm] <;> omega)) sz) ⟨[_], (List.perm_append_singleton _ _).symm⟩⟩
 ·have gz : getD bs = (zD, doneS s14) := by simp only [getD, eg, hz, if_neg, if_false]
  obtain ⟨Z, tz, sz⟩ := tk_sub (q := p2) (o := .row [.int .u64 (.ofNat 0), .nilsl, .nilsl, .nilsl, .nilsl, .nilsl, .nilsl, .int .u64 (.ofNat 0), .int .u64 (.ofNat 0), .int .u64 (.ofNat 0), .int .u64 (.ofNat 0), .int .u64 (.ofNat 0), .int .u64 (.ofNat 0), .nilsl]) (R := (Xi ++ (Xc ++ (Xs ++ (Xn ++ R))))) (SubP.trans (subF (by intro f; simp only [AV.cells, pm] <;> omega)) sp)
  repeat' (first
   | apply WOps.nil | apply WC.ret | (apply WOps.st; rfl; rfl; exact tz; rfl; rfl; rfl) | (apply WOps.purG; rfl; (intro _; rfl)))
  exact ⟨trivial, [_, _], ⟨_, [_], rfl, ⟨_, _, rfl, Ld.own Tk.head rfl, rfl⟩, _, [], rfl, rfl, rfl⟩, _, ⟨zD, [], by rw [gz]; rfl, zD_at, by rw [gz]; rfl, rfl⟩, SubP.trans (SubP.trans (subF (by intro f; simp only [AV.cells, pm] <;> omega)) sz) ⟨[_], (List.perm_append_singleton _ _).symm⟩⟩
set_option maxHeartbeats 4000000 in
theorem gets_ok {u : AV} {bs : List Nat} (sr : SrcIs B [] u 1 bs.length (cellsOfStr bs)) (hb : byL bs) (hl : bs.length ≤ 140737488355328) : WF B tab (.func 4) [u] [] fun v _ => v = .bool true := by
 refine WF.fn g4 rfl ?_
 refine WC.seq (WC.reg ?_)
 repeat' (first
  | apply WOps.nil | (apply WOps.purG; rfl; (intro _; rfl)))
 refine WC.seq (WC.reg ?_)
 repeat' (first
  | apply WOps.nil | (apply WOps.st; rfl; rfl; (first | exact tk0 | exact tk1 | exact tk2); rfl; (· repeat' (first | rfl | assumption | apply ac1)); rfl) | (apply WOps.alc; rfl; intro _) | (apply WOps.clA; rfl; rfl; exact get12_ok sr hb hl; rintro _ H1 ⟨d, X, rfl, hd, e1, rfl⟩; have ad := dumpC_cell hd) | (apply WOps.purG; rfl; (intro _; rfl)))
 rename_i p3
 refine WC.seq (WC.reg ?_)
 repeat' (first
  | apply WOps.nil | (apply WOps.st; rfl; rfl; (first | exact tk0 | exact tk1 | exact tk2); rfl; (· repeat' (first | rfl | assumption | apply ac1)); rfl) | (apply WOps.alc; rfl; intro _) | (apply WOps.clA; rfl; rfl; exact get13_ok sr hb hl; rintro _ H2 ⟨c, X2, rfl, hc, e2, rfl⟩; have ac := dumpC_cell hc) | (apply WOps.purG; rfl; (intro _; rfl)))
 rename_i p5
 refine WC.seq (WC.reg ?_)
 repeat' (first
  | apply WOps.nil | apply WC.ret | (apply WOps.ldG; rfl; rfl; (first | exact ld0 rfl | exact ld1 rfl | exact ld2 rfl); rfl) | (apply WOps.cT; rfl; rfl; rfl; rfl; focus (simp only [cmpP, Int.ofNat_eq_natCast, List.length_cons, List.length_map, List.length_nil, Classical.not_not, not_true_eq_false, not_false_eq_true]; first | done | omega | decide)) | (apply WOps.ldG; rfl; rfl; exact Ld.cons (Ld.right (Ld.own Tk.head rfl)); rfl) | (apply WOps.clR; rfl; rfl; exact same14_ok ((hd.left (X := [])).cons.app X2).cons (hc.left).cons (e1.trans e2.symm); rintro _ rfl) | (apply WOps.clR; rfl; rfl; exact works10; rintro _ rfl) | (apply WOps.purG; rfl; (intro _; rfl)))
 exact ⟨trivial, [_], ⟨_, _, rfl, rfl, rfl⟩, rfl⟩
theorem t33 : tyOf Try.prog 33 = .sl 5 1 := by kernel_rfl
theorem t5' : tyOf Try.prog 5 = .int .u8 := by kernel_rfl
theorem b5 : Try.prog.bytesOf 5 = 1 := by kernel_rfl
theorem m8 : IntKind.u8.min = 0 ∧ IntKind.u8.max = 255 := by decide
theorem list_of' {α : Type} {P : α → Prop} {f : α → List AV} {xs : List (List AV)} (h : ∀ (i : Nat) c, xs[i]? = some c → ∃ a, c = f a ∧ P a) : ∃ l : List α, xs = l.map f ∧ ∀ a, a ∈ l → P a := by
  induction xs with
  | nil => exact ⟨[], rfl, fun a ha => by cases ha⟩
  | cons c xs ih =>
    obtain ⟨l, e, hl⟩ := ih fun i c' h' => h (i + 1) c' (by simpa using h')
    obtain ⟨a, e2, ha⟩ := h 0 c (by simp)
    refine ⟨a :: l, by rw [e, e2]; rfl, fun b hb => ?_⟩
    rcases List.mem_cons.1 hb with h3 | h3
    · rw [h3]; exact ha
    · exact hl b h3
theorem takeN_iff : ∀ {l c : List AV} {n : Nat}, takeN l n = some c → n ≤ l.length ∧ c = l.take n := by
  intro l c n h
  by_cases hn : n ≤ l.length
  · rw [takeN_of hn] at h
    cases h
    exact ⟨hn, rfl⟩
  · exfalso
    have key : ∀ (l : List AV) (n : Nat), ¬ n ≤ l.length → takeN l n = none := by
      intro l
      induction l with
      | nil => intro n hn; cases n with
        | zero => exact absurd (Nat.zero_le _) hn
        | succ n => rfl
      | cons x l ih => intro n hn; cases n with
        | zero => exact absurd (Nat.zero_le _) hn
        | succ n => simp only [takeN, ih n (by simpa using hn)]
    rw [key l n hn] at h
    cases h
theorem src_of {v : AV} {esz : Nat} {xs : List (List AV)} (h : SlIs B [] v esz xs) : ∀ {H : HL}, SrcIs B H v esz xs.length xs.flatten := by
  intro H
  rcases h with ⟨rfl, rfl⟩ | ⟨a, rfl, h⟩
  · exact .inl ⟨rfl, rfl, rfl⟩
  · refine .inr ⟨a, rfl, ?_⟩
    cases xs with
    | nil => exact .inl ⟨rfl, rfl⟩
    | cons x0 xs0 =>
      right
      have hro : a.ro = true := by
        rcases h 0 x0 rfl with ⟨h1, _⟩ | ⟨_, cs, R, tk, _⟩
        · exact h1
        · have := tk.length_eq
          simp at this
      left
      refine ⟨hro, ?_⟩
      have key : ∀ (ys : List (List AV)) (off : Nat), (∀ i c, ys[i]? = some c → takeN ((B a.id).drop (off + i * esz)) esz = some c) → takeN ((B a.id).drop off) (ys.length * esz) = some ys.flatten := by
        intro ys
        induction ys with
        | nil => intro off _; simp [takeN_of]
        | cons y ys ih =>
          intro off hh
          have h0 := takeN_iff (hh 0 y rfl)
          rw [Nat.zero_mul, Nat.add_zero] at h0
          have h1 := takeN_iff (ih (off + esz) fun i c hc => by
            have := hh (i + 1) c (by simpa using hc)
            rw [Nat.succ_mul] at this
            rw [show off + esz + i * esz = off + (i * esz + esz) by omega]
            exact this)
          rw [List.length_drop] at h0 h1
          rw [takeN_of (by rw [List.length_drop, List.length_cons, Nat.succ_mul]; omega), List.length_cons, Nat.succ_mul, Nat.add_comm (ys.length * esz) esz, List.take_add, List.flatten_cons, h1.2, h0.2, List.drop_drop]
      refine key (x0 :: xs0) a.off fun i c hc => ?_
      rcases h i c hc with ⟨_, h2⟩ | ⟨_, cs, R, tk, _⟩
      · exact h2
      · have := tk.length_eq
        simp at this
theorem bytes_of {n : Nat} {c : List AV} (h : Is Try.prog B n 33 c) : ∃ (u : AV) (bs : List Nat), c = [u] ∧ SrcIs B [] u 1 bs.length (cellsOfStr bs) ∧ byL bs ∧ bs.length ≤ 140737488355328 := by
  obtain ⟨m, v, xs, e, sl, l1, l2, y⟩ := h.sliceB t33
  obtain ⟨l, il, ol⟩ := list_of' (α := Nat) (P := fun b => b < 256) (f := byC) (xs := xs) fun i c hc => by
    obtain ⟨k, e, lo, hi⟩ := (y i c hc).int t5'
    rw [m8.1] at lo
    rw [m8.2] at hi
    refine ⟨k.toNat, ?_, by omega⟩
    rw [e, byC, show Int.ofNat k.toNat = k by simp only [Int.ofNat_eq_natCast]; omega]
  subst il
  have hs := src_of sl (H := [])
  rw [List.length_map, bytes_flat] at hs
  rw [List.length_map, b5, Nat.mul_one] at l2
  have : reachBytes = 140737488351232 := rfl
  exact ⟨v, l, e, hs, ol, by omega⟩
theorem dumpGets_wf (B : Nat → List AV) (args : List AV) (h : ArgIs Try.prog B Try.f4.params.toList args) : WF B tab (.func 4) args [] fun v _ => v = .bool true := by
  rw [show Try.f4.params.toList = [33] from by kernel_rfl] at h
  match args, h with
  | [a], ⟨⟨n, cs, h, ha⟩, _⟩ =>
    rw [show (shapeOf Try.prog 33).1 = false from by kernel_rfl] at ha
    simp only at ha
    obtain ⟨u, bs, e, h1, h2, h3⟩ := bytes_of h
    rw [e] at ha
    cases ha
    exact gets_ok h1 h2 h3
end Go.Proofs.Ytdcbglljljfleaa.DU
