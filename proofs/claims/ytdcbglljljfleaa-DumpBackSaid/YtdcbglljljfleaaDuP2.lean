/- What the functions do, shown by the logic. -/
import Derived.Test.YtdcbglljljfleaaDuP1
set_option linter.unusedSimpArgs false
set_option linter.unusedVariables false
set_option linter.unusedSectionVars false
set_option maxRecDepth 20000
namespace Go.Proofs.Ytdcbglljljfleaa.DU
open Go.Proofs.Ytdcbglljljfleaa.Abs
variable {B : Nat → List AV}
theorem many30_ok {H R : HL} {ap : Nat} {w : Bool} {n : Int} (tk : Tk H ap (.row [.bool w]) R) :
  WF B tab (.func 30) [.ptr ⟨false, ap, 0⟩, .int .i64 n] H fun _ H' => ∃ w' : Bool, H' = (ap, .row [.bool w']) :: R ∧ (w' = true ↔ w = true ∨ 64 < n) := by
 refine WF.perm tk ?_
 refine WF.fn g30 rfl ?_
 cases w
 ·repeat' (first
   | apply WOps.nil | apply WC.reg | (apply WOps.ldG; rfl; rfl; (first | exact ld0 rfl | exact ld1 rfl | exact ld2 rfl); rfl) | (apply WOps.st; rfl; rfl; (first | exact tk0 | exact tk1 | exact tk2); rfl; (· repeat' (first | rfl | assumption | apply ac1)); rfl) | (apply WOps.cmp; rfl; rfl; rfl; rfl; intro _ _) | (apply WOps.purG; rfl; (intro _; rfl)))
  rename_i v hv
  exact ⟨trivial, [], rfl, v, rfl, by rw [hv]; simp [cmpP]⟩
 ·repeat' (first
   | apply WOps.nil | apply WC.reg | (apply WOps.ldG; rfl; rfl; (first | exact ld0 rfl | exact ld1 rfl | exact ld2 rfl); rfl) | (apply WOps.st; rfl; rfl; (first | exact tk0 | exact tk1 | exact tk2); rfl; (· repeat' (first | rfl | assumption | apply ac1)); rfl) | (apply WOps.purG; rfl; (intro _; rfl)) | (apply WOps.skp; rfl))
  exact ⟨trivial, [], rfl, true, rfl, by simp⟩
theorem within31_ok {H R : HL} {ap : Nat} {w : Bool} {n m : Int} (tk : Tk H ap (.row [.bool w]) R) :
  WF B tab (.func 31) [.ptr ⟨false, ap, 0⟩, .int .i64 n, .int .i64 m] H fun _ H' => ∃ w' : Bool, H' = (ap, .row [.bool w']) :: R ∧ (w' = true ↔ w = true ∨ (n < 0 ∨ m < n)) := by
 refine WF.perm tk ?_
 refine WF.fn g31 rfl ?_
 cases w
 ·repeat' (first
   | apply WOps.nil | apply WC.reg | (apply WOps.ldG; rfl; rfl; (first | exact ld0 rfl | exact ld1 rfl | exact ld2 rfl); rfl) | (apply WOps.st; rfl; rfl; (first | exact tk0 | exact tk1 | exact tk2); rfl; (· repeat' (first | rfl | assumption | apply ac1)); rfl) | (apply WOps.cmp; rfl; rfl; rfl; rfl; intro _ _) | (apply WOps.purG; rfl; (intro _; rfl)) | (apply WOps.skp; rfl) | (apply WOps.ask; rfl; all_goals (intro hb; first | subst hb | fail_if_success (cases hb))))
  ·have h1 := ‹true = true ↔ cmpP BinOp.lss n (Int.ofNat 0)›.1 rfl
   simp only [cmpP, Int.ofNat_eq_natCast] at h1
   exact ⟨trivial, [], rfl, true, rfl, by simp only [true_iff]; right; left; omega⟩
  ·rename_i v hv
   have h1 := eq_of_ff ‹false = true ↔ cmpP BinOp.lss n (Int.ofNat 0)›
   simp only [cmpP, Int.ofNat_eq_natCast] at h1
   refine ⟨trivial, [], rfl, v, rfl, ?_⟩
   rw [hv]
   simp only [cmpP]
   constructor
   ·intro h; right; right; exact h
   ·rintro (h | h | h)
    ·cases h
    ·omega
    ·exact h
 ·repeat' (first
   | apply WOps.nil | apply WC.reg | (apply WOps.ldG; rfl; rfl; (first | exact ld0 rfl | exact ld1 rfl | exact ld2 rfl); rfl) | (apply WOps.st; rfl; rfl; (first | exact tk0 | exact tk1 | exact tk2); rfl; (· repeat' (first | rfl | assumption | apply ac1)); rfl) | (apply WOps.purG; rfl; (intro _; rfl)) | (apply WOps.skp; rfl))
  exact ⟨trivial, [], rfl, true, rfl, by simp⟩
theorem texts32_ok {H R : HL} {ap : Nat} {w : Bool} {vl : AV} {l : List (List Nat)} (tk : Tk H ap (.row [.bool w]) R) (hv : SlIs B R vl 1 (l.map strC)) (hl : l.length ≤ 9223372036854775807) :
  WF B tab (.func 32) [.ptr ⟨false, ap, 0⟩, vl] H fun _ H' => ∃ w' : Bool, H' = (ap, .row [.bool w']) :: R ∧ (w' = true ↔ w = true ∨ ∃ s, s ∈ l ∧ 80 < s.length) := by
 refine WF.perm tk ?_
 refine WF.lessP ?_
 refine WF.fn g32 rfl ?_
 refine WC.seq (WC.reg ?_)
 repeat' (first
  | apply WOps.nil | apply WC.block | (apply WOps.lenS; rfl; rfl; exact SlIs.cons hv) | (apply WOps.purG; rfl; (intro _; rfl)))
 rw [List.length_map]
 refine WC.loop ?_
 obtain ⟨i, hi⟩ : ∃ i : Nat, i = 0 := ⟨0, rfl⟩
 obtain ⟨w2, hw2⟩ : ∃ c : Bool, c = w := ⟨_, rfl⟩
 refine WL.le (t' := [(0, .ptr ⟨false, ap, 0⟩), (6, vl), (7, .int .i64 (.ofNat l.length)), (8, .int .i64 (.ofNat i))]) (by subst hi; exact Sub1.cons rfl (Sub1.cons rfl (Sub1.cons rfl (Sub1.cons rfl Sub1.nil)))) ?_
 refine WL.heq (H' := (ap, .row [.bool w2]) :: R) (by subst hw2; rfl) ?_
 have hwi : w2 = true ↔ w = true ∨ ∃ s, s ∈ l.take i ∧ 80 < s.length := by subst hi hw2; simp
 have hle : i ≤ l.length := by omega
 clear hi hw2
 induction hk : l.length - i using Nat.strongRecOn generalizing i w2 with | _ k ih => ?_
 apply WL.step
 repeat' (first
  | apply WOps.nil | apply WC.seq | apply WC.reg | apply WC.skip | apply WC.exit | apply WC.block | (apply WOps.cmp; rfl; rfl; rfl; rfl; intro _ _) | (apply WC.condA; rfl; all_goals (intro hb; try subst hb)))
 ·have hlt : i < l.length := by
   have h0 := ‹true = true ↔ cmpP BinOp.lss (Int.ofNat i) (Int.ofNat l.length)›.1 rfl
   simp [cmpP] at h0; omega
  have hc : (l.map strC)[i]? = some (strC l[i]) := by rw [List.getElem?_map, List.getElem?_eq_getElem hlt]; rfl
  have nx : ∀ w' : Bool, (w' = true ↔ w2 = true ∨ 80 < l[i].length) → WL B tab c32.nt none _ [(0, .ptr ⟨false, ap, 0⟩), (6, vl), (7, .int .i64 (.ofNat l.length)), (8, .int .i64 (.ofNat (i + 1)))] ((ap, .row [.bool w']) :: R) _ := fun w' hw' => ih _ (by omega) (i + 1) w' (by
   rw [hw', hwi, List.take_succ_eq_append_getElem hlt]
   simp only [List.mem_append, List.mem_singleton]
   constructor
   ·rintro ((h | ⟨s, h1, h2⟩) | h)
    ·exact .inl h
    ·exact .inr ⟨s, .inl h1, h2⟩
    ·exact .inr ⟨_, .inr rfl, h⟩
   ·rintro (h | ⟨s, h1 | h1, h2⟩)
    ·exact .inl (.inl h)
    ·exact .inl (.inr ⟨s, h1, h2⟩)
    ·exact .inr (by rw [← h1]; exact h2)) (by omega) rfl
  clear hwi ih
  cases w2
  ·repeat' (first
    | apply WOps.nil | apply WC.reg | (apply WOps.ldG; rfl; rfl; (first | exact ld0 rfl | exact ld1 rfl | exact ld2 rfl); rfl) | (apply WOps.st; rfl; rfl; (first | exact tk0 | exact tk1 | exact tk2); rfl; (· repeat' (first | rfl | assumption | apply ac1)); rfl) | (apply WOps.ixSl; rfl; rfl; rfl; exact SlIs.cons hv; exact hc; intro ax hax) | (apply WOps.ldG; rfl; rfl; exact hax; rfl) | (apply WOps.lenT; rfl; rfl) | (apply WOps.addN; rfl; rfl; rfl; omega) | (apply WOps.cmp; rfl; rfl; rfl; rfl; intro _ _) | (apply WOps.purG; rfl; (intro _; rfl)))
   rename_i v hv3
   exact WL.le (Sub1.cons rfl (Sub1.cons rfl (Sub1.cons rfl (Sub1.cons rfl Sub1.nil)))) (nx v (by rw [hv3]; simp [cmpP]; omega))
  ·repeat' (first
    | apply WOps.nil | apply WC.reg | (apply WOps.ldG; rfl; rfl; (first | exact ld0 rfl | exact ld1 rfl | exact ld2 rfl); rfl) | (apply WOps.st; rfl; rfl; (first | exact tk0 | exact tk1 | exact tk2); rfl; (· repeat' (first | rfl | assumption | apply ac1)); rfl) | (apply WOps.ixSl; rfl; rfl; rfl; exact SlIs.cons hv; exact hc; intro ax hax) | (apply WOps.ldG; rfl; rfl; exact hax; rfl) | (apply WOps.addN; rfl; rfl; rfl; omega) | (apply WOps.purG; rfl; (intro _; rfl)) | (apply WOps.skp; rfl))
   exact WL.le (Sub1.cons rfl (Sub1.cons rfl (Sub1.cons rfl (Sub1.cons rfl Sub1.nil)))) (nx true (by simp))
 ·have hge : i = l.length := by
   have h0 := eq_of_ff ‹false = true ↔ cmpP BinOp.lss (Int.ofNat i) (Int.ofNat l.length)›
   simp [cmpP] at h0; omega
  rw [hge, List.take_length] at hwi
  exact ⟨trivial, [], rfl, _, ⟨w2, rfl, hwi⟩, SubP.refl⟩
def rightRow (r : List Fd) : Prop := ∀ f, f ∈ r → f.right
theorem built {q : Nat} {R : HL} {l : List (List Nat)} : SlIs B ((q, .row (l.map AV.str)) :: R) (.sl ⟨false, q, 0⟩ l.length 1) 1 (l.map strC) := by
 have e : (l.map strC).flatten = l.map AV.str := by
  induction l with
  | nil => rfl
  | cons a l ih => simp only [List.map_cons, List.flatten_cons, ih]; rfl
 have o : OwnSl (.sl ⟨false, q, 0⟩ l.length 1) (l.map strC).flatten (l.map strC).length 1 [(q, .row (l.map AV.str))] := .inr ⟨q, by rw [List.length_map], by rw [e], by rw [e, List.length_map, List.length_map, Nat.mul_one]⟩
 exact SlIs.left (H := [(q, .row (l.map AV.str))]) (OwnSl.sl o (by intro c hc; obtain ⟨x, _, rfl⟩ := List.mem_map.1 hc; rfl))
theorem texts_1 {R : HL} {ap q : Nat} {w : Bool} {a : List Nat} {H : HL} (tk : Tk H ap (.row [.bool w]) ((q, .row [.str a]) :: R)) :
  WF B tab (.func 32) [.ptr ⟨false, ap, 0⟩, .sl ⟨false, q, 0⟩ 1 1] H fun _ H' => ∃ w' : Bool, H' = (ap, .row [.bool w']) :: (q, .row [.str a]) :: R ∧ (w' = true ↔ w = true ∨ 80 < a.length) := by
 refine (texts32_ok (l := [a]) tk (built (l := [a])) (by simp)).mono ?_
 rintro r H' ⟨w', h1, h2⟩
 exact ⟨w', h1, by rw [h2]; simp⟩
theorem texts_2 {R : HL} {ap q : Nat} {w : Bool} {a b : List Nat} {H : HL} (tk : Tk H ap (.row [.bool w]) ((q, .row [.str a, .str b]) :: R)) :
  WF B tab (.func 32) [.ptr ⟨false, ap, 0⟩, .sl ⟨false, q, 0⟩ 2 1] H fun _ H' => ∃ w' : Bool, H' = (ap, .row [.bool w']) :: (q, .row [.str a, .str b]) :: R ∧ (w' = true ↔ w = true ∨ 80 < a.length ∨ 80 < b.length) := by
 refine (texts32_ok (l := [a, b]) tk (built (l := [a, b])) (by simp)).mono ?_
 rintro r H' ⟨w', h1, h2⟩
 exact ⟨w', h1, by rw [h2]; simp⟩
theorem texts_3 {R : HL} {ap q : Nat} {w : Bool} {a b c : List Nat} {H : HL} (tk : Tk H ap (.row [.bool w]) ((q, .row [.str a, .str b, .str c]) :: R)) :
  WF B tab (.func 32) [.ptr ⟨false, ap, 0⟩, .sl ⟨false, q, 0⟩ 3 1] H fun _ H' => ∃ w' : Bool, H' = (ap, .row [.bool w']) :: (q, .row [.str a, .str b, .str c]) :: R ∧ (w' = true ↔ w = true ∨ 80 < a.length ∨ 80 < b.length ∨ 80 < c.length) := by
 refine (texts32_ok (l := [a, b, c]) tk (built (l := [a, b, c])) (by simp)).mono ?_
 rintro r H' ⟨w', h1, h2⟩
 exact ⟨w', h1, by rw [h2]; simp⟩
def badL (l : List (List Fd)) : Prop := ∃ r, r ∈ l ∧ ¬ rightRow r
theorem badL_snoc {l : List (List Fd)} {r : List Fd} : badL (l ++ [r]) ↔ badL l ∨ ¬ rightRow r := by
 unfold badL
 constructor
 ·rintro ⟨x, hx, h⟩
  rcases List.mem_append.1 hx with hx | hx
  ·exact .inl ⟨x, hx, h⟩
  ·rw [List.mem_singleton] at hx; exact .inr (by rw [← hx]; exact h)
 ·rintro (⟨x, hx, h⟩ | h)
  ·exact ⟨x, List.mem_append_left _ hx, h⟩
  ·exact ⟨r, List.mem_append_right _ List.mem_cons_self, h⟩
def longD (d : DD) : Prop := 64 < d.n.length ∨ 64 < d.s.length ∨ 64 < d.c.length ∨ 64 < d.i.length ∨ 64 < d.e.length ∨ 64 < d.l.length ∨ 64 < d.q.length
def badD (d : DD) : Prop := (((((((longD d ∨ badL d.n) ∨ badL d.s) ∨ badL d.c) ∨ badL d.i) ∨ badL d.e) ∨ badL d.l) ∨ badL d.q)
theorem rightN (a : Int) (b : List Nat) (c : Nat) (d : Nat) : rightRow [.int a 255, .txt b, .num c, .num d] ↔ (0 ≤ a ∧ a ≤ 255) ∧ b.length ≤ 80 := by
 simp [rightRow, Fd.right, and_assoc]
theorem rightS (a : Int) (b : List Nat) (c : List Nat) (vd : AV) (d : List (List Nat)) (e : Int) (f : Nat) (g : Nat) : rightRow [.int a 255, .txt b, .txt c, .txs vd d, .int e 65535, .num f, .num g] ↔ (0 ≤ a ∧ a ≤ 255) ∧ b.length ≤ 80 ∧ c.length ≤ 80 ∧ (d.length ≤ 8 ∧ ∀ s, s ∈ d → s.length ≤ 80) ∧ (0 ≤ e ∧ e ≤ 65535) := by
 simp [rightRow, Fd.right, and_assoc]
theorem rightC (a : Int) (b : List Nat) (c : List Nat) (d : List Nat) (e : Int) (f : Nat) (g : Nat) : rightRow [.int a 255, .txt b, .txt c, .txt d, .int e 255, .num f, .num g] ↔ (0 ≤ a ∧ a ≤ 255) ∧ b.length ≤ 80 ∧ c.length ≤ 80 ∧ d.length ≤ 80 ∧ (0 ≤ e ∧ e ≤ 255) := by
 simp [rightRow, Fd.right, and_assoc]
theorem rightI (a : List Nat) (b : List Nat) (c : Bool) (d : Nat) (e : Nat) : rightRow [.txt a, .txt b, .flg c, .num d, .num e] ↔ a.length ≤ 80 ∧ b.length ≤ 80 := by
 simp [rightRow, Fd.right, and_assoc]
theorem rightE (a : List Nat) (b : List Nat) (c : Nat) (d : Nat) (e : Nat) (f : Nat) : rightRow [.txt a, .txt b, .num c, .num d, .num e, .num f] ↔ a.length ≤ 80 ∧ b.length ≤ 80 := by
 simp [rightRow, Fd.right, and_assoc]
theorem rightL (a : Nat) (b : Int) (c : Nat) (d : Nat) : rightRow [.num a, .int b 255, .num c, .num d] ↔ (0 ≤ b ∧ b ≤ 255) := by
 simp [rightRow, Fd.right, and_assoc]
theorem rightQ (a : Int) (b : Nat) (c : Nat) : rightRow [.int a 255, .u32 b, .num c] ↔ (0 ≤ a ∧ a ≤ 255) := by
 simp [rightRow, Fd.right, and_assoc]
def rg (ap p1 : Nat) (d : DD) (H : HL) (w : Bool) : HL := (ap, .row [.bool w]) :: (p1, .row (dumpC d)) :: H
set_option maxHeartbeats 16000000 in
theorem right8_ok {H : HL} {d : DD} (hd : DdAt B H d) : WF B tab (.func 8) [.agg (dumpC d)] H fun r H' => H' = H ∧ ∃ b : Bool, r = .bool b ∧ (b = true ↔ ¬ badD d) := by
 refine WF.lessP ?_
 refine WF.fn g8 rfl ?_
 have cn := hd.n.sl.cell
 have cs := hd.s.sl.cell
 have cc := hd.c.sl.cell
 have ci := hd.i.sl.cell
 have ce := hd.e.sl.cell
 have cl := hd.l.sl.cell
 have cq := hd.q.sl.cell
 refine WC.seq (WC.reg ?_)
 repeat' (first
  | apply WOps.nil | (apply WOps.bx; rfl; rfl; (· repeat' (first | rfl | assumption | apply ac1)); intro _) | (apply WOps.purG; rfl; (intro _; rfl)))
 rename_i p1
 refine WC.seq (WC.reg ?_)
 repeat' (first
  | apply WOps.nil | (apply WOps.bx; rfl; rfl; (· repeat' (first | rfl | assumption | apply ac1)); intro _) | (apply WOps.purG; rfl; (intro _; rfl)))
 rename_i ap
 refine WC.cut2 (X := Bool) (fun _ => [(1, .ptr ⟨false, p1, 0⟩), (3, .ptr ⟨false, ap, 0⟩)]) (rg ap p1 d H) (fun w => w = true ↔ longD d) ?_ ?_
 ·refine WC.seq (WC.reg ?_)
  repeat' (first
   | apply WOps.nil | apply WC.block | (apply WOps.ldG; rfl; rfl; (first | exact ld0 rfl | exact ld1 rfl | exact ld2 rfl); rfl) | (apply WOps.lenS; rfl; rfl; exact SlIs.cons (SlIs.cons hd.n.sl)) | (apply WOps.lenS; rfl; rfl; exact SlIs.cons (SlIs.cons hd.s.sl)) | (apply WOps.lenS; rfl; rfl; exact SlIs.cons (SlIs.cons hd.c.sl)) | (apply WOps.lenS; rfl; rfl; exact SlIs.cons (SlIs.cons hd.i.sl)) | (apply WOps.lenS; rfl; rfl; exact SlIs.cons (SlIs.cons hd.e.sl)) | (apply WOps.lenS; rfl; rfl; exact SlIs.cons (SlIs.cons hd.l.sl)) | (apply WOps.lenS; rfl; rfl; exact SlIs.cons (SlIs.cons hd.q.sl)) | (apply WOps.purG; rfl; (intro _; rfl)))
  simp only [List.length_map]
  refine WC.loop ?_
  apply WL.step
  repeat' (first
   | apply WOps.nil | apply WC.seq | apply WC.reg | apply WC.skip | (apply WC.condT; rfl) | apply WC.block | (apply WOps.clA; rfl; rfl; exact many30_ok Tk.head; rintro _ _ ⟨w0, rfl, q0⟩) | (apply WOps.purG; rfl; (intro _; rfl)))
  apply WL.step
  repeat' (first
   | apply WOps.nil | apply WC.seq | apply WC.reg | apply WC.skip | (apply WC.condT; rfl) | apply WC.block | (apply WOps.clA; rfl; rfl; exact many30_ok Tk.head; rintro _ _ ⟨w1, rfl, q1⟩) | (apply WOps.purG; rfl; (intro _; rfl)))
  apply WL.step
  repeat' (first
   | apply WOps.nil | apply WC.seq | apply WC.reg | apply WC.skip | (apply WC.condT; rfl) | apply WC.block | (apply WOps.clA; rfl; rfl; exact many30_ok Tk.head; rintro _ _ ⟨w2, rfl, q2⟩) | (apply WOps.purG; rfl; (intro _; rfl)))
  apply WL.step
  repeat' (first
   | apply WOps.nil | apply WC.seq | apply WC.reg | apply WC.skip | (apply WC.condT; rfl) | apply WC.block | (apply WOps.clA; rfl; rfl; exact many30_ok Tk.head; rintro _ _ ⟨w3, rfl, q3⟩) | (apply WOps.purG; rfl; (intro _; rfl)))
  apply WL.step
  repeat' (first
   | apply WOps.nil | apply WC.seq | apply WC.reg | apply WC.skip | (apply WC.condT; rfl) | apply WC.block | (apply WOps.clA; rfl; rfl; exact many30_ok Tk.head; rintro _ _ ⟨w4, rfl, q4⟩) | (apply WOps.purG; rfl; (intro _; rfl)))
  apply WL.step
  repeat' (first
   | apply WOps.nil | apply WC.seq | apply WC.reg | apply WC.skip | (apply WC.condT; rfl) | apply WC.block | (apply WOps.clA; rfl; rfl; exact many30_ok Tk.head; rintro _ _ ⟨w5, rfl, q5⟩) | (apply WOps.purG; rfl; (intro _; rfl)))
  apply WL.step
  repeat' (first
   | apply WOps.nil | apply WC.seq | apply WC.reg | apply WC.skip | (apply WC.condT; rfl) | apply WC.block | (apply WOps.clA; rfl; rfl; exact many30_ok Tk.head; rintro _ _ ⟨w6, rfl, q6⟩) | (apply WOps.purG; rfl; (intro _; rfl)))
  apply WL.step
  repeat' (first
   | apply WOps.nil | apply WC.seq | apply WC.reg | apply WC.exit | (apply WC.condF; rfl) | (apply WOps.purG; rfl; (intro _; rfl)))
  exact ⟨w6, Sub1.cons rfl (Sub1.cons rfl Sub1.nil), SubP.refl, by unfold longD; rw [q6, q5, q4, q3, q2, q1, q0]; simp [or_assoc]; omega⟩
 intro w0 hw0
 refine WC.cut2 (X := Bool) (fun _ => [(1, .ptr ⟨false, p1, 0⟩), (3, .ptr ⟨false, ap, 0⟩)]) (rg ap p1 d H) (fun w => w = true ↔ (longD d ∨ badL d.n)) ?_ ?_
 ·refine WC.seq (WC.reg ?_)
  repeat' (first
   | apply WOps.nil | apply WC.block | (apply WOps.ldG; rfl; rfl; (first | exact ld0 rfl | exact ld1 rfl | exact ld2 rfl); rfl) | (apply WOps.lenS; rfl; rfl; exact SlIs.cons (SlIs.cons hd.n.sl)) | (apply WOps.purG; rfl; (intro _; rfl)))
  rw [List.length_map]
  refine WC.loop ?_
  obtain ⟨i, hi⟩ : ∃ i : Nat, i = 0 := ⟨0, rfl⟩
  obtain ⟨w2, hw2⟩ : ∃ c : Bool, c = w0 := ⟨_, rfl⟩
  refine WL.le (t' := [(1, .ptr ⟨false, p1, 0⟩), (3, .ptr ⟨false, ap, 0⟩), (52, d.vn), (53, .int .i64 (.ofNat d.n.length)), (54, .int .i64 (.ofNat i))]) (by subst hi; exact (Sub1.cons rfl (Sub1.cons rfl (Sub1.cons rfl (Sub1.cons rfl (Sub1.cons rfl (Sub1.nil))))))) ?_
  refine WL.heq (H' := rg ap p1 d H w2) (by subst hw2; rfl) ?_
  have hwi : w2 = true ↔ (longD d ∨ badL (d.n.take i)) := by subst hi hw2; rw [hw0]; simp [badL]
  have hle : i ≤ d.n.length := by omega
  have hlen := hd.n.len
  clear hi hw2 hw0
  induction hk : d.n.length - i using Nat.strongRecOn generalizing i w2 with | _ k ih => ?_
  apply WL.step
  repeat' (first
   | apply WOps.nil | apply WC.seq | apply WC.reg | apply WC.skip | apply WC.exit | apply WC.block | (apply WOps.cmp; rfl; rfl; rfl; rfl; intro _ _) | (apply WC.condA; rfl; all_goals (intro hb; try subst hb)))
  ·have hlt : i < d.n.length := by
    have h0 := ‹true = true ↔ cmpP BinOp.lss (Int.ofNat i) (Int.ofNat d.n.length)›.1 rfl
    simp [cmpP] at h0; omega
   have hc : (d.n.map rowC)[i]? = some (rowC d.n[i]) := by rw [List.getElem?_map, List.getElem?_eq_getElem hlt]; rfl
   obtain ⟨o1, o2, o3⟩ := hd.n.ok d.n[i] (List.getElem_mem hlt)
   obtain ⟨w1, _⟩ := shN_len o1
   have ca := shN_cell o1 o3
   have nx : ∀ (w' : Bool), (w' = true ↔ w2 = true ∨ ¬ rightRow d.n[i]) → WL B tab c8.nt none _ [(1, .ptr ⟨false, p1, 0⟩), (3, .ptr ⟨false, ap, 0⟩), (52, d.vn), (53, .int .i64 (.ofNat d.n.length)), (54, .int .i64 (.ofNat (i + 1)))] (rg ap p1 d H w') _ := fun w' h => ih _ (by omega) (i + 1) w' (by rw [h, hwi, List.take_succ_eq_append_getElem hlt, badL_snoc, or_assoc]) (by omega) rfl
   clear hwi ih
   generalize d.n[i] = r at *
   repeat' (first
    | (apply WOps.alc; rfl; intro _) | (apply WOps.ixSl; rfl; rfl; rfl; exact SlIs.cons (SlIs.cons hd.n.sl); exact hc; intro ax hax) | (apply WOps.ldG; rfl; rfl; exact hax; rfl))
   rename_i p7
   refine WOps.st (v := .agg (rowC r)) (cs' := rowC r) rfl rfl Tk.head w1 ca (put_all w1) ?_
   obtain ⟨a, b, c, d1, rfl⟩ := o1
   rw [rightN] at nx
   unfold rg at nx ⊢
   repeat' (first
    | apply WOps.nil | apply WC.seq | apply WC.reg | (apply WOps.ldG; rfl; rfl; (first | exact ld0 rfl | exact ld1 rfl | exact ld2 rfl); rfl) | (apply WOps.bsl; rfl; (· repeat' (first | rfl | assumption | apply ac1)); intro _) | (apply WOps.clA; rfl; rfl; exact within31_ok (by first | exact Tk.head | exact Tk.tail Tk.head | exact Tk.tail (Tk.tail Tk.head)); rintro _ _ ⟨x, rfl, hx⟩) | (apply WOps.clA; rfl; rfl; exact texts_1 (by first | exact Tk.tail Tk.head | exact Tk.tail (Tk.tail Tk.head)); rintro _ _ ⟨x, rfl, hx⟩) | (apply WOps.addN; rfl; rfl; rfl; omega) | (apply WOps.purG; rfl; (intro _; rfl)))
   refine WL.le (Sub1.cons rfl (Sub1.cons rfl (Sub1.cons rfl (Sub1.cons rfl (Sub1.cons rfl (Sub1.nil)))))) (WL.lessP (H1 := (ap, .row [.bool x]) :: (p1, .row (dumpC d)) :: H) (subF (by intro f; simp only [AV.cells, pm] <;> omega)) (nx x ?_))
   clear nx
   simp only [Int.ofNat_eq_natCast] at *
   grind
  ·have hge : i = d.n.length := by
    have h0 := eq_of_ff ‹false = true ↔ cmpP BinOp.lss (Int.ofNat i) (Int.ofNat d.n.length)›
    simp [cmpP] at h0; omega
   rw [hge, List.take_length] at hwi
   exact ⟨w2, Sub1.cons rfl (Sub1.cons rfl Sub1.nil), SubP.refl, hwi⟩
 intro w0 hw0
 refine WC.cut2 (X := Bool) (fun _ => [(1, .ptr ⟨false, p1, 0⟩), (3, .ptr ⟨false, ap, 0⟩)]) (rg ap p1 d H) (fun w => w = true ↔ ((longD d ∨ badL d.n) ∨ badL d.s)) ?_ ?_
 ·refine WC.seq (WC.reg ?_)
  repeat' (first
   | apply WOps.nil | apply WC.block | (apply WOps.ldG; rfl; rfl; (first | exact ld0 rfl | exact ld1 rfl | exact ld2 rfl); rfl) | (apply WOps.lenS; rfl; rfl; exact SlIs.cons (SlIs.cons hd.s.sl)) | (apply WOps.purG; rfl; (intro _; rfl)))
  rw [List.length_map]
  refine WC.loop ?_
  obtain ⟨i, hi⟩ : ∃ i : Nat, i = 0 := ⟨0, rfl⟩
  obtain ⟨w2, hw2⟩ : ∃ c : Bool, c = w0 := ⟨_, rfl⟩
  refine WL.le (t' := [(1, .ptr ⟨false, p1, 0⟩), (3, .ptr ⟨false, ap, 0⟩), (69, d.vs), (70, .int .i64 (.ofNat d.s.length)), (71, .int .i64 (.ofNat i))]) (by subst hi; exact (Sub1.cons rfl (Sub1.cons rfl (Sub1.cons rfl (Sub1.cons rfl (Sub1.cons rfl (Sub1.nil))))))) ?_
  refine WL.heq (H' := rg ap p1 d H w2) (by subst hw2; rfl) ?_
  have hwi : w2 = true ↔ ((longD d ∨ badL d.n) ∨ badL (d.s.take i)) := by subst hi hw2; rw [hw0]; simp [badL]
  have hle : i ≤ d.s.length := by omega
  have hlen := hd.s.len
  clear hi hw2 hw0
  induction hk : d.s.length - i using Nat.strongRecOn generalizing i w2 with | _ k ih => ?_
  apply WL.step
  repeat' (first
   | apply WOps.nil | apply WC.seq | apply WC.reg | apply WC.skip | apply WC.exit | apply WC.block | (apply WOps.cmp; rfl; rfl; rfl; rfl; intro _ _) | (apply WC.condA; rfl; all_goals (intro hb; try subst hb)))
  ·have hlt : i < d.s.length := by
    have h0 := ‹true = true ↔ cmpP BinOp.lss (Int.ofNat i) (Int.ofNat d.s.length)›.1 rfl
    simp [cmpP] at h0; omega
   have hc : (d.s.map rowC)[i]? = some (rowC d.s[i]) := by rw [List.getElem?_map, List.getElem?_eq_getElem hlt]; rfl
   obtain ⟨o1, o2, o3⟩ := hd.s.ok d.s[i] (List.getElem_mem hlt)
   obtain ⟨w1, _⟩ := shS_len o1
   have ca := shS_cell o1 o3
   have nx : ∀ (w' : Bool), (w' = true ↔ w2 = true ∨ ¬ rightRow d.s[i]) → WL B tab c8.nt none _ [(1, .ptr ⟨false, p1, 0⟩), (3, .ptr ⟨false, ap, 0⟩), (69, d.vs), (70, .int .i64 (.ofNat d.s.length)), (71, .int .i64 (.ofNat (i + 1)))] (rg ap p1 d H w') _ := fun w' h => ih _ (by omega) (i + 1) w' (by rw [h, hwi, List.take_succ_eq_append_getElem hlt, badL_snoc, or_assoc]) (by omega) rfl
   clear hwi ih
   generalize d.s[i] = r at *
   repeat' (first
    | (apply WOps.alc; rfl; intro _) | (apply WOps.ixSl; rfl; rfl; rfl; exact SlIs.cons (SlIs.cons hd.s.sl); exact hc; intro ax hax) | (apply WOps.ldG; rfl; rfl; exact hax; rfl))
   rename_i p7
   refine WOps.st (v := .agg (rowC r)) (cs' := rowC r) rfl rfl Tk.head w1 ca (put_all w1) ?_
   obtain ⟨a, b, c, vd, d1, e, f, g, rfl⟩ := o1
   have tgs : SlIs B H vd 1 (d1.map strC) := o3 (.txs vd d1) (.tail _ (.tail _ (.tail _ (List.Mem.head _))))
   have ct := tgs.cell
   have hd1 : d1.length ≤ 9223372036854775807 := o2 (.txs vd d1) (.tail _ (.tail _ (.tail _ (List.Mem.head _))))
   rw [rightS] at nx
   unfold rg at nx ⊢
   repeat' (first
    | apply WOps.nil | apply WC.seq | apply WC.reg | (apply WOps.ldG; rfl; rfl; (first | exact ld0 rfl | exact ld1 rfl | exact ld2 rfl); rfl) | (apply WOps.bsl; rfl; (· repeat' (first | rfl | assumption | apply ac1)); intro _) | (apply WOps.lenS; rfl; rfl; (repeat' (first | exact tgs | apply SlIs.cons))) | (apply WOps.clA; rfl; rfl; exact within31_ok (by first | exact Tk.head | exact Tk.tail Tk.head | exact Tk.tail (Tk.tail Tk.head)); rintro _ _ ⟨x, rfl, hx⟩) | (apply WOps.clA; rfl; rfl; exact texts_2 (by first | exact Tk.tail Tk.head | exact Tk.tail (Tk.tail Tk.head)); rintro _ _ ⟨x, rfl, hx⟩) | (apply WOps.clA; rfl; rfl; exact texts32_ok (l := d1) (by first | exact Tk.head | exact Tk.tail Tk.head | exact Tk.tail (Tk.tail Tk.head)) (by repeat' (first | exact tgs | apply SlIs.cons)) hd1; rintro _ _ ⟨x, rfl, hx⟩) | (apply WOps.addN; rfl; rfl; rfl; omega) | (apply WOps.purG; rfl; (intro _; rfl)))
   refine WL.le (Sub1.cons rfl (Sub1.cons rfl (Sub1.cons rfl (Sub1.cons rfl (Sub1.cons rfl (Sub1.nil)))))) (WL.lessP (H1 := (ap, .row [.bool x]) :: (p1, .row (dumpC d)) :: H) (subF (by intro f; simp only [AV.cells, pm] <;> omega)) (nx x ?_))
   clear nx
   simp only [Int.ofNat_eq_natCast] at *
   grind
  ·have hge : i = d.s.length := by
    have h0 := eq_of_ff ‹false = true ↔ cmpP BinOp.lss (Int.ofNat i) (Int.ofNat d.s.length)›
    simp [cmpP] at h0; omega
   rw [hge, List.take_length] at hwi
   exact ⟨w2, Sub1.cons rfl (Sub1.cons rfl Sub1.nil), SubP.refl, hwi⟩
 intro w0 hw0
 refine WC.cut2 (X := Bool) (fun _ => [(1, .ptr ⟨false, p1, 0⟩), (3, .ptr ⟨false, ap, 0⟩)]) (rg ap p1 d H) (fun w => w = true ↔ (((longD d ∨ badL d.n) ∨ badL d.s) ∨ badL d.c)) ?_ ?_
 ·refine WC.seq (WC.reg ?_)
  repeat' (first
   | apply WOps.nil | apply WC.block | (apply WOps.ldG; rfl; rfl; (first | exact ld0 rfl | exact ld1 rfl | exact ld2 rfl); rfl) | (apply WOps.lenS; rfl; rfl; exact SlIs.cons (SlIs.cons hd.c.sl)) | (apply WOps.purG; rfl; (intro _; rfl)))
  rw [List.length_map]
  refine WC.loop ?_
  obtain ⟨i, hi⟩ : ∃ i : Nat, i = 0 := ⟨0, rfl⟩
  obtain ⟨w2, hw2⟩ : ∃ c : Bool, c = w0 := ⟨_, rfl⟩
  refine WL.le (t' := [(1, .ptr ⟨false, p1, 0⟩), (3, .ptr ⟨false, ap, 0⟩), (101, d.vc), (102, .int .i64 (.ofNat d.c.length)), (103, .int .i64 (.ofNat i))]) (by subst hi; exact (Sub1.cons rfl (Sub1.cons rfl (Sub1.cons rfl (Sub1.cons rfl (Sub1.cons rfl (Sub1.nil))))))) ?_
  refine WL.heq (H' := rg ap p1 d H w2) (by subst hw2; rfl) ?_
  have hwi : w2 = true ↔ (((longD d ∨ badL d.n) ∨ badL d.s) ∨ badL (d.c.take i)) := by subst hi hw2; rw [hw0]; simp [badL]
  have hle : i ≤ d.c.length := by omega
  have hlen := hd.c.len
  clear hi hw2 hw0
  induction hk : d.c.length - i using Nat.strongRecOn generalizing i w2 with | _ k ih => ?_
  apply WL.step
  repeat' (first
   | apply WOps.nil | apply WC.seq | apply WC.reg | apply WC.skip | apply WC.exit | apply WC.block | (apply WOps.cmp; rfl; rfl; rfl; rfl; intro _ _) | (apply WC.condA; rfl; all_goals (intro hb; try subst hb)))
  ·have hlt : i < d.c.length := by
    have h0 := ‹true = true ↔ cmpP BinOp.lss (Int.ofNat i) (Int.ofNat d.c.length)›.1 rfl
    simp [cmpP] at h0; omega
   have hc : (d.c.map rowC)[i]? = some (rowC d.c[i]) := by rw [List.getElem?_map, List.getElem?_eq_getElem hlt]; rfl
   obtain ⟨o1, o2, o3⟩ := hd.c.ok d.c[i] (List.getElem_mem hlt)
   obtain ⟨w1, _⟩ := shC_len o1
   have ca := shC_cell o1 o3
   have nx : ∀ (w' : Bool), (w' = true ↔ w2 = true ∨ ¬ rightRow d.c[i]) → WL B tab c8.nt none _ [(1, .ptr ⟨false, p1, 0⟩), (3, .ptr ⟨false, ap, 0⟩), (101, d.vc), (102, .int .i64 (.ofNat d.c.length)), (103, .int .i64 (.ofNat (i + 1)))] (rg ap p1 d H w') _ := fun w' h => ih _ (by omega) (i + 1) w' (by rw [h, hwi, List.take_succ_eq_append_getElem hlt, badL_snoc, or_assoc]) (by omega) rfl
   clear hwi ih
   generalize d.c[i] = r at *
   repeat' (first
    | (apply WOps.alc; rfl; intro _) | (apply WOps.ixSl; rfl; rfl; rfl; exact SlIs.cons (SlIs.cons hd.c.sl); exact hc; intro ax hax) | (apply WOps.ldG; rfl; rfl; exact hax; rfl))
   rename_i p7
   refine WOps.st (v := .agg (rowC r)) (cs' := rowC r) rfl rfl Tk.head w1 ca (put_all w1) ?_
   obtain ⟨a, b, c, d1, e, f, g, rfl⟩ := o1
   rw [rightC] at nx
   unfold rg at nx ⊢
   repeat' (first
    | apply WOps.nil | apply WC.seq | apply WC.reg | (apply WOps.ldG; rfl; rfl; (first | exact ld0 rfl | exact ld1 rfl | exact ld2 rfl); rfl) | (apply WOps.bsl; rfl; (· repeat' (first | rfl | assumption | apply ac1)); intro _) | (apply WOps.clA; rfl; rfl; exact within31_ok (by first | exact Tk.head | exact Tk.tail Tk.head | exact Tk.tail (Tk.tail Tk.head)); rintro _ _ ⟨x, rfl, hx⟩) | (apply WOps.clA; rfl; rfl; exact texts_3 (by first | exact Tk.tail Tk.head | exact Tk.tail (Tk.tail Tk.head)); rintro _ _ ⟨x, rfl, hx⟩) | (apply WOps.addN; rfl; rfl; rfl; omega) | (apply WOps.purG; rfl; (intro _; rfl)))
   refine WL.le (Sub1.cons rfl (Sub1.cons rfl (Sub1.cons rfl (Sub1.cons rfl (Sub1.cons rfl (Sub1.nil)))))) (WL.lessP (H1 := (ap, .row [.bool x]) :: (p1, .row (dumpC d)) :: H) (subF (by intro f; simp only [AV.cells, pm] <;> omega)) (nx x ?_))
   clear nx
   simp only [Int.ofNat_eq_natCast] at *
   grind
  ·have hge : i = d.c.length := by
    have h0 := eq_of_ff ‹false = true ↔ cmpP BinOp.lss (Int.ofNat i) (Int.ofNat d.c.length)›
    simp [cmpP] at h0; omega
   rw [hge, List.take_length] at hwi
   exact ⟨w2, Sub1.cons rfl (Sub1.cons rfl Sub1.nil), SubP.refl, hwi⟩
 intro w0 hw0
 refine WC.cut2 (X := Bool) (fun _ => [(1, .ptr ⟨false, p1, 0⟩), (3, .ptr ⟨false, ap, 0⟩)]) (rg ap p1 d H) (fun w => w = true ↔ ((((longD d ∨ badL d.n) ∨ badL d.s) ∨ badL d.c) ∨ badL d.i)) ?_ ?_
 ·refine WC.seq (WC.reg ?_)
  repeat' (first
   | apply WOps.nil | apply WC.block | (apply WOps.ldG; rfl; rfl; (first | exact ld0 rfl | exact ld1 rfl | exact ld2 rfl); rfl) | (apply WOps.lenS; rfl; rfl; exact SlIs.cons (SlIs.cons hd.i.sl)) | (apply WOps.purG; rfl; (intro _; rfl)))
  rw [List.length_map]
  refine WC.loop ?_
  obtain ⟨i, hi⟩ : ∃ i : Nat, i = 0 := ⟨0, rfl⟩
  obtain ⟨w2, hw2⟩ : ∃ c : Bool, c = w0 := ⟨_, rfl⟩
  refine WL.le (t' := [(1, .ptr ⟨false, p1, 0⟩), (3, .ptr ⟨false, ap, 0⟩), (126, d.vi), (127, .int .i64 (.ofNat d.i.length)), (128, .int .i64 (.ofNat i))]) (by subst hi; exact (Sub1.cons rfl (Sub1.cons rfl (Sub1.cons rfl (Sub1.cons rfl (Sub1.cons rfl (Sub1.nil))))))) ?_
  refine WL.heq (H' := rg ap p1 d H w2) (by subst hw2; rfl) ?_
  have hwi : w2 = true ↔ ((((longD d ∨ badL d.n) ∨ badL d.s) ∨ badL d.c) ∨ badL (d.i.take i)) := by subst hi hw2; rw [hw0]; simp [badL]
  have hle : i ≤ d.i.length := by omega
  have hlen := hd.i.len
  clear hi hw2 hw0
  induction hk : d.i.length - i using Nat.strongRecOn generalizing i w2 with | _ k ih => ?_
  apply WL.step
  repeat' (first
   | apply WOps.nil | apply WC.seq | apply WC.reg | apply WC.skip | apply WC.exit | apply WC.block | (apply WOps.cmp; rfl; rfl; rfl; rfl; intro _ _) | (apply WC.condA; rfl; all_goals (intro hb; try subst hb)))
  ·have hlt : i < d.i.length := by
    have h0 := ‹true = true ↔ cmpP BinOp.lss (Int.ofNat i) (Int.ofNat d.i.length)›.1 rfl
    simp [cmpP] at h0; omega
   have hc : (d.i.map rowC)[i]? = some (rowC d.i[i]) := by rw [List.getElem?_map, List.getElem?_eq_getElem hlt]; rfl
   obtain ⟨o1, o2, o3⟩ := hd.i.ok d.i[i] (List.getElem_mem hlt)
   obtain ⟨w1, _⟩ := shI_len o1
   have ca := shI_cell o1 o3
   have nx : ∀ (w' : Bool), (w' = true ↔ w2 = true ∨ ¬ rightRow d.i[i]) → WL B tab c8.nt none _ [(1, .ptr ⟨false, p1, 0⟩), (3, .ptr ⟨false, ap, 0⟩), (126, d.vi), (127, .int .i64 (.ofNat d.i.length)), (128, .int .i64 (.ofNat (i + 1)))] (rg ap p1 d H w') _ := fun w' h => ih _ (by omega) (i + 1) w' (by rw [h, hwi, List.take_succ_eq_append_getElem hlt, badL_snoc, or_assoc]) (by omega) rfl
   clear hwi ih
   generalize d.i[i] = r at *
   repeat' (first
    | (apply WOps.alc; rfl; intro _) | (apply WOps.ixSl; rfl; rfl; rfl; exact SlIs.cons (SlIs.cons hd.i.sl); exact hc; intro ax hax) | (apply WOps.ldG; rfl; rfl; exact hax; rfl))
   rename_i p7
   refine WOps.st (v := .agg (rowC r)) (cs' := rowC r) rfl rfl Tk.head w1 ca (put_all w1) ?_
   obtain ⟨a, b, c, d1, e, rfl⟩ := o1
   rw [rightI] at nx
   unfold rg at nx ⊢
   repeat' (first
    | apply WOps.nil | apply WC.reg | (apply WOps.ldG; rfl; rfl; (first | exact ld0 rfl | exact ld1 rfl | exact ld2 rfl); rfl) | (apply WOps.bsl; rfl; (· repeat' (first | rfl | assumption | apply ac1)); intro _) | (apply WOps.clA; rfl; rfl; exact texts_2 (by first | exact Tk.tail Tk.head | exact Tk.tail (Tk.tail Tk.head)); rintro _ _ ⟨x, rfl, hx⟩) | (apply WOps.addN; rfl; rfl; rfl; omega) | (apply WOps.purG; rfl; (intro _; rfl)))
   refine WL.le (Sub1.cons rfl (Sub1.cons rfl (Sub1.cons rfl (Sub1.cons rfl (Sub1.cons rfl (Sub1.nil)))))) (WL.lessP (H1 := (ap, .row [.bool x]) :: (p1, .row (dumpC d)) :: H) (subF (by intro f; simp only [AV.cells, pm] <;> omega)) (nx x ?_))
   clear nx
   simp only [Int.ofNat_eq_natCast] at *
   grind
  ·have hge : i = d.i.length := by
    have h0 := eq_of_ff ‹false = true ↔ cmpP BinOp.lss (Int.ofNat i) (Int.ofNat d.i.length)›
    simp [cmpP] at h0; omega
   rw [hge, List.take_length] at hwi
   exact ⟨w2, Sub1.cons rfl (Sub1.cons rfl Sub1.nil), SubP.refl, hwi⟩
 intro w0 hw0
 refine WC.cut2 (X := Bool) (fun _ => [(1, .ptr ⟨false, p1, 0⟩), (3, .ptr ⟨false, ap, 0⟩)]) (rg ap p1 d H) (fun w => w = true ↔ (((((longD d ∨ badL d.n) ∨ badL d.s) ∨ badL d.c) ∨ badL d.i) ∨ badL d.e)) ?_ ?_
 ·refine WC.seq (WC.reg ?_)
  repeat' (first
   | apply WOps.nil | apply WC.block | (apply WOps.ldG; rfl; rfl; (first | exact ld0 rfl | exact ld1 rfl | exact ld2 rfl); rfl) | (apply WOps.lenS; rfl; rfl; exact SlIs.cons (SlIs.cons hd.e.sl)) | (apply WOps.purG; rfl; (intro _; rfl)))
  rw [List.length_map]
  refine WC.loop ?_
  obtain ⟨i, hi⟩ : ∃ i : Nat, i = 0 := ⟨0, rfl⟩
  obtain ⟨w2, hw2⟩ : ∃ c : Bool, c = w0 := ⟨_, rfl⟩
  refine WL.le (t' := [(1, .ptr ⟨false, p1, 0⟩), (3, .ptr ⟨false, ap, 0⟩), (141, d.ve), (142, .int .i64 (.ofNat d.e.length)), (143, .int .i64 (.ofNat i))]) (by subst hi; exact (Sub1.cons rfl (Sub1.cons rfl (Sub1.cons rfl (Sub1.cons rfl (Sub1.cons rfl (Sub1.nil))))))) ?_
  refine WL.heq (H' := rg ap p1 d H w2) (by subst hw2; rfl) ?_
  have hwi : w2 = true ↔ (((((longD d ∨ badL d.n) ∨ badL d.s) ∨ badL d.c) ∨ badL d.i) ∨ badL (d.e.take i)) := by subst hi hw2; rw [hw0]; simp [badL]
  have hle : i ≤ d.e.length := by omega
  have hlen := hd.e.len
  clear hi hw2 hw0
  induction hk : d.e.length - i using Nat.strongRecOn generalizing i w2 with | _ k ih => ?_
  apply WL.step
  repeat' (first
   | apply WOps.nil | apply WC.seq | apply WC.reg | apply WC.skip | apply WC.exit | apply WC.block | (apply WOps.cmp; rfl; rfl; rfl; rfl; intro _ _) | (apply WC.condA; rfl; all_goals (intro hb; try subst hb)))
  ·have hlt : i < d.e.length := by
    have h0 := ‹true = true ↔ cmpP BinOp.lss (Int.ofNat i) (Int.ofNat d.e.length)›.1 rfl
    simp [cmpP] at h0; omega
   have hc : (d.e.map rowC)[i]? = some (rowC d.e[i]) := by rw [List.getElem?_map, List.getElem?_eq_getElem hlt]; rfl
   obtain ⟨o1, o2, o3⟩ := hd.e.ok d.e[i] (List.getElem_mem hlt)
   obtain ⟨w1, _⟩ := shE_len o1
   have ca := shE_cell o1 o3
   have nx : ∀ (w' : Bool), (w' = true ↔ w2 = true ∨ ¬ rightRow d.e[i]) → WL B tab c8.nt none _ [(1, .ptr ⟨false, p1, 0⟩), (3, .ptr ⟨false, ap, 0⟩), (141, d.ve), (142, .int .i64 (.ofNat d.e.length)), (143, .int .i64 (.ofNat (i + 1)))] (rg ap p1 d H w') _ := fun w' h => ih _ (by omega) (i + 1) w' (by rw [h, hwi, List.take_succ_eq_append_getElem hlt, badL_snoc, or_assoc]) (by omega) rfl
   clear hwi ih
   generalize d.e[i] = r at *
   repeat' (first
    | (apply WOps.alc; rfl; intro _) | (apply WOps.ixSl; rfl; rfl; rfl; exact SlIs.cons (SlIs.cons hd.e.sl); exact hc; intro ax hax) | (apply WOps.ldG; rfl; rfl; exact hax; rfl))
   rename_i p7
   refine WOps.st (v := .agg (rowC r)) (cs' := rowC r) rfl rfl Tk.head w1 ca (put_all w1) ?_
   obtain ⟨a, b, c, d1, e, f, rfl⟩ := o1
   rw [rightE] at nx
   unfold rg at nx ⊢
   repeat' (first
    | apply WOps.nil | apply WC.reg | (apply WOps.ldG; rfl; rfl; (first | exact ld0 rfl | exact ld1 rfl | exact ld2 rfl); rfl) | (apply WOps.bsl; rfl; (· repeat' (first | rfl | assumption | apply ac1)); intro _) | (apply WOps.clA; rfl; rfl; exact texts_2 (by first | exact Tk.tail Tk.head | exact Tk.tail (Tk.tail Tk.head)); rintro _ _ ⟨x, rfl, hx⟩) | (apply WOps.addN; rfl; rfl; rfl; omega) | (apply WOps.purG; rfl; (intro _; rfl)))
   refine WL.le (Sub1.cons rfl (Sub1.cons rfl (Sub1.cons rfl (Sub1.cons rfl (Sub1.cons rfl (Sub1.nil)))))) (WL.lessP (H1 := (ap, .row [.bool x]) :: (p1, .row (dumpC d)) :: H) (subF (by intro f; simp only [AV.cells, pm] <;> omega)) (nx x ?_))
   clear nx
   simp only [Int.ofNat_eq_natCast] at *
   grind
  ·have hge : i = d.e.length := by
    have h0 := eq_of_ff ‹false = true ↔ cmpP BinOp.lss (Int.ofNat i) (Int.ofNat d.e.length)›
    simp [cmpP] at h0; omega
   rw [hge, List.take_length] at hwi
   exact ⟨w2, Sub1.cons rfl (Sub1.cons rfl Sub1.nil), SubP.refl, hwi⟩
 intro w0 hw0
 refine WC.cut2 (X := Bool) (fun _ => [(1, .ptr ⟨false, p1, 0⟩), (3, .ptr ⟨false, ap, 0⟩)]) (rg ap p1 d H) (fun w => w = true ↔ ((((((longD d ∨ badL d.n) ∨ badL d.s) ∨ badL d.c) ∨ badL d.i) ∨ badL d.e) ∨ badL d.l)) ?_ ?_
 ·refine WC.seq (WC.reg ?_)
  repeat' (first
   | apply WOps.nil | apply WC.block | (apply WOps.ldG; rfl; rfl; (first | exact ld0 rfl | exact ld1 rfl | exact ld2 rfl); rfl) | (apply WOps.lenS; rfl; rfl; exact SlIs.cons (SlIs.cons hd.l.sl)) | (apply WOps.purG; rfl; (intro _; rfl)))
  rw [List.length_map]
  refine WC.loop ?_
  obtain ⟨i, hi⟩ : ∃ i : Nat, i = 0 := ⟨0, rfl⟩
  obtain ⟨w2, hw2⟩ : ∃ c : Bool, c = w0 := ⟨_, rfl⟩
  refine WL.le (t' := [(1, .ptr ⟨false, p1, 0⟩), (3, .ptr ⟨false, ap, 0⟩), (156, d.vl), (157, .int .i64 (.ofNat d.l.length)), (158, .int .i64 (.ofNat i))]) (by subst hi; exact (Sub1.cons rfl (Sub1.cons rfl (Sub1.cons rfl (Sub1.cons rfl (Sub1.cons rfl (Sub1.nil))))))) ?_
  refine WL.heq (H' := rg ap p1 d H w2) (by subst hw2; rfl) ?_
  have hwi : w2 = true ↔ ((((((longD d ∨ badL d.n) ∨ badL d.s) ∨ badL d.c) ∨ badL d.i) ∨ badL d.e) ∨ badL (d.l.take i)) := by subst hi hw2; rw [hw0]; simp [badL]
  have hle : i ≤ d.l.length := by omega
  have hlen := hd.l.len
  clear hi hw2 hw0
  induction hk : d.l.length - i using Nat.strongRecOn generalizing i w2 with | _ k ih => ?_
  apply WL.step
  repeat' (first
   | apply WOps.nil | apply WC.seq | apply WC.reg | apply WC.skip | apply WC.exit | apply WC.block | (apply WOps.cmp; rfl; rfl; rfl; rfl; intro _ _) | (apply WC.condA; rfl; all_goals (intro hb; try subst hb)))
  ·have hlt : i < d.l.length := by
    have h0 := ‹true = true ↔ cmpP BinOp.lss (Int.ofNat i) (Int.ofNat d.l.length)›.1 rfl
    simp [cmpP] at h0; omega
   have hc : (d.l.map rowC)[i]? = some (rowC d.l[i]) := by rw [List.getElem?_map, List.getElem?_eq_getElem hlt]; rfl
   obtain ⟨o1, o2, o3⟩ := hd.l.ok d.l[i] (List.getElem_mem hlt)
   obtain ⟨w1, _⟩ := shL_len o1
   have ca := shL_cell o1 o3
   have nx : ∀ (w' : Bool), (w' = true ↔ w2 = true ∨ ¬ rightRow d.l[i]) → WL B tab c8.nt none _ [(1, .ptr ⟨false, p1, 0⟩), (3, .ptr ⟨false, ap, 0⟩), (156, d.vl), (157, .int .i64 (.ofNat d.l.length)), (158, .int .i64 (.ofNat (i + 1)))] (rg ap p1 d H w') _ := fun w' h => ih _ (by omega) (i + 1) w' (by rw [h, hwi, List.take_succ_eq_append_getElem hlt, badL_snoc, or_assoc]) (by omega) rfl
   clear hwi ih
   generalize d.l[i] = r at *
   repeat' (first
    | (apply WOps.alc; rfl; intro _) | (apply WOps.ixSl; rfl; rfl; rfl; exact SlIs.cons (SlIs.cons hd.l.sl); exact hc; intro ax hax) | (apply WOps.ldG; rfl; rfl; exact hax; rfl))
   rename_i p7
   refine WOps.st (v := .agg (rowC r)) (cs' := rowC r) rfl rfl Tk.head w1 ca (put_all w1) ?_
   obtain ⟨a, b, c, d1, rfl⟩ := o1
   rw [rightL] at nx
   unfold rg at nx ⊢
   repeat' (first
    | apply WOps.nil | apply WC.reg | (apply WOps.ldG; rfl; rfl; (first | exact ld0 rfl | exact ld1 rfl | exact ld2 rfl); rfl) | (apply WOps.clA; rfl; rfl; exact within31_ok (by first | exact Tk.head | exact Tk.tail Tk.head | exact Tk.tail (Tk.tail Tk.head)); rintro _ _ ⟨x, rfl, hx⟩) | (apply WOps.addN; rfl; rfl; rfl; omega) | (apply WOps.purG; rfl; (intro _; rfl)))
   refine WL.le (Sub1.cons rfl (Sub1.cons rfl (Sub1.cons rfl (Sub1.cons rfl (Sub1.cons rfl (Sub1.nil)))))) (WL.lessP (H1 := (ap, .row [.bool x]) :: (p1, .row (dumpC d)) :: H) (subF (by intro f; simp only [AV.cells, pm] <;> omega)) (nx x ?_))
   clear nx
   simp only [Int.ofNat_eq_natCast] at *
   grind
  ·have hge : i = d.l.length := by
    have h0 := eq_of_ff ‹false = true ↔ cmpP BinOp.lss (Int.ofNat i) (Int.ofNat d.l.length)›
    simp [cmpP] at h0; omega
   rw [hge, List.take_length] at hwi
   exact ⟨w2, Sub1.cons rfl (Sub1.cons rfl Sub1.nil), SubP.refl, hwi⟩
 intro w0 hw0
 refine WC.cut2 (X := Bool) (fun _ => [(1, .ptr ⟨false, p1, 0⟩), (3, .ptr ⟨false, ap, 0⟩)]) (rg ap p1 d H) (fun w => w = true ↔ (((((((longD d ∨ badL d.n) ∨ badL d.s) ∨ badL d.c) ∨ badL d.i) ∨ badL d.e) ∨ badL d.l) ∨ badL d.q)) ?_ ?_
 ·refine WC.seq (WC.reg ?_)
  repeat' (first
   | apply WOps.nil | apply WC.block | (apply WOps.ldG; rfl; rfl; (first | exact ld0 rfl | exact ld1 rfl | exact ld2 rfl); rfl) | (apply WOps.lenS; rfl; rfl; exact SlIs.cons (SlIs.cons hd.q.sl)) | (apply WOps.purG; rfl; (intro _; rfl)))
  rw [List.length_map]
  refine WC.loop ?_
  obtain ⟨i, hi⟩ : ∃ i : Nat, i = 0 := ⟨0, rfl⟩
  obtain ⟨w2, hw2⟩ : ∃ c : Bool, c = w0 := ⟨_, rfl⟩
  refine WL.le (t' := [(1, .ptr ⟨false, p1, 0⟩), (3, .ptr ⟨false, ap, 0⟩), (168, d.vq), (169, .int .i64 (.ofNat d.q.length)), (170, .int .i64 (.ofNat i))]) (by subst hi; exact (Sub1.cons rfl (Sub1.cons rfl (Sub1.cons rfl (Sub1.cons rfl (Sub1.cons rfl (Sub1.nil))))))) ?_
  refine WL.heq (H' := rg ap p1 d H w2) (by subst hw2; rfl) ?_
  have hwi : w2 = true ↔ (((((((longD d ∨ badL d.n) ∨ badL d.s) ∨ badL d.c) ∨ badL d.i) ∨ badL d.e) ∨ badL d.l) ∨ badL (d.q.take i)) := by subst hi hw2; rw [hw0]; simp [badL]
  have hle : i ≤ d.q.length := by omega
  have hlen := hd.q.len
  clear hi hw2 hw0
  induction hk : d.q.length - i using Nat.strongRecOn generalizing i w2 with | _ k ih => ?_
  apply WL.step
  repeat' (first
   | apply WOps.nil | apply WC.seq | apply WC.reg | apply WC.skip | apply WC.exit | apply WC.block | (apply WOps.cmp; rfl; rfl; rfl; rfl; intro _ _) | (apply WC.condA; rfl; all_goals (intro hb; try subst hb)))
  ·have hlt : i < d.q.length := by
    have h0 := ‹true = true ↔ cmpP BinOp.lss (Int.ofNat i) (Int.ofNat d.q.length)›.1 rfl
    simp [cmpP] at h0; omega
   have hc : (d.q.map rowC)[i]? = some (rowC d.q[i]) := by rw [List.getElem?_map, List.getElem?_eq_getElem hlt]; rfl
   obtain ⟨o1, o2, o3⟩ := hd.q.ok d.q[i] (List.getElem_mem hlt)
   obtain ⟨w1, _⟩ := shQ_len o1
   have ca := shQ_cell o1 o3
   have nx : ∀ (w' : Bool), (w' = true ↔ w2 = true ∨ ¬ rightRow d.q[i]) → WL B tab c8.nt none _ [(1, .ptr ⟨false, p1, 0⟩), (3, .ptr ⟨false, ap, 0⟩), (168, d.vq), (169, .int .i64 (.ofNat d.q.length)), (170, .int .i64 (.ofNat (i + 1)))] (rg ap p1 d H w') _ := fun w' h => ih _ (by omega) (i + 1) w' (by rw [h, hwi, List.take_succ_eq_append_getElem hlt, badL_snoc, or_assoc]) (by omega) rfl
   clear hwi ih
   generalize d.q[i] = r at *
   repeat' (first
    | (apply WOps.alc; rfl; intro _) | (apply WOps.ixSl; rfl; rfl; rfl; exact SlIs.cons (SlIs.cons hd.q.sl); exact hc; intro ax hax) | (apply WOps.ldG; rfl; rfl; exact hax; rfl))
   rename_i p7
   refine WOps.st (v := .agg (rowC r)) (cs' := rowC r) rfl rfl Tk.head w1 ca (put_all w1) ?_
   obtain ⟨a, b, c, rfl⟩ := o1
   rw [rightQ] at nx
   unfold rg at nx ⊢
   repeat' (first
    | apply WOps.nil | apply WC.reg | (apply WOps.ldG; rfl; rfl; (first | exact ld0 rfl | exact ld1 rfl | exact ld2 rfl); rfl) | (apply WOps.clA; rfl; rfl; exact within31_ok (by first | exact Tk.head | exact Tk.tail Tk.head | exact Tk.tail (Tk.tail Tk.head)); rintro _ _ ⟨x, rfl, hx⟩) | (apply WOps.addN; rfl; rfl; rfl; omega) | (apply WOps.purG; rfl; (intro _; rfl)))
   refine WL.le (Sub1.cons rfl (Sub1.cons rfl (Sub1.cons rfl (Sub1.cons rfl (Sub1.cons rfl (Sub1.nil)))))) (WL.lessP (H1 := (ap, .row [.bool x]) :: (p1, .row (dumpC d)) :: H) (subF (by intro f; simp only [AV.cells, pm] <;> omega)) (nx x ?_))
   clear nx
   simp only [Int.ofNat_eq_natCast] at *
   grind
  ·have hge : i = d.q.length := by
    have h0 := eq_of_ff ‹false = true ↔ cmpP BinOp.lss (Int.ofNat i) (Int.ofNat d.q.length)›
    simp [cmpP] at h0; omega
   rw [hge, List.take_length] at hwi
   exact ⟨w2, Sub1.cons rfl (Sub1.cons rfl Sub1.nil), SubP.refl, hwi⟩
 intro w0 hw0
 unfold rg
 repeat' (first
  | apply WOps.nil | apply WC.seq | apply WC.reg | apply WC.ret | (apply WOps.ldG; rfl; rfl; (first | exact ld0 rfl | exact ld1 rfl | exact ld2 rfl); rfl) | (apply WOps.purG; rfl; (intro _; rfl)))
 refine ⟨trivial, [_], ⟨_, [], rfl, rfl, rfl⟩, H, ⟨rfl, !w0, rfl, ?_⟩, subF (by intro f; simp only [AV.cells, pm] <;> omega)⟩
 unfold badD
 rw [← hw0]
 cases w0 <;> simp
end Go.Proofs.Ytdcbglljljfleaa.DU
