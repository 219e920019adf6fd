/- What the functions do, shown by the logic. -/
import Derived.Test.YtcecihgcinglaaaGreatSRTab
set_option linter.unusedSimpArgs false
set_option linter.unusedVariables false
set_option maxRecDepth 20000
namespace Go.Proofs.YtcecihgcinglaaaGreat.SR
open Go.Proofs.YtcecihgcinglaaaGreat.Abs
variable {B : Nat → List AV}

theorem within_ok (n lo hi : Int) : WF B tab (.func 20) [.int .i64 n, .int .i64 lo, .int .i64 hi] [] fun v _ => ∃ b : Bool, v = .bool b ∧ (b = true ↔ (lo ≤ n ∧ n ≤ hi)) := by
  refine WF.fn g20 rfl ?_
  repeat' (first
    | apply WOps.nil
    | apply WC.seq
    | apply WC.reg
    | apply WC.skip
    | apply WC.ret
    | apply WC.exit
    | (apply WC.condT; rfl)
    | (apply WC.condF; rfl)
    | apply WC.block
    | apply WC.scope
    | apply WC.dreg
    | apply WD.nil
    | (apply WOps.ldG; rfl; rfl; (first | exact Ld.own Tk.head rfl | exact Ld.own (Tk.tail Tk.head) rfl | exact Ld.own (Tk.tail (Tk.tail Tk.head)) rfl); rfl)
    | (apply WOps.st; rfl; rfl; (first | exact Tk.head | exact (Tk.tail Tk.head) | exact (Tk.tail (Tk.tail Tk.head))); rfl; rfl; rfl)
    | (apply WOps.alc; rfl; intro _)
    | (apply WOps.bx; rfl; rfl; rfl; intro _)
    | (apply WOps.bsl; rfl; rfl; intro _)
    | (apply WOps.cmp; rfl; rfl; rfl; rfl; intro _ _)
    | (apply WOps.cmpT; rfl; rfl; rfl; rfl; intro _ _)
    | (apply WOps.eqB; rfl; rfl; rfl; intro _ _)
    | (apply WOps.purG; rfl; (intro _; rfl))
    | (apply WOps.skp; rfl)
    | (apply WD.load; rfl; (first | (apply at1; (first | exact rd_ld rfl (Ld.own Tk.head rfl) rfl | exact rd_ld rfl (Ld.own (Tk.tail Tk.head) rfl) rfl | exact rd_ld rfl (Ld.own (Tk.tail (Tk.tail Tk.head)) rfl) rfl); rfl) | (apply at2; (first | exact rd_ld rfl (Ld.own Tk.head rfl) rfl | exact rd_ld rfl (Ld.own (Tk.tail Tk.head) rfl) rfl | exact rd_ld rfl (Ld.own (Tk.tail (Tk.tail Tk.head)) rfl) rfl); repeat' (first | exact same0 | (apply same1; (first | exact rd_ld rfl (Ld.own Tk.head rfl) rfl | exact rd_ld rfl (Ld.own (Tk.tail Tk.head) rfl) rfl | exact rd_ld rfl (Ld.own (Tk.tail (Tk.tail Tk.head)) rfl) rfl); rfl) | (apply same2; (first | exact rd_ld rfl (Ld.own Tk.head rfl) rfl | exact rd_ld rfl (Ld.own (Tk.tail Tk.head) rfl) rfl | exact rd_ld rfl (Ld.own (Tk.tail (Tk.tail Tk.head)) rfl) rfl))))))
    | (apply WD.cmp; rfl; rfl; rfl; rfl; intro _ _)
    | (apply WD.cmpT; rfl; rfl; rfl; rfl; intro _ _)
    | (apply WD.eqB; rfl; rfl; rfl; intro _ _)
    | (apply WD.pur; rfl; (intro _; rfl))
    | (apply WD.skp; rfl)
    | (apply WD.skpL; rfl)
    | (apply WD.skpX; rfl)
    | (apply WOps.ask; rfl; intro hb; try subst hb; rotate_left; intro hb; try subst hb; rotate_right)
    | (apply WC.condA; rfl; intro hb; try subst hb; rotate_left; intro hb; try subst hb; rotate_right)
    | (apply WD.ask; rfl; intro hb; try subst hb; rotate_left; intro hb; try subst hb; rotate_right))
  all_goals refine ⟨trivial, [_], ⟨_, [], rfl, rfl, rfl⟩, _, rfl, ?_⟩
  all_goals simp [cmpP] at *
  all_goals first | omega | (simp_all; done) | (simp_all; omega)

theorem may_ok (a b c : Int) : WF B tab (.func 46) [.int .i64 a, .int .i64 b, .int .i64 c] [] fun v _ => ∃ d : Bool, v = .bool d ∧ (d = true ↔ (1 ≤ a ∧ a ≤ b ∧ b ≤ 262144 ∧ 0 ≤ c ∧ c ≤ 8)) := by
  refine WF.fn g46 rfl ?_
  repeat' (first
    | apply WOps.nil
    | apply WC.seq
    | apply WC.reg
    | apply WC.skip
    | apply WC.ret
    | apply WC.exit
    | (apply WC.condT; rfl)
    | (apply WC.condF; rfl)
    | apply WC.block
    | apply WC.scope
    | apply WC.dreg
    | apply WD.nil
    | (apply WOps.ldG; rfl; rfl; (first | exact Ld.own Tk.head rfl | exact Ld.own (Tk.tail Tk.head) rfl | exact Ld.own (Tk.tail (Tk.tail Tk.head)) rfl); rfl)
    | (apply WOps.st; rfl; rfl; (first | exact Tk.head | exact (Tk.tail Tk.head) | exact (Tk.tail (Tk.tail Tk.head))); rfl; rfl; rfl)
    | (apply WOps.alc; rfl; intro _)
    | (apply WOps.bx; rfl; rfl; rfl; intro _)
    | (apply WOps.bsl; rfl; rfl; intro _)
    | (apply WOps.cmp; rfl; rfl; rfl; rfl; intro _ _)
    | (apply WOps.cmpT; rfl; rfl; rfl; rfl; intro _ _)
    | (apply WOps.eqB; rfl; rfl; rfl; intro _ _)
    | (apply WOps.purG; rfl; (intro _; rfl))
    | (apply WOps.skp; rfl)
    | (apply WD.load; rfl; (first | (apply at1; (first | exact rd_ld rfl (Ld.own Tk.head rfl) rfl | exact rd_ld rfl (Ld.own (Tk.tail Tk.head) rfl) rfl | exact rd_ld rfl (Ld.own (Tk.tail (Tk.tail Tk.head)) rfl) rfl); rfl) | (apply at2; (first | exact rd_ld rfl (Ld.own Tk.head rfl) rfl | exact rd_ld rfl (Ld.own (Tk.tail Tk.head) rfl) rfl | exact rd_ld rfl (Ld.own (Tk.tail (Tk.tail Tk.head)) rfl) rfl); repeat' (first | exact same0 | (apply same1; (first | exact rd_ld rfl (Ld.own Tk.head rfl) rfl | exact rd_ld rfl (Ld.own (Tk.tail Tk.head) rfl) rfl | exact rd_ld rfl (Ld.own (Tk.tail (Tk.tail Tk.head)) rfl) rfl); rfl) | (apply same2; (first | exact rd_ld rfl (Ld.own Tk.head rfl) rfl | exact rd_ld rfl (Ld.own (Tk.tail Tk.head) rfl) rfl | exact rd_ld rfl (Ld.own (Tk.tail (Tk.tail Tk.head)) rfl) rfl))))))
    | (apply WD.cmp; rfl; rfl; rfl; rfl; intro _ _)
    | (apply WD.cmpT; rfl; rfl; rfl; rfl; intro _ _)
    | (apply WD.eqB; rfl; rfl; rfl; intro _ _)
    | (apply WD.pur; rfl; (intro _; rfl))
    | (apply WD.skp; rfl)
    | (apply WD.skpL; rfl)
    | (apply WD.skpX; rfl)
    | (apply WOps.ask; rfl; intro hb; try subst hb; rotate_left; intro hb; try subst hb; rotate_right)
    | (apply WC.condA; rfl; intro hb; try subst hb; rotate_left; intro hb; try subst hb; rotate_right)
    | (apply WD.ask; rfl; intro hb; try subst hb; rotate_left; intro hb; try subst hb; rotate_right))
  all_goals refine ⟨trivial, [_], ⟨_, [], rfl, rfl, rfl⟩, _, rfl, ?_⟩
  all_goals simp [cmpP] at *
  all_goals first | omega | (simp_all; done) | (simp_all; omega)

theorem scale_ok (n : Nat) (h : n ≤ 9) : WF B tab (.func 47) [.int .i64 (.ofNat n)] [] fun v _ => ∃ m, v = .int .i64 m ∧ 0 ≤ m ∧ (n = 1 → m = 0) ∧ (2 ≤ n → 1 ≤ m) := by
  have key : ∃ m, [AV.int .i64 0, .int .i64 0, .int .i64 1000, .int .i64 1585, .int .i64 2000, .int .i64 2322, .int .i64 2585, .int .i64 2807, .int .i64 3000, .int .i64 3170][n]? = some (.int .i64 m) ∧ 0 ≤ m ∧ (n = 1 → m = 0) ∧ (2 ≤ n → 1 ≤ m) := by
    match n, h with
    | 0, _ | 1, _ | 2, _ | 3, _ | 4, _ | 5, _ | 6, _ | 7, _ | 8, _ | 9, _ => exact ⟨_, rfl, by decide, by decide, by decide⟩
  obtain ⟨m, hm, h1, h2, h3⟩ := key
  refine WF.fn g47 rfl ?_
  repeat' (first
    | apply WOps.nil
    | apply WC.seq
    | apply WC.reg
    | apply WC.skip
    | apply WC.ret
    | apply WC.exit
    | (apply WC.condT; rfl)
    | (apply WC.condF; rfl)
    | apply WC.block
    | apply WC.scope
    | apply WC.dreg
    | apply WD.nil
    | (apply WOps.ldG; rfl; rfl; (first | exact Ld.own Tk.head rfl | exact Ld.own (Tk.tail Tk.head) rfl | exact Ld.own (Tk.tail (Tk.tail Tk.head)) rfl); rfl)
    | (apply WOps.st; rfl; rfl; (first | exact Tk.head | exact (Tk.tail Tk.head) | exact (Tk.tail (Tk.tail Tk.head))); rfl; rfl; rfl)
    | (apply WOps.alc; rfl; intro _)
    | (apply WOps.bx; rfl; rfl; rfl; intro _)
    | (apply WOps.bsl; rfl; rfl; intro _)
    | (apply WOps.cmp; rfl; rfl; rfl; rfl; intro _ _)
    | (apply WOps.cmpT; rfl; rfl; rfl; rfl; intro _ _)
    | (apply WOps.eqB; rfl; rfl; rfl; intro _ _)
    | (apply WOps.purG; rfl; (intro _; rfl))
    | (apply WOps.skp; rfl)
    | (apply WD.load; rfl; (first | (apply at1; (first | exact rd_ld rfl (Ld.own Tk.head rfl) rfl | exact rd_ld rfl (Ld.own (Tk.tail Tk.head) rfl) rfl | exact rd_ld rfl (Ld.own (Tk.tail (Tk.tail Tk.head)) rfl) rfl); rfl) | (apply at2; (first | exact rd_ld rfl (Ld.own Tk.head rfl) rfl | exact rd_ld rfl (Ld.own (Tk.tail Tk.head) rfl) rfl | exact rd_ld rfl (Ld.own (Tk.tail (Tk.tail Tk.head)) rfl) rfl); repeat' (first | exact same0 | (apply same1; (first | exact rd_ld rfl (Ld.own Tk.head rfl) rfl | exact rd_ld rfl (Ld.own (Tk.tail Tk.head) rfl) rfl | exact rd_ld rfl (Ld.own (Tk.tail (Tk.tail Tk.head)) rfl) rfl); rfl) | (apply same2; (first | exact rd_ld rfl (Ld.own Tk.head rfl) rfl | exact rd_ld rfl (Ld.own (Tk.tail Tk.head) rfl) rfl | exact rd_ld rfl (Ld.own (Tk.tail (Tk.tail Tk.head)) rfl) rfl))))))
    | (apply WD.cmp; rfl; rfl; rfl; rfl; intro _ _)
    | (apply WD.cmpT; rfl; rfl; rfl; rfl; intro _ _)
    | (apply WD.eqB; rfl; rfl; rfl; intro _ _)
    | (apply WD.pur; rfl; (intro _; rfl))
    | (apply WD.skp; rfl)
    | (apply WD.skpL; rfl)
    | (apply WD.skpX; rfl)
    | (apply WOps.ask; rfl; intro hb; try subst hb; rotate_left; intro hb; try subst hb; rotate_right)
    | (apply WC.condA; rfl; intro hb; try subst hb; rotate_left; intro hb; try subst hb; rotate_right)
    | (apply WD.ask; rfl; intro hb; try subst hb; rotate_left; intro hb; try subst hb; rotate_right))
  refine WOps.ixV rfl rfl (by omega) (v := .int .i64 m) (by simpa [partOf] using hm) ?_
  repeat' (first
    | apply WOps.nil
    | apply WC.seq
    | apply WC.reg
    | apply WC.skip
    | apply WC.ret
    | apply WC.exit
    | (apply WC.condT; rfl)
    | (apply WC.condF; rfl)
    | apply WC.block
    | apply WC.scope
    | apply WC.dreg
    | apply WD.nil
    | (apply WOps.ldG; rfl; rfl; (first | exact Ld.own Tk.head rfl | exact Ld.own (Tk.tail Tk.head) rfl | exact Ld.own (Tk.tail (Tk.tail Tk.head)) rfl); rfl)
    | (apply WOps.st; rfl; rfl; (first | exact Tk.head | exact (Tk.tail Tk.head) | exact (Tk.tail (Tk.tail Tk.head))); rfl; rfl; rfl)
    | (apply WOps.alc; rfl; intro _)
    | (apply WOps.bx; rfl; rfl; rfl; intro _)
    | (apply WOps.bsl; rfl; rfl; intro _)
    | (apply WOps.cmp; rfl; rfl; rfl; rfl; intro _ _)
    | (apply WOps.cmpT; rfl; rfl; rfl; rfl; intro _ _)
    | (apply WOps.eqB; rfl; rfl; rfl; intro _ _)
    | (apply WOps.purG; rfl; (intro _; rfl))
    | (apply WOps.skp; rfl)
    | (apply WD.load; rfl; (first | (apply at1; (first | exact rd_ld rfl (Ld.own Tk.head rfl) rfl | exact rd_ld rfl (Ld.own (Tk.tail Tk.head) rfl) rfl | exact rd_ld rfl (Ld.own (Tk.tail (Tk.tail Tk.head)) rfl) rfl); rfl) | (apply at2; (first | exact rd_ld rfl (Ld.own Tk.head rfl) rfl | exact rd_ld rfl (Ld.own (Tk.tail Tk.head) rfl) rfl | exact rd_ld rfl (Ld.own (Tk.tail (Tk.tail Tk.head)) rfl) rfl); repeat' (first | exact same0 | (apply same1; (first | exact rd_ld rfl (Ld.own Tk.head rfl) rfl | exact rd_ld rfl (Ld.own (Tk.tail Tk.head) rfl) rfl | exact rd_ld rfl (Ld.own (Tk.tail (Tk.tail Tk.head)) rfl) rfl); rfl) | (apply same2; (first | exact rd_ld rfl (Ld.own Tk.head rfl) rfl | exact rd_ld rfl (Ld.own (Tk.tail Tk.head) rfl) rfl | exact rd_ld rfl (Ld.own (Tk.tail (Tk.tail Tk.head)) rfl) rfl))))))
    | (apply WD.cmp; rfl; rfl; rfl; rfl; intro _ _)
    | (apply WD.cmpT; rfl; rfl; rfl; rfl; intro _ _)
    | (apply WD.eqB; rfl; rfl; rfl; intro _ _)
    | (apply WD.pur; rfl; (intro _; rfl))
    | (apply WD.skp; rfl)
    | (apply WD.skpL; rfl)
    | (apply WD.skpX; rfl)
    | (apply WOps.ask; rfl; intro hb; try subst hb; rotate_left; intro hb; try subst hb; rotate_right)
    | (apply WC.condA; rfl; intro hb; try subst hb; rotate_left; intro hb; try subst hb; rotate_right)
    | (apply WD.ask; rfl; intro hb; try subst hb; rotate_left; intro hb; try subst hb; rotate_right))
  exact ⟨trivial, [_], ⟨_, [], rfl, rfl, rfl⟩, m, rfl, h1, h2, h3⟩

theorem in_ok (n lo hi : Int) (h0 : 0 ≤ lo) (h1 : lo ≤ hi) (h2 : hi ≤ 1000000) : WF B tab (.func 23) [.int .i64 n, .int .i64 lo, .int .i64 hi] [] fun v _ => ∃ r, v = .int .i64 r ∧ lo ≤ r ∧ r ≤ hi := by
  have e1 : IntKind.u64.wrap (IntKind.i64.wrap (IntKind.i64.wrap (hi - lo) + Int.ofNat 1)) = hi - lo + 1 := by
    rw [IntKind.wrap_u64, IntKind.wrap_i64, IntKind.wrap_i64, show Int.ofNat 1 = 1 from rfl]
    omega
  have h3 := Int.emod_nonneg (IntKind.u64.wrap n) (b := hi - lo + 1) (by omega)
  have h4 := Int.emod_lt_of_pos (IntKind.u64.wrap n) (b := hi - lo + 1) (by omega)
  have h5 : 0 ≤ IntKind.u64.wrap n := by rw [IntKind.wrap_u64]; omega
  refine WF.fn g23 rfl ?_
  repeat' (first
    | apply WOps.nil
    | apply WC.seq
    | apply WC.reg
    | apply WC.skip
    | apply WC.ret
    | apply WC.exit
    | (apply WC.condT; rfl)
    | (apply WC.condF; rfl)
    | apply WC.block
    | apply WC.scope
    | apply WC.dreg
    | apply WD.nil
    | (apply WOps.ldG; rfl; rfl; (first | exact Ld.own Tk.head rfl | exact Ld.own (Tk.tail Tk.head) rfl | exact Ld.own (Tk.tail (Tk.tail Tk.head)) rfl); rfl)
    | (apply WOps.st; rfl; rfl; (first | exact Tk.head | exact (Tk.tail Tk.head) | exact (Tk.tail (Tk.tail Tk.head))); rfl; rfl; rfl)
    | (apply WOps.alc; rfl; intro _)
    | (apply WOps.bx; rfl; rfl; rfl; intro _)
    | (apply WOps.bsl; rfl; rfl; intro _)
    | (apply WOps.cmp; rfl; rfl; rfl; rfl; intro _ _)
    | (apply WOps.cmpT; rfl; rfl; rfl; rfl; intro _ _)
    | (apply WOps.eqB; rfl; rfl; rfl; intro _ _)
    | (apply WOps.purG; rfl; (intro _; rfl))
    | (apply WOps.skp; rfl)
    | (apply WD.load; rfl; (first | (apply at1; (first | exact rd_ld rfl (Ld.own Tk.head rfl) rfl | exact rd_ld rfl (Ld.own (Tk.tail Tk.head) rfl) rfl | exact rd_ld rfl (Ld.own (Tk.tail (Tk.tail Tk.head)) rfl) rfl); rfl) | (apply at2; (first | exact rd_ld rfl (Ld.own Tk.head rfl) rfl | exact rd_ld rfl (Ld.own (Tk.tail Tk.head) rfl) rfl | exact rd_ld rfl (Ld.own (Tk.tail (Tk.tail Tk.head)) rfl) rfl); repeat' (first | exact same0 | (apply same1; (first | exact rd_ld rfl (Ld.own Tk.head rfl) rfl | exact rd_ld rfl (Ld.own (Tk.tail Tk.head) rfl) rfl | exact rd_ld rfl (Ld.own (Tk.tail (Tk.tail Tk.head)) rfl) rfl); rfl) | (apply same2; (first | exact rd_ld rfl (Ld.own Tk.head rfl) rfl | exact rd_ld rfl (Ld.own (Tk.tail Tk.head) rfl) rfl | exact rd_ld rfl (Ld.own (Tk.tail (Tk.tail Tk.head)) rfl) rfl))))))
    | (apply WD.cmp; rfl; rfl; rfl; rfl; intro _ _)
    | (apply WD.cmpT; rfl; rfl; rfl; rfl; intro _ _)
    | (apply WD.eqB; rfl; rfl; rfl; intro _ _)
    | (apply WD.pur; rfl; (intro _; rfl))
    | (apply WD.skp; rfl)
    | (apply WD.skpL; rfl)
    | (apply WD.skpX; rfl)
    | (apply WOps.ask; rfl; intro hb; try subst hb; rotate_left; intro hb; try subst hb; rotate_right)
    | (apply WC.condA; rfl; intro hb; try subst hb; rotate_left; intro hb; try subst hb; rotate_right)
    | (apply WD.ask; rfl; intro hb; try subst hb; rotate_left; intro hb; try subst hb; rotate_right))
  refine WOps.bn rfl rfl (v := .int .u64 ((IntKind.u64.wrap n) % (hi - lo + 1))) ?_ ?_
  · rw [e1]
    simp only [aBin, if_true]
    rw [if_neg (by omega), Int.tmod_eq_emod_of_nonneg h5]
  repeat' (first
    | apply WOps.nil
    | apply WC.seq
    | apply WC.reg
    | apply WC.skip
    | apply WC.ret
    | apply WC.exit
    | (apply WC.condT; rfl)
    | (apply WC.condF; rfl)
    | apply WC.block
    | apply WC.scope
    | apply WC.dreg
    | apply WD.nil
    | (apply WOps.ldG; rfl; rfl; (first | exact Ld.own Tk.head rfl | exact Ld.own (Tk.tail Tk.head) rfl | exact Ld.own (Tk.tail (Tk.tail Tk.head)) rfl); rfl)
    | (apply WOps.st; rfl; rfl; (first | exact Tk.head | exact (Tk.tail Tk.head) | exact (Tk.tail (Tk.tail Tk.head))); rfl; rfl; rfl)
    | (apply WOps.alc; rfl; intro _)
    | (apply WOps.bx; rfl; rfl; rfl; intro _)
    | (apply WOps.bsl; rfl; rfl; intro _)
    | (apply WOps.cmp; rfl; rfl; rfl; rfl; intro _ _)
    | (apply WOps.cmpT; rfl; rfl; rfl; rfl; intro _ _)
    | (apply WOps.eqB; rfl; rfl; rfl; intro _ _)
    | (apply WOps.purG; rfl; (intro _; rfl))
    | (apply WOps.skp; rfl)
    | (apply WD.load; rfl; (first | (apply at1; (first | exact rd_ld rfl (Ld.own Tk.head rfl) rfl | exact rd_ld rfl (Ld.own (Tk.tail Tk.head) rfl) rfl | exact rd_ld rfl (Ld.own (Tk.tail (Tk.tail Tk.head)) rfl) rfl); rfl) | (apply at2; (first | exact rd_ld rfl (Ld.own Tk.head rfl) rfl | exact rd_ld rfl (Ld.own (Tk.tail Tk.head) rfl) rfl | exact rd_ld rfl (Ld.own (Tk.tail (Tk.tail Tk.head)) rfl) rfl); repeat' (first | exact same0 | (apply same1; (first | exact rd_ld rfl (Ld.own Tk.head rfl) rfl | exact rd_ld rfl (Ld.own (Tk.tail Tk.head) rfl) rfl | exact rd_ld rfl (Ld.own (Tk.tail (Tk.tail Tk.head)) rfl) rfl); rfl) | (apply same2; (first | exact rd_ld rfl (Ld.own Tk.head rfl) rfl | exact rd_ld rfl (Ld.own (Tk.tail Tk.head) rfl) rfl | exact rd_ld rfl (Ld.own (Tk.tail (Tk.tail Tk.head)) rfl) rfl))))))
    | (apply WD.cmp; rfl; rfl; rfl; rfl; intro _ _)
    | (apply WD.cmpT; rfl; rfl; rfl; rfl; intro _ _)
    | (apply WD.eqB; rfl; rfl; rfl; intro _ _)
    | (apply WD.pur; rfl; (intro _; rfl))
    | (apply WD.skp; rfl)
    | (apply WD.skpL; rfl)
    | (apply WD.skpX; rfl)
    | (apply WOps.ask; rfl; intro hb; try subst hb; rotate_left; intro hb; try subst hb; rotate_right)
    | (apply WC.condA; rfl; intro hb; try subst hb; rotate_left; intro hb; try subst hb; rotate_right)
    | (apply WD.ask; rfl; intro hb; try subst hb; rotate_left; intro hb; try subst hb; rotate_right))
  refine ⟨trivial, [_], ⟨_, [], rfl, rfl, rfl⟩, _, rfl, ?_⟩
  rw [Abs.wrap_i64 (n := _ % _) (by omega) (by omega), Abs.wrap_i64 (by omega) (by omega)]
  omega

/-- doubt.Wait, of nobody yet: greater than 0 just if the numbers may be. -/
theorem wait_ok (a b c : Int) (ha : a ≤ 9223372036854775807) : WF B tab (.func 21) [.int .i64 a, .int .i64 b, .int .i64 c, .int .i64 0] [] fun v _ => ∃ r, v = .int .i64 r ∧ (0 < r ↔ (1 ≤ a ∧ a ≤ b ∧ b ≤ 262144 ∧ 0 ≤ c ∧ c ≤ 8)) := by
  refine WF.fn g21 rfl ?_
  repeat' (first
    | apply WOps.nil
    | apply WC.seq
    | apply WC.reg
    | apply WC.skip
    | apply WC.ret
    | apply WC.exit
    | (apply WC.condT; rfl)
    | (apply WC.condF; rfl)
    | apply WC.block
    | apply WC.scope
    | apply WC.dreg
    | apply WD.nil
    | (apply WOps.ldG; rfl; rfl; (first | exact Ld.own Tk.head rfl | exact Ld.own (Tk.tail Tk.head) rfl | exact Ld.own (Tk.tail (Tk.tail Tk.head)) rfl); rfl)
    | (apply WOps.st; rfl; rfl; (first | exact Tk.head | exact (Tk.tail Tk.head) | exact (Tk.tail (Tk.tail Tk.head))); rfl; rfl; rfl)
    | (apply WOps.alc; rfl; intro _)
    | (apply WOps.bx; rfl; rfl; rfl; intro _)
    | (apply WOps.bsl; rfl; rfl; intro _)
    | (apply WOps.cmp; rfl; rfl; rfl; rfl; intro _ _)
    | (apply WOps.cmpT; rfl; rfl; rfl; rfl; intro _ _)
    | (apply WOps.eqB; rfl; rfl; rfl; intro _ _)
    | (apply WOps.purG; rfl; (intro _; rfl))
    | (apply WOps.skp; rfl)
    | (apply WD.load; rfl; (first | (apply at1; (first | exact rd_ld rfl (Ld.own Tk.head rfl) rfl | exact rd_ld rfl (Ld.own (Tk.tail Tk.head) rfl) rfl | exact rd_ld rfl (Ld.own (Tk.tail (Tk.tail Tk.head)) rfl) rfl); rfl) | (apply at2; (first | exact rd_ld rfl (Ld.own Tk.head rfl) rfl | exact rd_ld rfl (Ld.own (Tk.tail Tk.head) rfl) rfl | exact rd_ld rfl (Ld.own (Tk.tail (Tk.tail Tk.head)) rfl) rfl); repeat' (first | exact same0 | (apply same1; (first | exact rd_ld rfl (Ld.own Tk.head rfl) rfl | exact rd_ld rfl (Ld.own (Tk.tail Tk.head) rfl) rfl | exact rd_ld rfl (Ld.own (Tk.tail (Tk.tail Tk.head)) rfl) rfl); rfl) | (apply same2; (first | exact rd_ld rfl (Ld.own Tk.head rfl) rfl | exact rd_ld rfl (Ld.own (Tk.tail Tk.head) rfl) rfl | exact rd_ld rfl (Ld.own (Tk.tail (Tk.tail Tk.head)) rfl) rfl))))))
    | (apply WD.cmp; rfl; rfl; rfl; rfl; intro _ _)
    | (apply WD.cmpT; rfl; rfl; rfl; rfl; intro _ _)
    | (apply WD.eqB; rfl; rfl; rfl; intro _ _)
    | (apply WD.pur; rfl; (intro _; rfl))
    | (apply WD.skp; rfl)
    | (apply WD.skpL; rfl)
    | (apply WD.skpX; rfl))
  refine WOps.clG rfl rfl (may_ok a b c) ?_
  rintro v ⟨d, rfl, hd⟩
  cases d
  · simp only [Bool.false_eq_true, false_iff] at hd
    repeat' (first
      | apply WOps.nil
      | apply WC.seq
      | apply WC.reg
      | apply WC.skip
      | apply WC.ret
      | apply WC.exit
      | (apply WC.condT; rfl)
      | (apply WC.condF; rfl)
      | apply WC.block
      | apply WC.scope
      | apply WC.dreg
      | apply WD.nil
      | (apply WOps.ldG; rfl; rfl; (first | exact Ld.own Tk.head rfl | exact Ld.own (Tk.tail Tk.head) rfl | exact Ld.own (Tk.tail (Tk.tail Tk.head)) rfl); rfl)
      | (apply WOps.st; rfl; rfl; (first | exact Tk.head | exact (Tk.tail Tk.head) | exact (Tk.tail (Tk.tail Tk.head))); rfl; rfl; rfl)
      | (apply WOps.alc; rfl; intro _)
      | (apply WOps.bx; rfl; rfl; rfl; intro _)
      | (apply WOps.bsl; rfl; rfl; intro _)
      | (apply WOps.cmp; rfl; rfl; rfl; rfl; intro _ _)
      | (apply WOps.cmpT; rfl; rfl; rfl; rfl; intro _ _)
      | (apply WOps.eqB; rfl; rfl; rfl; intro _ _)
      | (apply WOps.purG; rfl; (intro _; rfl))
      | (apply WOps.skp; rfl)
      | (apply WD.load; rfl; (first | (apply at1; (first | exact rd_ld rfl (Ld.own Tk.head rfl) rfl | exact rd_ld rfl (Ld.own (Tk.tail Tk.head) rfl) rfl | exact rd_ld rfl (Ld.own (Tk.tail (Tk.tail Tk.head)) rfl) rfl); rfl) | (apply at2; (first | exact rd_ld rfl (Ld.own Tk.head rfl) rfl | exact rd_ld rfl (Ld.own (Tk.tail Tk.head) rfl) rfl | exact rd_ld rfl (Ld.own (Tk.tail (Tk.tail Tk.head)) rfl) rfl); repeat' (first | exact same0 | (apply same1; (first | exact rd_ld rfl (Ld.own Tk.head rfl) rfl | exact rd_ld rfl (Ld.own (Tk.tail Tk.head) rfl) rfl | exact rd_ld rfl (Ld.own (Tk.tail (Tk.tail Tk.head)) rfl) rfl); rfl) | (apply same2; (first | exact rd_ld rfl (Ld.own Tk.head rfl) rfl | exact rd_ld rfl (Ld.own (Tk.tail Tk.head) rfl) rfl | exact rd_ld rfl (Ld.own (Tk.tail (Tk.tail Tk.head)) rfl) rfl))))))
      | (apply WD.cmp; rfl; rfl; rfl; rfl; intro _ _)
      | (apply WD.cmpT; rfl; rfl; rfl; rfl; intro _ _)
      | (apply WD.eqB; rfl; rfl; rfl; intro _ _)
      | (apply WD.pur; rfl; (intro _; rfl))
      | (apply WD.skp; rfl)
      | (apply WD.skpL; rfl)
      | (apply WD.skpX; rfl))
    exact ⟨trivial, [_], ⟨_, [], rfl, rfl, rfl⟩, 0, rfl, by simp only [hd]; decide⟩
  · simp only [true_iff] at hd
    repeat' (first
      | apply WOps.nil
      | apply WC.seq
      | apply WC.reg
      | apply WC.skip
      | apply WC.ret
      | apply WC.exit
      | (apply WC.condT; rfl)
      | (apply WC.condF; rfl)
      | apply WC.block
      | apply WC.scope
      | apply WC.dreg
      | apply WD.nil
      | (apply WOps.ldG; rfl; rfl; (first | exact Ld.own Tk.head rfl | exact Ld.own (Tk.tail Tk.head) rfl | exact Ld.own (Tk.tail (Tk.tail Tk.head)) rfl); rfl)
      | (apply WOps.st; rfl; rfl; (first | exact Tk.head | exact (Tk.tail Tk.head) | exact (Tk.tail (Tk.tail Tk.head))); rfl; rfl; rfl)
      | (apply WOps.alc; rfl; intro _)
      | (apply WOps.bx; rfl; rfl; rfl; intro _)
      | (apply WOps.bsl; rfl; rfl; intro _)
      | (apply WOps.cmp; rfl; rfl; rfl; rfl; intro _ _)
      | (apply WOps.cmpT; rfl; rfl; rfl; rfl; intro _ _)
      | (apply WOps.eqB; rfl; rfl; rfl; intro _ _)
      | (apply WOps.purG; rfl; (intro _; rfl))
      | (apply WOps.skp; rfl)
      | (apply WD.load; rfl; (first | (apply at1; (first | exact rd_ld rfl (Ld.own Tk.head rfl) rfl | exact rd_ld rfl (Ld.own (Tk.tail Tk.head) rfl) rfl | exact rd_ld rfl (Ld.own (Tk.tail (Tk.tail Tk.head)) rfl) rfl); rfl) | (apply at2; (first | exact rd_ld rfl (Ld.own Tk.head rfl) rfl | exact rd_ld rfl (Ld.own (Tk.tail Tk.head) rfl) rfl | exact rd_ld rfl (Ld.own (Tk.tail (Tk.tail Tk.head)) rfl) rfl); repeat' (first | exact same0 | (apply same1; (first | exact rd_ld rfl (Ld.own Tk.head rfl) rfl | exact rd_ld rfl (Ld.own (Tk.tail Tk.head) rfl) rfl | exact rd_ld rfl (Ld.own (Tk.tail (Tk.tail Tk.head)) rfl) rfl); rfl) | (apply same2; (first | exact rd_ld rfl (Ld.own Tk.head rfl) rfl | exact rd_ld rfl (Ld.own (Tk.tail Tk.head) rfl) rfl | exact rd_ld rfl (Ld.own (Tk.tail (Tk.tail Tk.head)) rfl) rfl))))))
      | (apply WD.cmp; rfl; rfl; rfl; rfl; intro _ _)
      | (apply WD.cmpT; rfl; rfl; rfl; rfl; intro _ _)
      | (apply WD.eqB; rfl; rfl; rfl; intro _ _)
      | (apply WD.pur; rfl; (intro _; rfl))
      | (apply WD.skp; rfl)
      | (apply WD.skpL; rfl)
      | (apply WD.skpX; rfl)
      | (apply WOps.ask; rfl; intro hb; try subst hb; rotate_left; intro hb; try subst hb; rotate_right)
      | (apply WC.condA; rfl; intro hb; try subst hb; rotate_left; intro hb; try subst hb; rotate_right)
      | (apply WD.ask; rfl; intro hb; try subst hb; rotate_left; intro hb; try subst hb; rotate_right))
    · refine ⟨trivial, [_], ⟨_, [], rfl, rfl, rfl⟩, a, rfl, ?_⟩
      omega
    · rename_i h2
      simp only [cmpP, Bool.false_eq_true, false_iff] at h2
      obtain ⟨cn, rfl⟩ : ∃ cn : Nat, c = .ofNat cn := ⟨c.toNat, by simp; omega⟩
      simp only [Int.ofNat_eq_natCast] at hd h2
      refine WOps.norm 27 rfl (v' := .int .i64 (.ofNat 1)) ?_ ?_
      · congr 1 <;> (rw [IntKind.wrap_i64]; simp; rw [if_neg (by omega)]; rfl)
      refine WOps.clG rfl rfl (scale_ok 1 (by omega)) ?_
      rintro v ⟨m1, rfl, q1, q2, -⟩
      obtain rfl := q2 rfl
      repeat' (first
        | apply WOps.nil
        | apply WC.seq
        | apply WC.reg
        | apply WC.skip
        | apply WC.ret
        | apply WC.exit
        | (apply WC.condT; rfl)
        | (apply WC.condF; rfl)
        | apply WC.block
        | apply WC.scope
        | apply WC.dreg
        | apply WD.nil
        | (apply WOps.ldG; rfl; rfl; (first | exact Ld.own Tk.head rfl | exact Ld.own (Tk.tail Tk.head) rfl | exact Ld.own (Tk.tail (Tk.tail Tk.head)) rfl); rfl)
        | (apply WOps.st; rfl; rfl; (first | exact Tk.head | exact (Tk.tail Tk.head) | exact (Tk.tail (Tk.tail Tk.head))); rfl; rfl; rfl)
        | (apply WOps.alc; rfl; intro _)
        | (apply WOps.bx; rfl; rfl; rfl; intro _)
        | (apply WOps.bsl; rfl; rfl; intro _)
        | (apply WOps.cmp; rfl; rfl; rfl; rfl; intro _ _)
        | (apply WOps.cmpT; rfl; rfl; rfl; rfl; intro _ _)
        | (apply WOps.eqB; rfl; rfl; rfl; intro _ _)
        | (apply WOps.purG; rfl; (intro _; rfl))
        | (apply WOps.skp; rfl)
        | (apply WD.load; rfl; (first | (apply at1; (first | exact rd_ld rfl (Ld.own Tk.head rfl) rfl | exact rd_ld rfl (Ld.own (Tk.tail Tk.head) rfl) rfl | exact rd_ld rfl (Ld.own (Tk.tail (Tk.tail Tk.head)) rfl) rfl); rfl) | (apply at2; (first | exact rd_ld rfl (Ld.own Tk.head rfl) rfl | exact rd_ld rfl (Ld.own (Tk.tail Tk.head) rfl) rfl | exact rd_ld rfl (Ld.own (Tk.tail (Tk.tail Tk.head)) rfl) rfl); repeat' (first | exact same0 | (apply same1; (first | exact rd_ld rfl (Ld.own Tk.head rfl) rfl | exact rd_ld rfl (Ld.own (Tk.tail Tk.head) rfl) rfl | exact rd_ld rfl (Ld.own (Tk.tail (Tk.tail Tk.head)) rfl) rfl); rfl) | (apply same2; (first | exact rd_ld rfl (Ld.own Tk.head rfl) rfl | exact rd_ld rfl (Ld.own (Tk.tail Tk.head) rfl) rfl | exact rd_ld rfl (Ld.own (Tk.tail (Tk.tail Tk.head)) rfl) rfl))))))
        | (apply WD.cmp; rfl; rfl; rfl; rfl; intro _ _)
        | (apply WD.cmpT; rfl; rfl; rfl; rfl; intro _ _)
        | (apply WD.eqB; rfl; rfl; rfl; intro _ _)
        | (apply WD.pur; rfl; (intro _; rfl))
        | (apply WD.skp; rfl)
        | (apply WD.skpL; rfl)
        | (apply WD.skpX; rfl))
      refine WOps.norm 31 rfl (v' := .int .i64 (.ofNat (cn + 1))) ?_ ?_
      · congr 1
        rw [IntKind.wrap_i64]
        simp only [Int.ofNat_eq_natCast]
        omega
      refine WOps.clG rfl rfl (scale_ok (cn + 1) (by omega)) ?_
      rintro v ⟨m2, rfl, q3, -, q4⟩
      have q4 := q4 (by omega)
      refine WOps.bn rfl rfl (v := .int .i64 0) ?_ ?_
      · simp only [Int.mul_zero, aBin, if_true]
        rw [if_neg (by omega)]
        simp [IntKind.wrap_i64]
      repeat' (first
        | apply WOps.nil
        | apply WC.seq
        | apply WC.reg
        | apply WC.skip
        | apply WC.ret
        | apply WC.exit
        | (apply WC.condT; rfl)
        | (apply WC.condF; rfl)
        | apply WC.block
        | apply WC.scope
        | apply WC.dreg
        | apply WD.nil
        | (apply WOps.ldG; rfl; rfl; (first | exact Ld.own Tk.head rfl | exact Ld.own (Tk.tail Tk.head) rfl | exact Ld.own (Tk.tail (Tk.tail Tk.head)) rfl); rfl)
        | (apply WOps.st; rfl; rfl; (first | exact Tk.head | exact (Tk.tail Tk.head) | exact (Tk.tail (Tk.tail Tk.head))); rfl; rfl; rfl)
        | (apply WOps.alc; rfl; intro _)
        | (apply WOps.bx; rfl; rfl; rfl; intro _)
        | (apply WOps.bsl; rfl; rfl; intro _)
        | (apply WOps.cmp; rfl; rfl; rfl; rfl; intro _ _)
        | (apply WOps.cmpT; rfl; rfl; rfl; rfl; intro _ _)
        | (apply WOps.eqB; rfl; rfl; rfl; intro _ _)
        | (apply WOps.purG; rfl; (intro _; rfl))
        | (apply WOps.skp; rfl)
        | (apply WD.load; rfl; (first | (apply at1; (first | exact rd_ld rfl (Ld.own Tk.head rfl) rfl | exact rd_ld rfl (Ld.own (Tk.tail Tk.head) rfl) rfl | exact rd_ld rfl (Ld.own (Tk.tail (Tk.tail Tk.head)) rfl) rfl); rfl) | (apply at2; (first | exact rd_ld rfl (Ld.own Tk.head rfl) rfl | exact rd_ld rfl (Ld.own (Tk.tail Tk.head) rfl) rfl | exact rd_ld rfl (Ld.own (Tk.tail (Tk.tail Tk.head)) rfl) rfl); repeat' (first | exact same0 | (apply same1; (first | exact rd_ld rfl (Ld.own Tk.head rfl) rfl | exact rd_ld rfl (Ld.own (Tk.tail Tk.head) rfl) rfl | exact rd_ld rfl (Ld.own (Tk.tail (Tk.tail Tk.head)) rfl) rfl); rfl) | (apply same2; (first | exact rd_ld rfl (Ld.own Tk.head rfl) rfl | exact rd_ld rfl (Ld.own (Tk.tail Tk.head) rfl) rfl | exact rd_ld rfl (Ld.own (Tk.tail (Tk.tail Tk.head)) rfl) rfl))))))
        | (apply WD.cmp; rfl; rfl; rfl; rfl; intro _ _)
        | (apply WD.cmpT; rfl; rfl; rfl; rfl; intro _ _)
        | (apply WD.eqB; rfl; rfl; rfl; intro _ _)
        | (apply WD.pur; rfl; (intro _; rfl))
        | (apply WD.skp; rfl)
        | (apply WD.skpL; rfl)
        | (apply WD.skpX; rfl))
      refine ⟨trivial, [_], ⟨_, [], rfl, rfl, rfl⟩, _, rfl, ?_⟩
      rw [IntKind.wrap_i64]
      simp only [Int.ofNat_eq_natCast]
      omega

theorem rwait_ok (a b c : Int) : WF B tab (.func 22) [.int .i64 a, .int .i64 b, .int .i64 c, .int .i64 0] [] fun v _ => ∃ r, v = .int .i64 r ∧ (r ≠ 0 ↔ (1 ≤ a ∧ a ≤ b ∧ b ≤ 262144 ∧ 0 ≤ c ∧ c ≤ 8)) := by
  refine WF.fn g22 rfl ?_
  repeat' (first
    | apply WOps.nil
    | apply WC.seq
    | apply WC.reg
    | apply WC.skip
    | apply WC.ret
    | apply WC.exit
    | (apply WC.condT; rfl)
    | (apply WC.condF; rfl)
    | apply WC.block
    | apply WC.scope
    | apply WC.dreg
    | apply WD.nil
    | (apply WOps.ldG; rfl; rfl; (first | exact Ld.own Tk.head rfl | exact Ld.own (Tk.tail Tk.head) rfl | exact Ld.own (Tk.tail (Tk.tail Tk.head)) rfl); rfl)
    | (apply WOps.st; rfl; rfl; (first | exact Tk.head | exact (Tk.tail Tk.head) | exact (Tk.tail (Tk.tail Tk.head))); rfl; rfl; rfl)
    | (apply WOps.alc; rfl; intro _)
    | (apply WOps.bx; rfl; rfl; rfl; intro _)
    | (apply WOps.bsl; rfl; rfl; intro _)
    | (apply WOps.cmp; rfl; rfl; rfl; rfl; intro _ _)
    | (apply WOps.cmpT; rfl; rfl; rfl; rfl; intro _ _)
    | (apply WOps.eqB; rfl; rfl; rfl; intro _ _)
    | (apply WOps.purG; rfl; (intro _; rfl))
    | (apply WOps.skp; rfl)
    | (apply WD.load; rfl; (first | (apply at1; (first | exact rd_ld rfl (Ld.own Tk.head rfl) rfl | exact rd_ld rfl (Ld.own (Tk.tail Tk.head) rfl) rfl | exact rd_ld rfl (Ld.own (Tk.tail (Tk.tail Tk.head)) rfl) rfl); rfl) | (apply at2; (first | exact rd_ld rfl (Ld.own Tk.head rfl) rfl | exact rd_ld rfl (Ld.own (Tk.tail Tk.head) rfl) rfl | exact rd_ld rfl (Ld.own (Tk.tail (Tk.tail Tk.head)) rfl) rfl); repeat' (first | exact same0 | (apply same1; (first | exact rd_ld rfl (Ld.own Tk.head rfl) rfl | exact rd_ld rfl (Ld.own (Tk.tail Tk.head) rfl) rfl | exact rd_ld rfl (Ld.own (Tk.tail (Tk.tail Tk.head)) rfl) rfl); rfl) | (apply same2; (first | exact rd_ld rfl (Ld.own Tk.head rfl) rfl | exact rd_ld rfl (Ld.own (Tk.tail Tk.head) rfl) rfl | exact rd_ld rfl (Ld.own (Tk.tail (Tk.tail Tk.head)) rfl) rfl))))))
    | (apply WD.cmp; rfl; rfl; rfl; rfl; intro _ _)
    | (apply WD.cmpT; rfl; rfl; rfl; rfl; intro _ _)
    | (apply WD.eqB; rfl; rfl; rfl; intro _ _)
    | (apply WD.pur; rfl; (intro _; rfl))
    | (apply WD.skp; rfl)
    | (apply WD.skpL; rfl)
    | (apply WD.skpX; rfl)
    | (apply WOps.ask; rfl; intro hb; try subst hb; rotate_left; intro hb; try subst hb; rotate_right)
    | (apply WC.condA; rfl; intro hb; try subst hb; rotate_left; intro hb; try subst hb; rotate_right)
    | (apply WD.ask; rfl; intro hb; try subst hb; rotate_left; intro hb; try subst hb; rotate_right))
  all_goals simp only [cmpP, true_iff, false_iff, Bool.false_eq_true, Int.ofNat_eq_natCast] at *
  all_goals try (refine ⟨trivial, [_], ⟨_, [], rfl, rfl, rfl⟩, 0, rfl, ?_⟩; omega)
  all_goals try (refine ⟨trivial, [_], ⟨_, [], rfl, rfl, rfl⟩, a, rfl, ?_⟩; omega)
  all_goals try omega
  rename_i h1 h2 h3 h4 h5 h6 h7 h8 id
  obtain ⟨cn, rfl⟩ : ∃ cn : Nat, c = .ofNat cn := ⟨c.toNat, by simp; omega⟩
  simp only [Int.ofNat_eq_natCast] at h4 h5 h6 h7 h8
  refine WD.norm 53 rfl (v' := .int .i64 (.ofNat (cn + 1))) ?_ ?_
  · congr 1
    rw [IntKind.wrap_i64]
    simp only [Int.ofNat_eq_natCast]
    omega
  refine WD.ixS rfl rfl rfl (by omega) ?_
  have key : ∃ m, 1 ≤ m ∧ takeN (([AV.int .i64 0, .int .i64 0, .int .i64 1000, .int .i64 1585, .int .i64 2000, .int .i64 2322, .int .i64 2585, .int .i64 2807, .int .i64 3000, .int .i64 3170] : List AV).drop (0 + (cn + 1) * 1)) 1 = some [.int .i64 m] := by
    have h5' : cn ≤ 8 := by omega
    have h6' : cn ≠ 0 := by omega
    match cn, h5', h6' with
    | 1, _, _ | 2, _, _ | 3, _, _ | 4, _, _ | 5, _, _ | 6, _, _ | 7, _, _ | 8, _, _ => exact ⟨_, by decide, rfl⟩
  obtain ⟨m, hm, hk⟩ := key
  refine WD.load rfl ⟨rd_ld (l := [.int .i64 m]) rfl (Ld.own Tk.head (by exact hk)) rfl, trivial⟩ ?_
  refine WD.bn rfl rfl rfl (v := .int .i64 0) ?_ ?_
  · simp [aBin, IntKind.wrap_i64]
    omega
  repeat' (first
    | apply WOps.nil
    | apply WC.seq
    | apply WC.reg
    | apply WC.skip
    | apply WC.ret
    | apply WC.exit
    | (apply WC.condT; rfl)
    | (apply WC.condF; rfl)
    | apply WC.block
    | apply WC.scope
    | apply WC.dreg
    | apply WD.nil
    | (apply WOps.ldG; rfl; rfl; (first | exact Ld.own Tk.head rfl | exact Ld.own (Tk.tail Tk.head) rfl | exact Ld.own (Tk.tail (Tk.tail Tk.head)) rfl); rfl)
    | (apply WOps.st; rfl; rfl; (first | exact Tk.head | exact (Tk.tail Tk.head) | exact (Tk.tail (Tk.tail Tk.head))); rfl; rfl; rfl)
    | (apply WOps.alc; rfl; intro _)
    | (apply WOps.bx; rfl; rfl; rfl; intro _)
    | (apply WOps.bsl; rfl; rfl; intro _)
    | (apply WOps.cmp; rfl; rfl; rfl; rfl; intro _ _)
    | (apply WOps.cmpT; rfl; rfl; rfl; rfl; intro _ _)
    | (apply WOps.eqB; rfl; rfl; rfl; intro _ _)
    | (apply WOps.purG; rfl; (intro _; rfl))
    | (apply WOps.skp; rfl)
    | (apply WD.load; rfl; (first | (apply at1; (first | exact rd_ld rfl (Ld.own Tk.head rfl) rfl | exact rd_ld rfl (Ld.own (Tk.tail Tk.head) rfl) rfl | exact rd_ld rfl (Ld.own (Tk.tail (Tk.tail Tk.head)) rfl) rfl); rfl) | (apply at2; (first | exact rd_ld rfl (Ld.own Tk.head rfl) rfl | exact rd_ld rfl (Ld.own (Tk.tail Tk.head) rfl) rfl | exact rd_ld rfl (Ld.own (Tk.tail (Tk.tail Tk.head)) rfl) rfl); repeat' (first | exact same0 | (apply same1; (first | exact rd_ld rfl (Ld.own Tk.head rfl) rfl | exact rd_ld rfl (Ld.own (Tk.tail Tk.head) rfl) rfl | exact rd_ld rfl (Ld.own (Tk.tail (Tk.tail Tk.head)) rfl) rfl); rfl) | (apply same2; (first | exact rd_ld rfl (Ld.own Tk.head rfl) rfl | exact rd_ld rfl (Ld.own (Tk.tail Tk.head) rfl) rfl | exact rd_ld rfl (Ld.own (Tk.tail (Tk.tail Tk.head)) rfl) rfl))))))
    | (apply WD.cmp; rfl; rfl; rfl; rfl; intro _ _)
    | (apply WD.cmpT; rfl; rfl; rfl; rfl; intro _ _)
    | (apply WD.eqB; rfl; rfl; rfl; intro _ _)
    | (apply WD.pur; rfl; (intro _; rfl))
    | (apply WD.skp; rfl)
    | (apply WD.skpL; rfl)
    | (apply WD.skpX; rfl))
  refine ⟨trivial, [_], ⟨_, [], rfl, rfl, rfl⟩, _, rfl, ?_⟩
  rw [IntKind.wrap_i64]
  simp only [Int.ofNat_eq_natCast]
  omega

def Cf (a0 a1 a2 a3 a4 a5 a6 a7 a8 a9 a10 : Int) : AV := .agg [.int .i64 a0, .int .i64 a1, .int .i64 a2, .int .i64 a3, .int .i64 a4, .int .i64 a5, .int .i64 a6, .int .i64 a7, .int .i64 a8, .int .i64 a9, .int .i64 a10]
def May (a0 a1 a2 a3 a4 a5 a6 a7 a8 a9 a10 : Int) : Prop := 1 ≤ a1 ∧ a1 ≤ 1000 ∧ 2 * a1 + 1 ≤ a0 ∧ a0 ≤ 4000 ∧ 0 ≤ a2 ∧ a2 ≤ 4 ∧ (1 ≤ a3 ∧ a3 ≤ a4 ∧ a4 ≤ 262144 ∧ 0 ≤ a5 ∧ a5 ≤ 8) ∧ 1 ≤ a6 ∧ a6 ≤ 8 ∧ 1 ≤ a7 ∧ a7 ≤ 16 ∧ 1 ≤ a8 ∧ a8 ≤ 1000 ∧ 1 ≤ a9 ∧ a9 ≤ 4 ∧ 1 ≤ a10 ∧ a10 ≤ 4000

set_option maxHeartbeats 1000000 in
theorem right_ok (a0 a1 a2 a3 a4 a5 a6 a7 a8 a9 a10 : Int) (h3 : a3 ≤ 9223372036854775807) : WF B tab (.func 5) [Cf a0 a1 a2 a3 a4 a5 a6 a7 a8 a9 a10] []
    fun v _ => ∃ d : Bool, v = .bool d ∧ (d = true ↔ May a0 a1 a2 a3 a4 a5 a6 a7 a8 a9 a10) := by
  refine WF.fn g5 rfl ?_
  repeat' (first
    | apply WOps.nil
    | apply WC.seq
    | apply WC.reg
    | apply WC.skip
    | apply WC.ret
    | apply WC.exit
    | (apply WC.condT; rfl)
    | (apply WC.condF; rfl)
    | apply WC.block
    | apply WC.scope
    | apply WC.dreg
    | apply WD.nil
    | (apply WOps.ldG; rfl; rfl; (first | exact Ld.own Tk.head rfl | exact Ld.own (Tk.tail Tk.head) rfl | exact Ld.own (Tk.tail (Tk.tail Tk.head)) rfl); rfl)
    | (apply WOps.st; rfl; rfl; (first | exact Tk.head | exact (Tk.tail Tk.head) | exact (Tk.tail (Tk.tail Tk.head))); rfl; rfl; rfl)
    | (apply WOps.alc; rfl; intro _)
    | (apply WOps.bx; rfl; rfl; rfl; intro _)
    | (apply WOps.bsl; rfl; rfl; intro _)
    | (apply WOps.clG; rfl; rfl; exact within_ok _ _ _; rintro _ ⟨_, rfl, _⟩)
    | (apply WOps.clG; rfl; rfl; exact wait_ok _ _ _ h3; rintro _ ⟨_, rfl, _⟩)
    | (apply WOps.cmp; rfl; rfl; rfl; rfl; intro _ _)
    | (apply WOps.cmpT; rfl; rfl; rfl; rfl; intro _ _)
    | (apply WOps.eqB; rfl; rfl; rfl; intro _ _)
    | (apply WOps.purG; rfl; (intro _; rfl))
    | (apply WOps.skp; rfl)
    | (apply WD.load; rfl; (first | (apply at1; (first | exact rd_ld rfl (Ld.own Tk.head rfl) rfl | exact rd_ld rfl (Ld.own (Tk.tail Tk.head) rfl) rfl | exact rd_ld rfl (Ld.own (Tk.tail (Tk.tail Tk.head)) rfl) rfl); rfl) | (apply at2; (first | exact rd_ld rfl (Ld.own Tk.head rfl) rfl | exact rd_ld rfl (Ld.own (Tk.tail Tk.head) rfl) rfl | exact rd_ld rfl (Ld.own (Tk.tail (Tk.tail Tk.head)) rfl) rfl); repeat' (first | exact same0 | (apply same1; (first | exact rd_ld rfl (Ld.own Tk.head rfl) rfl | exact rd_ld rfl (Ld.own (Tk.tail Tk.head) rfl) rfl | exact rd_ld rfl (Ld.own (Tk.tail (Tk.tail Tk.head)) rfl) rfl); rfl) | (apply same2; (first | exact rd_ld rfl (Ld.own Tk.head rfl) rfl | exact rd_ld rfl (Ld.own (Tk.tail Tk.head) rfl) rfl | exact rd_ld rfl (Ld.own (Tk.tail (Tk.tail Tk.head)) rfl) rfl))))))
    | (apply WD.cmp; rfl; rfl; rfl; rfl; intro _ _)
    | (apply WD.cmpT; rfl; rfl; rfl; rfl; intro _ _)
    | (apply WD.eqB; rfl; rfl; rfl; intro _ _)
    | (apply WD.pur; rfl; (intro _; rfl))
    | (apply WD.skp; rfl)
    | (apply WD.skpL; rfl)
    | (apply WD.skpX; rfl)
    | (apply WOps.ask; rfl; intro hb; try subst hb; rotate_left; intro hb; try subst hb; rotate_right)
    | (apply WC.condA; rfl; intro hb; try subst hb; rotate_left; intro hb; try subst hb; rotate_right)
    | (apply WD.ask; rfl; intro hb; try subst hb; rotate_left; intro hb; try subst hb; rotate_right))
  all_goals refine ⟨trivial, [_], ⟨_, [], rfl, rfl, rfl⟩, _, rfl, ?_⟩
  all_goals simp only [cmpP, true_iff, false_iff, Bool.false_eq_true, Int.ofNat_eq_natCast, May, IntKind.wrap_i64] at *
  all_goals first | omega | (apply Iff.trans; assumption; omega)

set_option maxHeartbeats 1000000 in
theorem rright_ok (a0 a1 a2 a3 a4 a5 a6 a7 a8 a9 a10 : Int) : WF B tab (.func 6) [Cf a0 a1 a2 a3 a4 a5 a6 a7 a8 a9 a10] []
    fun v _ => ∃ d : Bool, v = .bool d ∧ (d = true ↔ May a0 a1 a2 a3 a4 a5 a6 a7 a8 a9 a10) := by
  refine WF.fn g6 rfl ?_
  repeat' (first
    | apply WOps.nil
    | apply WC.seq
    | apply WC.reg
    | apply WC.skip
    | apply WC.ret
    | apply WC.exit
    | (apply WC.condT; rfl)
    | (apply WC.condF; rfl)
    | apply WC.block
    | apply WC.scope
    | apply WC.dreg
    | apply WD.nil
    | (apply WOps.ldG; rfl; rfl; (first | exact Ld.own Tk.head rfl | exact Ld.own (Tk.tail Tk.head) rfl | exact Ld.own (Tk.tail (Tk.tail Tk.head)) rfl); rfl)
    | (apply WOps.st; rfl; rfl; (first | exact Tk.head | exact (Tk.tail Tk.head) | exact (Tk.tail (Tk.tail Tk.head))); rfl; rfl; rfl)
    | (apply WOps.alc; rfl; intro _)
    | (apply WOps.bx; rfl; rfl; rfl; intro _)
    | (apply WOps.bsl; rfl; rfl; intro _)
    | (apply WOps.clG; rfl; rfl; exact rwait_ok _ _ _; rintro _ ⟨_, rfl, _⟩)
    | (apply WOps.cmp; rfl; rfl; rfl; rfl; intro _ _)
    | (apply WOps.cmpT; rfl; rfl; rfl; rfl; intro _ _)
    | (apply WOps.eqB; rfl; rfl; rfl; intro _ _)
    | (apply WOps.purG; rfl; (intro _; rfl))
    | (apply WOps.skp; rfl)
    | (apply WD.load; rfl; (first | (apply at1; (first | exact rd_ld rfl (Ld.own Tk.head rfl) rfl | exact rd_ld rfl (Ld.own (Tk.tail Tk.head) rfl) rfl | exact rd_ld rfl (Ld.own (Tk.tail (Tk.tail Tk.head)) rfl) rfl); rfl) | (apply at2; (first | exact rd_ld rfl (Ld.own Tk.head rfl) rfl | exact rd_ld rfl (Ld.own (Tk.tail Tk.head) rfl) rfl | exact rd_ld rfl (Ld.own (Tk.tail (Tk.tail Tk.head)) rfl) rfl); repeat' (first | exact same0 | (apply same1; (first | exact rd_ld rfl (Ld.own Tk.head rfl) rfl | exact rd_ld rfl (Ld.own (Tk.tail Tk.head) rfl) rfl | exact rd_ld rfl (Ld.own (Tk.tail (Tk.tail Tk.head)) rfl) rfl); rfl) | (apply same2; (first | exact rd_ld rfl (Ld.own Tk.head rfl) rfl | exact rd_ld rfl (Ld.own (Tk.tail Tk.head) rfl) rfl | exact rd_ld rfl (Ld.own (Tk.tail (Tk.tail Tk.head)) rfl) rfl))))))
    | (apply WD.cmp; rfl; rfl; rfl; rfl; intro _ _)
    | (apply WD.cmpT; rfl; rfl; rfl; rfl; intro _ _)
    | (apply WD.eqB; rfl; rfl; rfl; intro _ _)
    | (apply WD.pur; rfl; (intro _; rfl))
    | (apply WD.skp; rfl)
    | (apply WD.skpL; rfl)
    | (apply WD.skpX; rfl)
    | (apply WOps.ask; rfl; intro hb; try subst hb; rotate_left; intro hb; try subst hb; rotate_right)
    | (apply WC.condA; rfl; intro hb; try subst hb; rotate_left; intro hb; try subst hb; rotate_right)
    | (apply WD.ask; rfl; intro hb; try subst hb; rotate_left; intro hb; try subst hb; rotate_right))
  all_goals refine ⟨trivial, [_], ⟨_, [], rfl, rfl, rfl⟩, _, rfl, ?_⟩
  all_goals simp only [cmpP, true_iff, false_iff, Bool.false_eq_true, Int.ofNat_eq_natCast, May, IntKind.wrap_i64] at *
  all_goals first | omega | (apply Iff.trans; assumption; omega)

set_option maxHeartbeats 1000000 in
theorem fitted_ok (a0 a1 a2 a3 a4 a5 a6 a7 a8 a9 a10 : Int) : WF B tab (.func 7) [Cf a0 a1 a2 a3 a4 a5 a6 a7 a8 a9 a10] []
    fun v _ => ∃ b0 b1 b2 b3 b4 b5 b6 b7 b8 b9 b10, v = Cf b0 b1 b2 b3 b4 b5 b6 b7 b8 b9 b10 ∧ b3 ≤ 9223372036854775807 ∧ May b0 b1 b2 b3 b4 b5 b6 b7 b8 b9 b10 := by
  refine WF.fn g7 rfl ?_
  repeat' (first
    | apply WOps.nil
    | apply WC.seq
    | apply WC.reg
    | apply WC.skip
    | apply WC.ret
    | apply WC.exit
    | (apply WC.condT; rfl)
    | (apply WC.condF; rfl)
    | apply WC.block
    | apply WC.scope
    | apply WC.dreg
    | apply WD.nil
    | (apply WOps.ldG; rfl; rfl; (first | exact Ld.own Tk.head rfl | exact Ld.own (Tk.tail Tk.head) rfl | exact Ld.own (Tk.tail (Tk.tail Tk.head)) rfl); rfl)
    | (apply WOps.st; rfl; rfl; (first | exact Tk.head | exact (Tk.tail Tk.head) | exact (Tk.tail (Tk.tail Tk.head))); rfl; rfl; rfl)
    | (apply WOps.alc; rfl; intro _)
    | (apply WOps.bx; rfl; rfl; rfl; intro _)
    | (apply WOps.bsl; rfl; rfl; intro _)
    | (apply WOps.clG; rfl; rfl; (apply in_ok <;> (simp only [IntKind.wrap_i64, Int.ofNat_eq_natCast] at *; omega)); rintro _ ⟨_, rfl, _⟩)
    | (apply WOps.cmp; rfl; rfl; rfl; rfl; intro _ _)
    | (apply WOps.cmpT; rfl; rfl; rfl; rfl; intro _ _)
    | (apply WOps.eqB; rfl; rfl; rfl; intro _ _)
    | (apply WOps.purG; rfl; (intro _; rfl))
    | (apply WOps.skp; rfl)
    | (apply WD.load; rfl; (first | (apply at1; (first | exact rd_ld rfl (Ld.own Tk.head rfl) rfl | exact rd_ld rfl (Ld.own (Tk.tail Tk.head) rfl) rfl | exact rd_ld rfl (Ld.own (Tk.tail (Tk.tail Tk.head)) rfl) rfl); rfl) | (apply at2; (first | exact rd_ld rfl (Ld.own Tk.head rfl) rfl | exact rd_ld rfl (Ld.own (Tk.tail Tk.head) rfl) rfl | exact rd_ld rfl (Ld.own (Tk.tail (Tk.tail Tk.head)) rfl) rfl); repeat' (first | exact same0 | (apply same1; (first | exact rd_ld rfl (Ld.own Tk.head rfl) rfl | exact rd_ld rfl (Ld.own (Tk.tail Tk.head) rfl) rfl | exact rd_ld rfl (Ld.own (Tk.tail (Tk.tail Tk.head)) rfl) rfl); rfl) | (apply same2; (first | exact rd_ld rfl (Ld.own Tk.head rfl) rfl | exact rd_ld rfl (Ld.own (Tk.tail Tk.head) rfl) rfl | exact rd_ld rfl (Ld.own (Tk.tail (Tk.tail Tk.head)) rfl) rfl))))))
    | (apply WD.cmp; rfl; rfl; rfl; rfl; intro _ _)
    | (apply WD.cmpT; rfl; rfl; rfl; rfl; intro _ _)
    | (apply WD.eqB; rfl; rfl; rfl; intro _ _)
    | (apply WD.pur; rfl; (intro _; rfl))
    | (apply WD.skp; rfl)
    | (apply WD.skpL; rfl)
    | (apply WD.skpX; rfl)
    | (apply WOps.ask; rfl; intro hb; try subst hb; rotate_left; intro hb; try subst hb; rotate_right)
    | (apply WC.condA; rfl; intro hb; try subst hb; rotate_left; intro hb; try subst hb; rotate_right)
    | (apply WD.ask; rfl; intro hb; try subst hb; rotate_left; intro hb; try subst hb; rotate_right))
  refine ⟨trivial, [_], ⟨_, [], rfl, ⟨_, _, rfl, Ld.own Tk.head rfl, rfl⟩, rfl⟩, _, _, _, _, _, _, _, _, _, _, _, rfl, ?_⟩
  simp only [IntKind.wrap_i64, Int.ofNat_eq_natCast, May] at *
  omega

theorem law_ok (a0 a1 a2 a3 a4 a5 a6 a7 a8 a9 a10 : Int) (h3 : a3 ≤ 9223372036854775807) : WF B tab (.func 3) [Cf a0 a1 a2 a3 a4 a5 a6 a7 a8 a9 a10] [] fun v _ => v = .bool true := by
  refine WF.fn g3 rfl ?_
  repeat' (first
    | apply WOps.nil
    | apply WC.seq
    | apply WC.reg
    | apply WC.skip
    | apply WC.ret
    | apply WC.exit
    | (apply WC.condT; rfl)
    | (apply WC.condF; rfl)
    | apply WC.block
    | apply WC.scope
    | apply WC.dreg
    | apply WD.nil
    | (apply WOps.ldG; rfl; rfl; (first | exact Ld.own Tk.head rfl | exact Ld.own (Tk.tail Tk.head) rfl | exact Ld.own (Tk.tail (Tk.tail Tk.head)) rfl); rfl)
    | (apply WOps.st; rfl; rfl; (first | exact Tk.head | exact (Tk.tail Tk.head) | exact (Tk.tail (Tk.tail Tk.head))); rfl; rfl; rfl)
    | (apply WOps.alc; rfl; intro _)
    | (apply WOps.bx; rfl; rfl; rfl; intro _)
    | (apply WOps.bsl; rfl; rfl; intro _)
    | (apply WD.cl0; rfl; rfl; exact right_ok _ _ _ _ _ _ _ _ _ _ _ h3; rintro _ ⟨_, rfl, _⟩)
    | (apply WD.cl0; rfl; rfl; exact rright_ok _ _ _ _ _ _ _ _ _ _ _; rintro _ ⟨_, rfl, _⟩)
    | (apply WD.cl0; rfl; rfl; exact fitted_ok _ _ _ _ _ _ _ _ _ _ _; rintro _ ⟨_, _, _, _, _, _, _, _, _, _, _, rfl, _, _⟩)
    | (apply WD.cl0; rfl; rfl; apply right_ok; assumption; rintro _ ⟨_, rfl, _⟩)
    | (apply WD.cl1; rfl; rfl; exact WF.const g8)
    | (apply WOps.cmp; rfl; rfl; rfl; rfl; intro _ _)
    | (apply WOps.cmpT; rfl; rfl; rfl; rfl; intro _ _)
    | (apply WOps.eqB; rfl; rfl; rfl; intro _ _)
    | (apply WOps.purG; rfl; (intro _; rfl))
    | (apply WOps.skp; rfl)
    | (apply WD.load; rfl; (first | (apply at1; (first | exact rd_ld rfl (Ld.own Tk.head rfl) rfl | exact rd_ld rfl (Ld.own (Tk.tail Tk.head) rfl) rfl | exact rd_ld rfl (Ld.own (Tk.tail (Tk.tail Tk.head)) rfl) rfl); rfl) | (apply at2; (first | exact rd_ld rfl (Ld.own Tk.head rfl) rfl | exact rd_ld rfl (Ld.own (Tk.tail Tk.head) rfl) rfl | exact rd_ld rfl (Ld.own (Tk.tail (Tk.tail Tk.head)) rfl) rfl); repeat' (first | exact same0 | (apply same1; (first | exact rd_ld rfl (Ld.own Tk.head rfl) rfl | exact rd_ld rfl (Ld.own (Tk.tail Tk.head) rfl) rfl | exact rd_ld rfl (Ld.own (Tk.tail (Tk.tail Tk.head)) rfl) rfl); rfl) | (apply same2; (first | exact rd_ld rfl (Ld.own Tk.head rfl) rfl | exact rd_ld rfl (Ld.own (Tk.tail Tk.head) rfl) rfl | exact rd_ld rfl (Ld.own (Tk.tail (Tk.tail Tk.head)) rfl) rfl))))))
    | (apply WD.cmp; rfl; rfl; rfl; rfl; intro _ _)
    | (apply WD.cmpT; rfl; rfl; rfl; rfl; intro _ _)
    | (apply WD.eqB; rfl; rfl; rfl; intro _ _)
    | (apply WD.pur; rfl; (intro _; rfl))
    | (apply WD.skp; rfl)
    | (apply WD.skpL; rfl)
    | (apply WD.skpX; rfl)
    | (apply WOps.ask; rfl; intro hb; try subst hb; rotate_left; intro hb; try subst hb; rotate_right)
    | (apply WC.condA; rfl; intro hb; try subst hb; rotate_left; intro hb; try subst hb; rotate_right)
    | (apply WD.ask; rfl; intro hb; try subst hb; rotate_left; intro hb; try subst hb; rotate_right))
  all_goals refine ⟨trivial, [_], ⟨_, [], rfl, rfl, rfl⟩, ?_⟩
  · rfl
  · simp_all
  · rename_i h1 _ h2 h3
    simp at h3
    exact absurd (Bool.eq_iff_iff.2 (h1.trans h2.symm)) h3
theorem swimRights_wf (B : Nat → List AV) (args : List AV) (h : ArgIs Tryz.prog B Tryz.f3.params.toList args) : WF B tab (.func 3) args [] fun v _ => v = .bool true := by
  rw [show Tryz.f3.params.toList = [23] from by kernel_rfl] at h
  match args, h with
  | [a], ⟨⟨n, cs, h, ha⟩, _⟩ =>
    rw [show (shapeOf Tryz.prog 23).1 = true from by kernel_rfl] at ha
    simp only at ha
    subst ha
    have t3 : tyOf Tryz.prog 3 = .int .i64 := by kernel_rfl
    have t23 : tyOf Tryz.prog 23 = .st [(0, 1, 3), (1, 1, 3), (2, 1, 3), (3, 1, 3), (4, 1, 3), (5, 1, 3), (6, 1, 3), (7, 1, 3), (8, 1, 3), (9, 1, 3), (10, 1, 3)] := by kernel_rfl
    obtain ⟨m, h⟩ := h.st t23
    obtain ⟨a0, r, rfl, _, _, h⟩ := h.int t3
    obtain ⟨a1, r, rfl, _, _, h⟩ := h.int t3
    obtain ⟨a2, r, rfl, _, _, h⟩ := h.int t3
    obtain ⟨a3, r, rfl, _, h3, h⟩ := h.int t3
    obtain ⟨a4, r, rfl, _, _, h⟩ := h.int t3
    obtain ⟨a5, r, rfl, _, _, h⟩ := h.int t3
    obtain ⟨a6, r, rfl, _, _, h⟩ := h.int t3
    obtain ⟨a7, r, rfl, _, _, h⟩ := h.int t3
    obtain ⟨a8, r, rfl, _, _, h⟩ := h.int t3
    obtain ⟨a9, r, rfl, _, _, h⟩ := h.int t3
    obtain ⟨a10, r, rfl, _, _, h⟩ := h.int t3
    obtain rfl := h.nil
    exact law_ok a0 a1 a2 a3 a4 a5 a6 a7 a8 a9 a10 h3
end Go.Proofs.YtcecihgcinglaaaGreat.SR
