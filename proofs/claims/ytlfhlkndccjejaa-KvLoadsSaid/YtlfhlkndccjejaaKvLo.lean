/- What the functions do, shown by the logic. -/
import Derived.Test.YtlfhlkndccjejaaKvB
import Derived.Test.YtlfhlkndccjejaaAbsN2
set_option linter.unusedSimpArgs false
set_option linter.unusedVariables false
set_option maxRecDepth 20000
namespace Go.Proofs.Ytlfhlkndccjejaa.KV
open Go.Proofs.Ytlfhlkndccjejaa.Abs
variable {B : Nat → List AV}
theorem TbAt.app {H R : HL} {a most : Nat} {es : List E} {last : Int} (h : TbAt H a most es last R) : ∀ (h' : HL), TbAt (h' ++ H) a most es last (h' ++ R) := by
  intro h'
  induction h' with
  | nil => exact h
  | cons x h' ih => exact ih.cons
theorem under_nil {es : List E} : under [] es = es := by
  unfold under
  rw [List.filter_eq_self]
  intro e _
  simp [underP, preP]
theorem ents_T {l : List E} : ∀ (i : Nat) c, (l.map entC)[i]? = some c → AllT [.str, .str, .int .u64, .int .u64, .int .u64, .int .u64] c := by
  intro i c h
  rw [List.getElem?_map] at h
  cases hx : l[i]? with
  | none => rw [hx] at h; cases h
  | some e => rw [hx] at h; cases h; exact entC_T e
theorem listAll_at {H R : HL} {kp a most : Nat} {last : Int} {es : List E} (hm : 1 ≤ most) (hn : es.length ≤ 1000) (hk : Ld B R ⟨false, kp, 0⟩ 1 [.ptr ⟨false, a, 0⟩]) (t : TbAt H a most es last R) :
    WF B tab (.func 23) [.ptr ⟨false, kp, 0⟩, .str []] H fun r H' => ∃ h', OwnSl r (es.map entC).flatten es.length 6 h' ∧ H' = h' ++ H := by
  have := list23_at (B := B) (pre := []) hm hn (by simp) hk t
  rw [under_nil] at this
  exact this
theorem loads_ok {most last : Int} {w : AV} {l : List E} (hw : SlIs B [] w 6 (l.map entC)) (hl : 0 ≤ last) (hlen : l.length ≤ 9223372036854775807) :
    WF B tab (.func 4) [.int .i64 most, w, .int .u64 last] [] fun r _ => r = .bool true := by
  refine WF.fn g4 rfl ?_
  have hm := mostOf_ge most
  have hm2 := mostOf_le most
  repeat' (first
    | apply WOps.nil | apply WC.seq | apply WC.reg | apply WC.skip | apply WC.ret | apply WC.exit | (apply WC.condT; rfl) | (apply WC.condF; rfl) | apply WC.block | apply WC.scope | apply WC.dreg | apply WD.nil | (apply WOps.ldG; rfl; rfl; (first | exact ld0 rfl | exact ld1 rfl | exact ld2 rfl); rfl) | (apply WOps.st; rfl; rfl; (first | exact tk0 | exact tk1 | exact tk2); rfl; (first | rfl | ((repeat' (first | exact ac0 | apply ac1)) <;> (first | rfl | assumption))); rfl) | (apply WOps.alc; rfl; intro _) | (apply WOps.bx; rfl; rfl; (first | rfl | ((repeat' (first | exact ac0 | apply ac1)) <;> (first | rfl | assumption))); intro _) | (apply WOps.bsl; rfl; (first | rfl | ((repeat' (first | exact ac0 | apply ac1)) <;> (first | rfl | assumption))); intro _) | (apply WD.st; rfl; rfl; rfl; (first | exact tk0 | exact tk1 | exact tk2); rfl; (first | rfl | ((repeat' (first | exact ac0 | apply ac1)) <;> (first | rfl | assumption))); rfl) | (apply WD.alc; rfl; rfl; intro _) | (apply WD.bsl; rfl; rfl; (first | rfl | ((repeat' (first | exact ac0 | apply ac1)) <;> (first | rfl | assumption))); intro _) | (apply WOps.clA; rfl; rfl; exact load19_ok hw hl hlen; rintro _ H1 (⟨hmay, kp, a, rfl, t⟩ | ⟨hmay, rfl, rfl⟩)) | (apply WOps.clR; rfl; rfl; exact may20_ok hw.any hlen; rintro _ ⟨b, rfl, hb⟩; cases b) | (apply WOps.clG1; rfl; rfl; exact WF.const g21) | (apply WOps.clA; rfl; rfl; exact listAll_at hm (by have := hmay.1; omega) (Ld.own Tk.head rfl) t; rintro r _ ⟨h', o, rfl⟩) | (apply WOps.clR; rfl; rfl; exact same22_ok (SlIs.left (ents_sl o)) hw.any ents_T ents_T (by rw [List.length_map]; omega); rintro _ ⟨b, rfl, hb2⟩) | (apply WOps.clR; rfl; rfl; exact last24_at hm (Ld.right (Ld.own Tk.head rfl)) (t.app h'); rintro _ rfl) | (apply WOps.neqF; rfl; rfl; rfl; decide) | (apply WOps.neqT; rfl; rfl; rfl; decide) | (apply WOps.eqlF; rfl; rfl; rfl; decide) | (apply WOps.eqlT; rfl; rfl; rfl; decide) | (apply WD.neqF; rfl; rfl; rfl; decide) | (apply WD.neqT; rfl; rfl; rfl; decide) | (apply WD.eqlF; rfl; rfl; rfl; decide) | (apply WD.eqlT; rfl; rfl; rfl; decide) | (apply WOps.cmp; rfl; rfl; rfl; rfl; intro _ _) | (apply WOps.cmpT; rfl; rfl; rfl; rfl; intro _ _) | (apply WOps.eqB; rfl; rfl; rfl; intro _ _) | (apply WOps.purG; rfl; (intro _; rfl)) | (apply WOps.skp; rfl) | (apply WD.load; rfl; (first | (apply at1; (first | exact rd0 rfl rfl rfl | exact rd1 rfl rfl rfl | exact rd2 rfl rfl rfl); rfl) | (apply at2; (first | exact rd0 rfl rfl rfl | exact rd1 rfl rfl rfl | exact rd2 rfl rfl rfl); repeat' (first | exact same0 | (apply same1; (first | exact rd0 rfl rfl rfl | exact rd1 rfl rfl rfl | exact rd2 rfl rfl rfl); rfl) | (apply same2; (first | exact rd0 rfl rfl rfl | exact rd1 rfl rfl rfl | exact rd2 rfl rfl rfl)))))) | (apply WD.cmp; rfl; rfl; rfl; rfl; intro _ _) | (apply WD.cmpT; rfl; rfl; rfl; rfl; intro _ _) | (apply WD.eqB; rfl; rfl; rfl; intro _ _) | (apply WD.pur; rfl; (intro _; rfl)) | (apply WD.skp; rfl) | (apply WD.skpL; rfl) | (apply WD.skpX; rfl) | (apply WOps.ask; rfl; all_goals (intro hb; first | subst hb | fail_if_success (cases hb))) | (apply WC.condA; rfl; all_goals (intro hb; try subst hb)) | (apply WD.ask; rfl; all_goals (intro hb; first | subst hb | fail_if_success (cases hb))))
  all_goals first
    | (have h := hb.2 hmay; cases h; done)
    | exact absurd (hb.1 rfl) hmay
    | (have h := hb2.2 rfl; cases h; done)
    | exact ⟨trivial, [_], ⟨_, [], rfl, rfl, rfl⟩, rfl⟩
    | (have h0 := ‹false = true ↔ cmpP BinOp.eql last last›; simp [cmpP] at h0)
theorem t3 : tyOf Try.prog 3 = .int .i64 := by kernel_rfl
theorem t9 : tyOf Try.prog 9 = .str := by kernel_rfl
theorem t25 : tyOf Try.prog 25 = .int .u64 := by kernel_rfl
theorem t44 : tyOf Try.prog 44 = .sl 60 6 := by kernel_rfl
theorem t60 : tyOf Try.prog 60 = .st [(0, 1, 9), (1, 1, 9), (2, 1, 25), (3, 1, 25), (4, 1, 25), (5, 1, 25)] := by kernel_rfl
theorem ents_of {xs : List (List AV)} (h : ∀ (i : Nat) c, xs[i]? = some c → AllT [.str, .str, .int .u64, .int .u64, .int .u64, .int .u64] c) : ∃ l : List E, xs = l.map entC := by
  induction xs with
  | nil => exact ⟨[], rfl⟩
  | cons c xs ih =>
    obtain ⟨l, rfl⟩ := ih fun i c' h' => h (i + 1) c' (by simpa using h')
    obtain ⟨_, _, rfl, ⟨k, rfl⟩, _, _, rfl, ⟨v, rfl⟩, _, _, rfl, ⟨s, rfl⟩, _, _, rfl, ⟨lo, rfl⟩, _, _, rfl, ⟨mk, rfl⟩, _, _, rfl, ⟨ix, rfl⟩, rfl⟩ := h 0 c (by simp)
    exact ⟨⟨k, v, s, lo, mk, ix⟩ :: l, rfl⟩
theorem kvLoads_wf (B : Nat → List AV) (args : List AV) (h : ArgIs Try.prog B Try.f4.params.toList args) : WF B tab (.func 4) args [] fun v _ => v = .bool true := by
  rw [show Try.f4.params.toList = [3, 44, 25] from by kernel_rfl] at h
  match args, h with
  | [a, b, c], ⟨⟨n, cs, h, ha⟩, ⟨n2, ds, k, hb⟩, ⟨n3, es, j, hc⟩, _⟩ =>
    rw [show (shapeOf Try.prog 3).1 = false from by kernel_rfl] at ha
    rw [show (shapeOf Try.prog 44).1 = false from by kernel_rfl] at hb
    rw [show (shapeOf Try.prog 25).1 = false from by kernel_rfl] at hc
    simp only at ha hb hc
    obtain ⟨m, rfl, _⟩ := h.int t3
    obtain ⟨w, xs, rfl, k1, k2, k3⟩ := k.flat (cts := [.str, .str, .int .u64, .int .u64, .int .u64, .int .u64]) t44 t60 ⟨t9, t9, t25, t25, t25, t25, trivial⟩
    obtain ⟨last, rfl, j1, _⟩ := j.int t25
    obtain ⟨l, rfl⟩ := ents_of k2
    cases ha
    cases hb
    cases hc
    have e : IntKind.u64.min = 0 := by decide
    rw [e] at j1
    exact loads_ok k1 j1 (by simpa using k3)
end Go.Proofs.Ytlfhlkndccjejaa.KV
