/- What the functions do, shown by the logic. -/
import Derived.Test.YtgpnpcahcegadaaRoB
set_option linter.unusedSimpArgs false
set_option linter.unusedVariables false
set_option maxRecDepth 20000
namespace Go.Proofs.Ytgpnpcahcegadaa.RO
open Go.Proofs.Ytgpnpcahcegadaa.Abs
variable {B : Nat → List AV}
theorem RosAt.tk {H R R' : HL} {rp a1 a2 a3 M : Nat} {s : RS} {id : Nat} {o : AObj} (h : RosAt B H rp a1 a2 a3 M s R) (k : Tk R id o R') : ∃ R2, Tk H id o R2 ∧ ∀ o', RosAt B ((id, o') :: R2) rp a1 a2 a3 M s ((id, o') :: R') := by
  obtain ⟨xn, xs, xc, v1, v2, v3, h1, h2, h3, G, e1, e2, e3, o1, o2, o3, tg, q⟩ := h
  refine ⟨(a1, .row (tblC M v1 s.l1)) :: (a2, .row (tblC M v2 s.l2)) :: (a3, .row (tblC M v3 s.l3)) :: (rp, .row (rosC a1 a2 a3)) :: (h1 ++ (h2 ++ (h3 ++ (G ++ R')))), ?_, fun o' => ?_⟩
  · have hk : R.Perm ((id, o) :: R') := k
    refine q.trans (permF ?_)
    intro f
    have := sum_perm hk f
    simp only [List.map_cons, List.map_append, List.sum_cons, List.sum_append] at this ⊢
    omega
  · refine ⟨xn, xs, xc, v1, v2, v3, h1, h2, h3, G, e1, e2, e3, o1, o2, o3, tg, permF ?_⟩
    intro f
    simp only [List.map_cons, List.map_append, List.sum_cons, List.sum_append]
    omega
theorem put_le {V : Type} {M : Nat} {es : List (TE V)} {e : TE V} (hl : es.length ≤ M) (hr : Rise es) (hf : ¬ fullP M es e.key) : (putE es e).length ≤ M := by
  rcases put_len (es := es) (e := e) with h | h
  · rw [h]
    cases hq : findE es e.key with
    | some x => simp only; omega
    | none =>
      simp only
      have : ¬ M ≤ es.length := fun h2 => hf ⟨hq, h2⟩
      omega
  · exact absurd hr h
theorem rs_node {M : Nat} {s : RS} {node ix : Int} {addr : List Nat} (ok : RsOk M s) : RsOk M (nodeS M s node addr ix).1 := by
  unfold nodeS
  split
  · exact ok
  · split
    · exact ok
    · split
      · exact ok
      · rename_i hf
        exact ⟨ok.m1, ok.m2, put_le ok.n1 ok.r1 hf, ok.n2, ok.n3, rise_put ok.r1, ok.r2, ok.r3, ok.t⟩
theorem rs_service {M : Nat} {s : RS} {x : KS} {ix : Int} (ok : RsOk M s) : RsOk M (serviceS M s x ix).1 := by
  unfold serviceS
  split
  · exact ok
  · rename_i hw
    split
    · exact ok
    · rename_i hf
      have ht := (wrongS_zero (by simpa using hw)).2.2
      refine ⟨ok.m1, ok.m2, ok.n1, put_le ok.n2 ok.r2 hf, ok.n3, ok.r1, rise_put ok.r2, ok.r3, fun e he => ?_⟩
      rcases mem_put he with h | ⟨_, h⟩
      · exact ok.t e h
      · rw [h]; exact ht.1
theorem rs_check {M : Nat} {s : RS} {x : KC} {ix : Int} (ok : RsOk M s) : RsOk M (checkS M s x ix).1 := by
  unfold checkS
  split
  · exact ok
  · split
    · exact ok
    · rename_i hf
      exact ⟨ok.m1, ok.m2, ok.n1, ok.n2, put_le ok.n3 ok.r3 hf, ok.r1, ok.r2, rise_put ok.r3, ok.t⟩
theorem rs_zero {M : Nat} (h1 : 1 ≤ M) (h2 : M ≤ 64) : RsOk M rs0 := ⟨h1, h2, Nat.zero_le _, Nat.zero_le _, Nat.zero_le _, .nil, .nil, .nil, fun e he => by cases he⟩
/-- The loader's row. -/
def ldC (rp : Nat) (l1 l2 l3 : Int) (k1 k2 k3 : List Nat) (w : Bool) : List AV := [.ptr ⟨false, rp, 0⟩, .int .u64 l1, .int .u64 l2, .int .u64 l3, .str k1, .str k2, .str k3, .bool w]
theorem lay18_ok {H R : HL} {rp a1 a2 a3 M pl lp pn : Nat} {s : RS} {node ix : Int} {addr : List Nat} (ok : RsOk M s) (h : RosAt B H rp a1 a2 a3 M s R) (c1 : Ld B R ⟨false, pl, 0⟩ 1 [.ptr ⟨false, lp, 0⟩]) (c2 : Ld B R ⟨false, lp, 0⟩ 1 [.ptr ⟨false, rp, 0⟩])
    (c3 : Ld B R ⟨false, pn, 0⟩ 1 [.int .i64 node]) (c4 : Ld B R ⟨false, pn, 1⟩ 1 [.str addr]) :
    WF B tab (.func 18) [.int .u64 ix, .ptr ⟨false, pl, 0⟩, .ptr ⟨false, pn, 0⟩] H fun r H' => r = .int .i64 (.ofNat (nodeS M s node addr ix).2) ∧ RosAt B H' rp a1 a2 a3 M (nodeS M s node addr ix).1 R := by
  refine WF.lessP ?_
  refine WF.fn g18 rfl ?_
  repeat' (first
    | apply WOps.nil | apply WC.seq | apply WC.reg | apply WC.ret | apply WC.dreg | apply WD.nil | (apply WD.load; rfl; (first | (apply at1; exact rd_ld rfl (h.ld c1) rfl; rfl) | (apply at2; exact rd_ld rfl (h.ld c1) rfl; repeat' (first | exact same0 | (apply same1; exact rd_ld rfl (h.ld c1) rfl; rfl) | (apply same2; exact rd_ld rfl (h.ld c1) rfl))))) | (apply WD.load; rfl; (first | (apply at1; exact rd_ld rfl (h.ld c2) rfl; rfl) | (apply at2; exact rd_ld rfl (h.ld c2) rfl; repeat' (first | exact same0 | (apply same1; exact rd_ld rfl (h.ld c2) rfl; rfl) | (apply same2; exact rd_ld rfl (h.ld c2) rfl))))) | (apply WD.load; rfl; (first | (apply at1; exact rd_ld rfl (h.ld c3) rfl; rfl) | (apply at2; exact rd_ld rfl (h.ld c3) rfl; repeat' (first | exact same0 | (apply same1; exact rd_ld rfl (h.ld c3) rfl; rfl) | (apply same2; exact rd_ld rfl (h.ld c3) rfl))))) | (apply WD.load; rfl; (first | (apply at1; exact rd_ld rfl (h.ld c4) rfl; rfl) | (apply at2; exact rd_ld rfl (h.ld c4) rfl; repeat' (first | exact same0 | (apply same1; exact rd_ld rfl (h.ld c4) rfl; rfl) | (apply same2; exact rd_ld rfl (h.ld c4) rfl))))) | (apply WD.clA; rfl; rfl; exact node19_ok ok h; rintro _ H1 ⟨rfl, h1⟩) | (apply WOps.purG; rfl; (intro _; rfl)) | (apply WD.pur; rfl; (intro _; rfl)))
  exact ⟨trivial, [_], ⟨_, [], rfl, rfl, rfl⟩, H1, ⟨rfl, h1⟩, SubP.refl⟩
theorem lay21_ok {H R : HL} {rp a1 a2 a3 M pl lp pn : Nat} {s : RS} {x : KS} {tv : AV} {jm ji ix : Int} (ok : RsOk M s) (h : RosAt B H rp a1 a2 a3 M s R) (c1 : Ld B R ⟨false, pl, 0⟩ 1 [.ptr ⟨false, lp, 0⟩]) (c2 : Ld B R ⟨false, lp, 0⟩ 1 [.ptr ⟨false, rp, 0⟩])
    (c3 : Ld B R ⟨false, pn, 0⟩ 7 (svC x tv jm ji)) (hx : SvIs B H x tv) :
    WF B tab (.func 21) [.int .u64 ix, .ptr ⟨false, pl, 0⟩, .ptr ⟨false, pn, 0⟩] H fun r H' => r = .int .i64 (.ofNat (serviceS M s x ix).2) ∧ RosAt B H' rp a1 a2 a3 M (serviceS M s x ix).1 R := by
  refine WF.lessP ?_
  refine WF.fn g21 rfl ?_
  repeat' (first
    | apply WOps.nil | apply WC.seq | apply WC.reg | apply WC.ret | apply WC.dreg | apply WD.nil | (apply WD.load; rfl; (first | (apply at1; exact rd_ld rfl (h.ld c1) rfl; rfl) | (apply at2; exact rd_ld rfl (h.ld c1) rfl; repeat' (first | exact same0 | (apply same1; exact rd_ld rfl (h.ld c1) rfl; rfl) | (apply same2; exact rd_ld rfl (h.ld c1) rfl))))) | (apply WD.load; rfl; (first | (apply at1; exact rd_ld rfl (h.ld c2) rfl; rfl) | (apply at2; exact rd_ld rfl (h.ld c2) rfl; repeat' (first | exact same0 | (apply same1; exact rd_ld rfl (h.ld c2) rfl; rfl) | (apply same2; exact rd_ld rfl (h.ld c2) rfl))))) | (apply WD.load; rfl; (first | (apply at1; exact rd_ld rfl (h.ld c3) rfl; rfl) | (apply at2; exact rd_ld rfl (h.ld c3) rfl; repeat' (first | exact same0 | (apply same1; exact rd_ld rfl (h.ld c3) rfl; rfl) | (apply same2; exact rd_ld rfl (h.ld c3) rfl))))) | (apply WD.clA; rfl; rfl; exact service22_ok ok h hx; rintro _ H1 ⟨rfl, h1⟩) | (apply WOps.purG; rfl; (intro _; rfl)) | (apply WD.pur; rfl; (intro _; rfl)))
  exact ⟨trivial, [_], ⟨_, [], rfl, rfl, rfl⟩, H1, ⟨rfl, h1⟩, SubP.refl⟩
theorem lay23_ok {H R : HL} {rp a1 a2 a3 M pl lp pn : Nat} {s : RS} {x : KC} {jm ji ix : Int} (ok : RsOk M s) (h : RosAt B H rp a1 a2 a3 M s R) (c1 : Ld B R ⟨false, pl, 0⟩ 1 [.ptr ⟨false, lp, 0⟩]) (c2 : Ld B R ⟨false, lp, 0⟩ 1 [.ptr ⟨false, rp, 0⟩])
    (c3 : Ld B R ⟨false, pn, 0⟩ 7 (ckC x jm ji)) (hx : CkIs x) :
    WF B tab (.func 23) [.int .u64 ix, .ptr ⟨false, pl, 0⟩, .ptr ⟨false, pn, 0⟩] H fun r H' => r = .int .i64 (.ofNat (checkS M s x ix).2) ∧ RosAt B H' rp a1 a2 a3 M (checkS M s x ix).1 R := by
  refine WF.lessP ?_
  refine WF.fn g23 rfl ?_
  repeat' (first
    | apply WOps.nil | apply WC.seq | apply WC.reg | apply WC.ret | apply WC.dreg | apply WD.nil | (apply WD.load; rfl; (first | (apply at1; exact rd_ld rfl (h.ld c1) rfl; rfl) | (apply at2; exact rd_ld rfl (h.ld c1) rfl; repeat' (first | exact same0 | (apply same1; exact rd_ld rfl (h.ld c1) rfl; rfl) | (apply same2; exact rd_ld rfl (h.ld c1) rfl))))) | (apply WD.load; rfl; (first | (apply at1; exact rd_ld rfl (h.ld c2) rfl; rfl) | (apply at2; exact rd_ld rfl (h.ld c2) rfl; repeat' (first | exact same0 | (apply same1; exact rd_ld rfl (h.ld c2) rfl; rfl) | (apply same2; exact rd_ld rfl (h.ld c2) rfl))))) | (apply WD.load; rfl; (first | (apply at1; exact rd_ld rfl (h.ld c3) rfl; rfl) | (apply at2; exact rd_ld rfl (h.ld c3) rfl; repeat' (first | exact same0 | (apply same1; exact rd_ld rfl (h.ld c3) rfl; rfl) | (apply same2; exact rd_ld rfl (h.ld c3) rfl))))) | (apply WD.clA; rfl; rfl; exact check24_ok ok h hx; rintro _ H1 ⟨rfl, h1⟩) | (apply WOps.purG; rfl; (intro _; rfl)) | (apply WD.pur; rfl; (intro _; rfl)))
  exact ⟨trivial, [_], ⟨_, [], rfl, rfl, rfl⟩, H1, ⟨rfl, h1⟩, SubP.refl⟩
/-- What fits: how one more is laid. -/
def oneP (st : RS → Int → RS × Nat) (s : RS) (last : Int) (kp key : List Nat) (mk ix : Int) : Prop := strLess kp key = true ∧ mk ≤ ix ∧ ix ≤ last ∧ (st s mk).2 = 0 ∧ (st (st s mk).1 ix).2 = 0
theorem not_leq {a b : List Nat} (h : ¬ (strLess a b = true ∨ a = b)) : strLess b a = true := by
  simp only [not_or] at h
  cases hb : strLess b a with
  | true => rfl
  | false => exact absurd (less_total (Bool.eq_false_iff.2 h.1) hb) h.2
set_option maxHeartbeats 4000000 in
theorem one0_ok {H X : HL} {rp a1 a2 a3 M lp g : Nat} {s : RS} {cap : List AV} {l1 l2 l3 mk ix : Int} {k1 k2 k3 key : List Nat} {w : Bool} (st : RS → Int → RS × Nat) (ok : RsOk M s) (hst : ∀ s ix, RsOk M s → RsOk M (st s ix).1)
    (h : RosAt B H rp a1 a2 a3 M s ((lp, .row (ldC rp l1 l2 l3 k1 k2 k3 w)) :: X))
    (hy : ∀ s i H', RsOk M s → RosAt B H' rp a1 a2 a3 M s ((lp, .row (ldC rp l1 l2 l3 key k2 k3 w)) :: X) → WF B tab (.func g) ([] ++ ([.int .u64 i] ++ cap)) H' fun r H2 => r = .int .i64 (.ofNat (st s i).2) ∧ RosAt B H2 rp a1 a2 a3 M (st s i).1 ((lp, .row (ldC rp l1 l2 l3 key k2 k3 w)) :: X)) :
    WF B tab (.func 16) [.ptr ⟨false, lp, 0⟩, .int .i64 (.ofNat 0), .str key, .int .u64 mk, .int .u64 ix, .fn (.func g) [] cap] H fun _ H' => ∃ s' k' w', RsOk M s' ∧ RosAt B H' rp a1 a2 a3 M s' ((lp, .row (ldC rp l1 l2 l3 k' k2 k3 w')) :: X) ∧
      ((w = false ∧ w' = false ∧ oneP st s l1 k1 key mk ix ∧ s' = (st (st s mk).1 ix).1 ∧ k' = key) ∨ (w' = true ∧ ¬ (w = false ∧ oneP st s l1 k1 key mk ix))) := by
  refine WF.fn g16 rfl ?_
  obtain ⟨R2, tk, back⟩ := h.tk Tk.head
  have row : Ld B H ⟨false, lp, 0⟩ 8 (ldC rp l1 l2 l3 k1 k2 k3 w) := h.ld (Ld.own Tk.head rfl)
  have d7 : Ld B H ⟨false, lp, 7⟩ 1 [.bool w] := row.part 7 1 (by omega)
  have dk : Ld B H ⟨false, lp, 4⟩ 1 [.str k1] := row.part 4 1 (by omega)
  have dl : Ld B H ⟨false, lp, 1⟩ 1 [.int .u64 l1] := row.part 1 1 (by omega)
  cases w
  · repeat' (first
      | apply WOps.nil | apply WC.seq | apply WC.reg | apply WC.skip | apply WC.ret | (apply WC.condT; rfl) | (apply WOps.ldG; rfl; rfl; exact d7; rfl) | (apply WOps.ldG; rfl; rfl; exact dk; rfl) | (apply WOps.ldG; rfl; rfl; exact dl; rfl) | (apply WOps.st; rfl; rfl; exact tk; rfl; rfl; rfl) | (apply WOps.cmp; rfl; rfl; rfl; rfl; intro _ _) | (apply WOps.cmpT; rfl; rfl; rfl; rfl; intro _ _) | (apply WOps.purG; rfl; (intro _; rfl)) | (apply WOps.skp; rfl) | (apply WOps.ask; rfl; all_goals (intro hb; first | subst hb | fail_if_success (cases hb))) | (apply WC.condA; rfl; all_goals (intro hb; try subst hb)))
    · have q := ‹true = true ↔ cmpS BinOp.leq _ _›.1 rfl
      exact ⟨trivial, [], rfl, s, _, true, ok, back _, .inr ⟨rfl, fun p => by
        rcases q with q | q
        · exact less_asymm p.2.1 q
        · have := p.2.1; rw [q, less_irr] at this; cases this⟩⟩
    · have q := ‹true = true ↔ cmpP BinOp.gtr mk ix›.1 rfl
      simp only [cmpP] at q
      exact ⟨trivial, [], rfl, s, _, true, ok, back _, .inr ⟨rfl, fun p => by have := p.2.2.1; omega⟩⟩
    · have q := ‹true = true ↔ cmpP BinOp.gtr ix l1›.1 rfl
      simp only [cmpP] at q
      exact ⟨trivial, [], rfl, s, _, true, ok, back _, .inr ⟨rfl, fun p => by have := p.2.2.2.1; omega⟩⟩
    have q1 := not_leq (eq_of_ff ‹false = true ↔ cmpS BinOp.leq _ _›)
    have q2 := eq_of_ff ‹false = true ↔ cmpP BinOp.gtr mk ix›
    have q3 := eq_of_ff ‹false = true ↔ cmpP BinOp.gtr ix l1›
    simp only [cmpP] at q2 q3
    repeat' (first
      | (apply WOps.cvA; rfl; rfl; rfl; exact hy s mk _ ok (back _); rintro _ H1 ⟨rfl, h1⟩) | (apply WOps.cvA; rfl; rfl; rfl; exact hy _ ix _ (hst s mk ok) h1; rintro _ H2 ⟨rfl, h2⟩) | (apply WOps.cmp; rfl; rfl; rfl; rfl; intro _ _) | (apply WOps.purG; rfl; (intro _; rfl)) | (apply WOps.skp; rfl) | (apply WOps.ask; rfl; all_goals (intro hb; first | subst hb | fail_if_success (cases hb))))
    · have e1 := ‹true = true ↔ cmpP BinOp.neq _ _›.1 rfl
      simp only [cmpP, Int.ofNat_eq_natCast] at e1
      obtain ⟨R3, tk3, back3⟩ := h1.tk Tk.head
      refine WOps.st rfl rfl tk3 rfl rfl rfl ?_
      repeat' (first
        | apply WOps.nil)
      exact ⟨trivial, [], rfl, _, _, true, hst s mk ok, back3 _, .inr ⟨rfl, fun p => by have := p.2.2.2.2.1; omega⟩⟩
    · have e1 := eq_of_ff ‹false = true ↔ cmpP BinOp.neq (Int.ofNat (st s mk).2) _›
      simp only [cmpP, Int.ofNat_eq_natCast] at e1
      rename_i v hv
      obtain ⟨R3, tk3, back3⟩ := h2.tk Tk.head
      refine WOps.st rfl rfl tk3 rfl rfl rfl ?_
      repeat' (first
        | apply WOps.nil)
      refine ⟨trivial, [], rfl, _, _, v, hst _ ix (hst s mk ok), back3 _, ?_⟩
      cases v
      · have e2 := eq_of_ff hv
        simp only [cmpP, Int.ofNat_eq_natCast] at e2
        exact .inl ⟨rfl, rfl, ⟨q1, by omega, by omega, by omega, by omega⟩, rfl, rfl⟩
      · have e2 := hv.1 rfl
        simp only [cmpP, Int.ofNat_eq_natCast] at e2
        exact .inr ⟨rfl, fun p => by have := p.2.2.2.2.2; omega⟩
  · repeat' (first
      | apply WOps.nil | apply WC.seq | apply WC.reg | apply WC.ret | (apply WC.condT; rfl) | (apply WOps.ldG; rfl; rfl; exact d7; rfl) | (apply WOps.st; rfl; rfl; exact tk; rfl; rfl; rfl) | (apply WOps.purG; rfl; (intro _; rfl)) | (apply WOps.skp; rfl))
    exact ⟨trivial, [], rfl, s, _, true, ok, back _, .inr ⟨rfl, fun q => by cases q.1⟩⟩
set_option maxHeartbeats 4000000 in
theorem one1_ok {H X : HL} {rp a1 a2 a3 M lp g : Nat} {s : RS} {cap : List AV} {l1 l2 l3 mk ix : Int} {k1 k2 k3 key : List Nat} {w : Bool} (st : RS → Int → RS × Nat) (ok : RsOk M s) (hst : ∀ s ix, RsOk M s → RsOk M (st s ix).1)
    (h : RosAt B H rp a1 a2 a3 M s ((lp, .row (ldC rp l1 l2 l3 k1 k2 k3 w)) :: X))
    (hy : ∀ s i H', RsOk M s → RosAt B H' rp a1 a2 a3 M s ((lp, .row (ldC rp l1 l2 l3 k1 key k3 w)) :: X) → WF B tab (.func g) ([] ++ ([.int .u64 i] ++ cap)) H' fun r H2 => r = .int .i64 (.ofNat (st s i).2) ∧ RosAt B H2 rp a1 a2 a3 M (st s i).1 ((lp, .row (ldC rp l1 l2 l3 k1 key k3 w)) :: X)) :
    WF B tab (.func 16) [.ptr ⟨false, lp, 0⟩, .int .i64 (.ofNat 1), .str key, .int .u64 mk, .int .u64 ix, .fn (.func g) [] cap] H fun _ H' => ∃ s' k' w', RsOk M s' ∧ RosAt B H' rp a1 a2 a3 M s' ((lp, .row (ldC rp l1 l2 l3 k1 k' k3 w')) :: X) ∧
      ((w = false ∧ w' = false ∧ oneP st s l2 k2 key mk ix ∧ s' = (st (st s mk).1 ix).1 ∧ k' = key) ∨ (w' = true ∧ ¬ (w = false ∧ oneP st s l2 k2 key mk ix))) := by
  refine WF.fn g16 rfl ?_
  obtain ⟨R2, tk, back⟩ := h.tk Tk.head
  have row : Ld B H ⟨false, lp, 0⟩ 8 (ldC rp l1 l2 l3 k1 k2 k3 w) := h.ld (Ld.own Tk.head rfl)
  have d7 : Ld B H ⟨false, lp, 7⟩ 1 [.bool w] := row.part 7 1 (by omega)
  have dk : Ld B H ⟨false, lp, 5⟩ 1 [.str k2] := row.part 5 1 (by omega)
  have dl : Ld B H ⟨false, lp, 2⟩ 1 [.int .u64 l2] := row.part 2 1 (by omega)
  cases w
  · repeat' (first
      | apply WOps.nil | apply WC.seq | apply WC.reg | apply WC.skip | apply WC.ret | (apply WC.condT; rfl) | (apply WOps.ldG; rfl; rfl; exact d7; rfl) | (apply WOps.ldG; rfl; rfl; exact dk; rfl) | (apply WOps.ldG; rfl; rfl; exact dl; rfl) | (apply WOps.st; rfl; rfl; exact tk; rfl; rfl; rfl) | (apply WOps.cmp; rfl; rfl; rfl; rfl; intro _ _) | (apply WOps.cmpT; rfl; rfl; rfl; rfl; intro _ _) | (apply WOps.purG; rfl; (intro _; rfl)) | (apply WOps.skp; rfl) | (apply WOps.ask; rfl; all_goals (intro hb; first | subst hb | fail_if_success (cases hb))) | (apply WC.condA; rfl; all_goals (intro hb; try subst hb)))
    · have q := ‹true = true ↔ cmpS BinOp.leq _ _›.1 rfl
      exact ⟨trivial, [], rfl, s, _, true, ok, back _, .inr ⟨rfl, fun p => by
        rcases q with q | q
        · exact less_asymm p.2.1 q
        · have := p.2.1; rw [q, less_irr] at this; cases this⟩⟩
    · have q := ‹true = true ↔ cmpP BinOp.gtr mk ix›.1 rfl
      simp only [cmpP] at q
      exact ⟨trivial, [], rfl, s, _, true, ok, back _, .inr ⟨rfl, fun p => by have := p.2.2.1; omega⟩⟩
    · have q := ‹true = true ↔ cmpP BinOp.gtr ix l2›.1 rfl
      simp only [cmpP] at q
      exact ⟨trivial, [], rfl, s, _, true, ok, back _, .inr ⟨rfl, fun p => by have := p.2.2.2.1; omega⟩⟩
    have q1 := not_leq (eq_of_ff ‹false = true ↔ cmpS BinOp.leq _ _›)
    have q2 := eq_of_ff ‹false = true ↔ cmpP BinOp.gtr mk ix›
    have q3 := eq_of_ff ‹false = true ↔ cmpP BinOp.gtr ix l2›
    simp only [cmpP] at q2 q3
    repeat' (first
      | (apply WOps.cvA; rfl; rfl; rfl; exact hy s mk _ ok (back _); rintro _ H1 ⟨rfl, h1⟩) | (apply WOps.cvA; rfl; rfl; rfl; exact hy _ ix _ (hst s mk ok) h1; rintro _ H2 ⟨rfl, h2⟩) | (apply WOps.cmp; rfl; rfl; rfl; rfl; intro _ _) | (apply WOps.purG; rfl; (intro _; rfl)) | (apply WOps.skp; rfl) | (apply WOps.ask; rfl; all_goals (intro hb; first | subst hb | fail_if_success (cases hb))))
    · have e1 := ‹true = true ↔ cmpP BinOp.neq _ _›.1 rfl
      simp only [cmpP, Int.ofNat_eq_natCast] at e1
      obtain ⟨R3, tk3, back3⟩ := h1.tk Tk.head
      refine WOps.st rfl rfl tk3 rfl rfl rfl ?_
      repeat' (first
        | apply WOps.nil)
      exact ⟨trivial, [], rfl, _, _, true, hst s mk ok, back3 _, .inr ⟨rfl, fun p => by have := p.2.2.2.2.1; omega⟩⟩
    · have e1 := eq_of_ff ‹false = true ↔ cmpP BinOp.neq (Int.ofNat (st s mk).2) _›
      simp only [cmpP, Int.ofNat_eq_natCast] at e1
      rename_i v hv
      obtain ⟨R3, tk3, back3⟩ := h2.tk Tk.head
      refine WOps.st rfl rfl tk3 rfl rfl rfl ?_
      repeat' (first
        | apply WOps.nil)
      refine ⟨trivial, [], rfl, _, _, v, hst _ ix (hst s mk ok), back3 _, ?_⟩
      cases v
      · have e2 := eq_of_ff hv
        simp only [cmpP, Int.ofNat_eq_natCast] at e2
        exact .inl ⟨rfl, rfl, ⟨q1, by omega, by omega, by omega, by omega⟩, rfl, rfl⟩
      · have e2 := hv.1 rfl
        simp only [cmpP, Int.ofNat_eq_natCast] at e2
        exact .inr ⟨rfl, fun p => by have := p.2.2.2.2.2; omega⟩
  · repeat' (first
      | apply WOps.nil | apply WC.seq | apply WC.reg | apply WC.ret | (apply WC.condT; rfl) | (apply WOps.ldG; rfl; rfl; exact d7; rfl) | (apply WOps.st; rfl; rfl; exact tk; rfl; rfl; rfl) | (apply WOps.purG; rfl; (intro _; rfl)) | (apply WOps.skp; rfl))
    exact ⟨trivial, [], rfl, s, _, true, ok, back _, .inr ⟨rfl, fun q => by cases q.1⟩⟩
set_option maxHeartbeats 4000000 in
theorem one2_ok {H X : HL} {rp a1 a2 a3 M lp g : Nat} {s : RS} {cap : List AV} {l1 l2 l3 mk ix : Int} {k1 k2 k3 key : List Nat} {w : Bool} (st : RS → Int → RS × Nat) (ok : RsOk M s) (hst : ∀ s ix, RsOk M s → RsOk M (st s ix).1)
    (h : RosAt B H rp a1 a2 a3 M s ((lp, .row (ldC rp l1 l2 l3 k1 k2 k3 w)) :: X))
    (hy : ∀ s i H', RsOk M s → RosAt B H' rp a1 a2 a3 M s ((lp, .row (ldC rp l1 l2 l3 k1 k2 key w)) :: X) → WF B tab (.func g) ([] ++ ([.int .u64 i] ++ cap)) H' fun r H2 => r = .int .i64 (.ofNat (st s i).2) ∧ RosAt B H2 rp a1 a2 a3 M (st s i).1 ((lp, .row (ldC rp l1 l2 l3 k1 k2 key w)) :: X)) :
    WF B tab (.func 16) [.ptr ⟨false, lp, 0⟩, .int .i64 (.ofNat 2), .str key, .int .u64 mk, .int .u64 ix, .fn (.func g) [] cap] H fun _ H' => ∃ s' k' w', RsOk M s' ∧ RosAt B H' rp a1 a2 a3 M s' ((lp, .row (ldC rp l1 l2 l3 k1 k2 k' w')) :: X) ∧
      ((w = false ∧ w' = false ∧ oneP st s l3 k3 key mk ix ∧ s' = (st (st s mk).1 ix).1 ∧ k' = key) ∨ (w' = true ∧ ¬ (w = false ∧ oneP st s l3 k3 key mk ix))) := by
  refine WF.fn g16 rfl ?_
  obtain ⟨R2, tk, back⟩ := h.tk Tk.head
  have row : Ld B H ⟨false, lp, 0⟩ 8 (ldC rp l1 l2 l3 k1 k2 k3 w) := h.ld (Ld.own Tk.head rfl)
  have d7 : Ld B H ⟨false, lp, 7⟩ 1 [.bool w] := row.part 7 1 (by omega)
  have dk : Ld B H ⟨false, lp, 6⟩ 1 [.str k3] := row.part 6 1 (by omega)
  have dl : Ld B H ⟨false, lp, 3⟩ 1 [.int .u64 l3] := row.part 3 1 (by omega)
  cases w
  · repeat' (first
      | apply WOps.nil | apply WC.seq | apply WC.reg | apply WC.skip | apply WC.ret | (apply WC.condT; rfl) | (apply WOps.ldG; rfl; rfl; exact d7; rfl) | (apply WOps.ldG; rfl; rfl; exact dk; rfl) | (apply WOps.ldG; rfl; rfl; exact dl; rfl) | (apply WOps.st; rfl; rfl; exact tk; rfl; rfl; rfl) | (apply WOps.cmp; rfl; rfl; rfl; rfl; intro _ _) | (apply WOps.cmpT; rfl; rfl; rfl; rfl; intro _ _) | (apply WOps.purG; rfl; (intro _; rfl)) | (apply WOps.skp; rfl) | (apply WOps.ask; rfl; all_goals (intro hb; first | subst hb | fail_if_success (cases hb))) | (apply WC.condA; rfl; all_goals (intro hb; try subst hb)))
    · have q := ‹true = true ↔ cmpS BinOp.leq _ _›.1 rfl
      exact ⟨trivial, [], rfl, s, _, true, ok, back _, .inr ⟨rfl, fun p => by
        rcases q with q | q
        · exact less_asymm p.2.1 q
        · have := p.2.1; rw [q, less_irr] at this; cases this⟩⟩
    · have q := ‹true = true ↔ cmpP BinOp.gtr mk ix›.1 rfl
      simp only [cmpP] at q
      exact ⟨trivial, [], rfl, s, _, true, ok, back _, .inr ⟨rfl, fun p => by have := p.2.2.1; omega⟩⟩
    · have q := ‹true = true ↔ cmpP BinOp.gtr ix l3›.1 rfl
      simp only [cmpP] at q
      exact ⟨trivial, [], rfl, s, _, true, ok, back _, .inr ⟨rfl, fun p => by have := p.2.2.2.1; omega⟩⟩
    have q1 := not_leq (eq_of_ff ‹false = true ↔ cmpS BinOp.leq _ _›)
    have q2 := eq_of_ff ‹false = true ↔ cmpP BinOp.gtr mk ix›
    have q3 := eq_of_ff ‹false = true ↔ cmpP BinOp.gtr ix l3›
    simp only [cmpP] at q2 q3
    repeat' (first
      | (apply WOps.cvA; rfl; rfl; rfl; exact hy s mk _ ok (back _); rintro _ H1 ⟨rfl, h1⟩) | (apply WOps.cvA; rfl; rfl; rfl; exact hy _ ix _ (hst s mk ok) h1; rintro _ H2 ⟨rfl, h2⟩) | (apply WOps.cmp; rfl; rfl; rfl; rfl; intro _ _) | (apply WOps.purG; rfl; (intro _; rfl)) | (apply WOps.skp; rfl) | (apply WOps.ask; rfl; all_goals (intro hb; first | subst hb | fail_if_success (cases hb))))
    · have e1 := ‹true = true ↔ cmpP BinOp.neq _ _›.1 rfl
      simp only [cmpP, Int.ofNat_eq_natCast] at e1
      obtain ⟨R3, tk3, back3⟩ := h1.tk Tk.head
      refine WOps.st rfl rfl tk3 rfl rfl rfl ?_
      repeat' (first
        | apply WOps.nil)
      exact ⟨trivial, [], rfl, _, _, true, hst s mk ok, back3 _, .inr ⟨rfl, fun p => by have := p.2.2.2.2.1; omega⟩⟩
    · have e1 := eq_of_ff ‹false = true ↔ cmpP BinOp.neq (Int.ofNat (st s mk).2) _›
      simp only [cmpP, Int.ofNat_eq_natCast] at e1
      rename_i v hv
      obtain ⟨R3, tk3, back3⟩ := h2.tk Tk.head
      refine WOps.st rfl rfl tk3 rfl rfl rfl ?_
      repeat' (first
        | apply WOps.nil)
      refine ⟨trivial, [], rfl, _, _, v, hst _ ix (hst s mk ok), back3 _, ?_⟩
      cases v
      · have e2 := eq_of_ff hv
        simp only [cmpP, Int.ofNat_eq_natCast] at e2
        exact .inl ⟨rfl, rfl, ⟨q1, by omega, by omega, by omega, by omega⟩, rfl, rfl⟩
      · have e2 := hv.1 rfl
        simp only [cmpP, Int.ofNat_eq_natCast] at e2
        exact .inr ⟨rfl, fun p => by have := p.2.2.2.2.2; omega⟩
  · repeat' (first
      | apply WOps.nil | apply WC.seq | apply WC.reg | apply WC.ret | (apply WC.condT; rfl) | (apply WOps.ldG; rfl; rfl; exact d7; rfl) | (apply WOps.st; rfl; rfl; exact tk; rfl; rfl; rfl) | (apply WOps.purG; rfl; (intro _; rfl)) | (apply WOps.skp; rfl))
    exact ⟨trivial, [], rfl, s, _, true, ok, back _, .inr ⟨rfl, fun q => by cases q.1⟩⟩
theorem WC.cut2 {T : Tr FnI} {nt : Nat} {rdn : Option Nat} {t : EL} {H : HL} {Q : AExit → EL → HL → Prop} {X : Type} {a b : AC} (ts : X → EL) (hs : X → HL) (P : X → Prop)
    (w : WC B T nt rdn a t H fun ex t' H' => match ex with | .normal => ∃ x, Sub1 (ts x) t' ∧ SubP (hs x) H' ∧ P x | .jump j => Q (.jump j) t' H')
    (k : ∀ x, P x → WC B T nt rdn b (ts x) (hs x) Q) : WC B T nt rdn (.seq a b) t H Q := WC.seq (WC.mono w (by
  intro ex t' H' h
  cases ex with
  | normal => obtain ⟨x, h1, h2, h3⟩ := h; exact WC.le h1 (WC.lessP h2 (k x h3))
  | jump j => exact h))
theorem SubP.trans {A C H : HL} (h : SubP A C) (k : SubP C H) : SubP A H := by
  obtain ⟨G, p⟩ := h
  obtain ⟨X, q⟩ := k
  exact ⟨G ++ X, q.trans ((p.append_right X).trans (List.Perm.of_eq (by simp)))⟩
theorem RosAt.sub {H R : HL} {rp a1 a2 a3 M : Nat} {s : RS} (h : RosAt B H rp a1 a2 a3 M s R) : SubP R H := by
  obtain ⟨xn, ys, xc, v1, v2, v3, h1, h2, h3, G, e1, e2, e3, o1, o2, o3, tg, q⟩ := h
  refine ⟨(a1, .row (tblC M v1 s.l1)) :: (a2, .row (tblC M v2 s.l2)) :: (a3, .row (tblC M v3 s.l3)) :: (rp, .row (rosC a1 a2 a3)) :: (h1 ++ (h2 ++ (h3 ++ G))), q.trans (permF ?_)⟩
  intro f
  simp only [List.map_cons, List.map_append, List.sum_cons, List.sum_append]
  omega
theorem raiseN_ok {H R : HL} {rp a1 a2 a3 M : Nat} {s : RS} {ix : Int} (ok : RsOk M s) (h : RosAt B H rp a1 a2 a3 M s R) : WF B tab (.func 25) [.ptr ⟨false, a1, 0⟩, .int .u64 ix] H fun r H' => RosAt B H' rp a1 a2 a3 M { s with l1 := maxI s.l1 ix } R := by
  obtain ⟨xn, R1, e1, t, back⟩ := h.n
  refine WF.mono (raise25_at ok.m1 t) fun r H' t1 => ?_
  have := back H' [] xn _ t1
  rw [e1] at this
  exact this
theorem raiseS_ok {H R : HL} {rp a1 a2 a3 M : Nat} {s : RS} {ix : Int} (ok : RsOk M s) (h : RosAt B H rp a1 a2 a3 M s R) : WF B tab (.func 26) [.ptr ⟨false, a2, 0⟩, .int .u64 ix] H fun r H' => RosAt B H' rp a1 a2 a3 M { s with l2 := maxI s.l2 ix } R := by
  obtain ⟨xn, G, R1, e1, tg, t, back⟩ := h.s
  refine WF.mono (raise26_at ok.m1 t) fun r H' t1 => ?_
  have := back H' [] G xn _ tg t1
  rw [e1] at this
  exact this
theorem raiseC_ok {H R : HL} {rp a1 a2 a3 M : Nat} {s : RS} {ix : Int} (ok : RsOk M s) (h : RosAt B H rp a1 a2 a3 M s R) : WF B tab (.func 27) [.ptr ⟨false, a3, 0⟩, .int .u64 ix] H fun r H' => RosAt B H' rp a1 a2 a3 M { s with l3 := maxI s.l3 ix } R := by
  obtain ⟨xn, R1, e1, t, back⟩ := h.c
  refine WF.mono (raise27_at ok.m1 t) fun r H' t1 => ?_
  have := back H' [] xn _ t1
  rw [e1] at this
  exact this
noncomputable def stN (M : Nat) (e : TE KN) (s : RS) (ix : Int) : RS × Nat := by classical exact nodeS M s e.v.node e.v.addr ix
noncomputable def stS (M : Nat) (e : TE KS) (s : RS) (ix : Int) : RS × Nat := by classical exact serviceS M s e.v ix
noncomputable def stC (M : Nat) (e : TE KC) (s : RS) (ix : Int) : RS × Nat := by classical exact checkS M s e.v ix
def keyE (e : TE KS) : List Nat := keyS e.v.node.toNat e.v.id
open Classical in
noncomputable def loadN (M : Nat) (last : Int) : List (TE KN) → RS → List Nat → Option RS
  | [], s, _ => some s
  | e :: r, s, kp => if (0 ≤ e.v.node ∧ e.v.node < 8) ∧ oneP (stN M e) s last kp (keyN e.v.node.toNat) e.mke e.ix then loadN M last r (stN M e (stN M e s e.mke).1 e.ix).1 (keyN e.v.node.toNat) else none
open Classical in
noncomputable def loadS (M : Nat) (last : Int) : List (TE KS) → RS → List Nat → Option RS
  | [], s, _ => some s
  | e :: r, s, kp => if (0 ≤ e.v.node ∧ e.v.node < 8) ∧ oneP (stS M e) s last kp (keyS e.v.node.toNat e.v.id) e.mke e.ix then loadS M last r (stS M e (stS M e s e.mke).1 e.ix).1 (keyS e.v.node.toNat e.v.id) else none
open Classical in
noncomputable def loadC (M : Nat) (last : Int) : List (TE KC) → RS → List Nat → Option RS
  | [], s, _ => some s
  | e :: r, s, kp => if (0 ≤ e.v.node ∧ e.v.node < 8) ∧ oneP (stC M e) s last kp (keyS e.v.node.toNat e.v.id) e.mke e.ix then loadC M last r (stC M e (stC M e s e.mke).1 e.ix).1 (keyS e.v.node.toNat e.v.id) else none
theorem RosAt.tgi {H R : HL} {rp a1 a2 a3 M : Nat} {s : RS} {a : AV} {l : List (List Nat)} (h : RosAt B H rp a1 a2 a3 M s R) (k : TgIn B R a l) : TgIn B H a l := by
  obtain ⟨xn, ys, xc, v1, v2, v3, h1, h2, h3, G, e1, e2, e3, o1, o2, o3, tg, q⟩ := h
  exact TgIn.perm q (TgIn.cons (TgIn.cons (TgIn.cons (TgIn.cons (TgIn.right (TgIn.right (TgIn.right (TgIn.right k))))))))
set_option maxHeartbeats 8000000 in
theorem load4_ok {H0 : HL} {most l1 l2 l3 : Int} {vn vs vc : AV} {nl : List (TE KN)} {sl : List (TE KS × AV)} {cl : List (TE KC)} (hn : SlIs B H0 vn 4 (nl.map entN)) (hs : SlIs B H0 vs 7 (sl.map fun p => entS p.1 p.2)) (hc : SlIs B H0 vc 7 (cl.map entC))
    (ln : nl.length ≤ 9223372036854775807) (ls : sl.length ≤ 9223372036854775807) (lc : cl.length ≤ 9223372036854775807)
    (os : ∀ p, p ∈ sl → TgIn B H0 p.2 p.1.v.tags ∧ p.1.v.tags.length ≤ 8796093021952 ∧ p.1.v.id.length ≤ 140737488351232 ∧ p.1.v.name.length ≤ 140737488351232 ∧ shortL p.1.v.tags) (oc : ∀ e, e ∈ cl → CkIs e.v) :
    WF B tab (.func 4) [.int .i64 most, vn, vs, vc, .agg [.int .u64 l1, .int .u64 l2, .int .u64 l3]] H0 fun r H' =>
      match ((loadN (mostOf most) l1 nl rs0 []).bind fun s => loadS (mostOf most) l2 (sl.map (·.1)) s []).bind fun s => loadC (mostOf most) l3 cl s [] with
      | none => r = .tup [.nilp, .int .i64 (.ofNat 2)] ∧ H' = H0
      | some s => ∃ rp a1 a2 a3, r = .tup [.ptr ⟨false, rp, 0⟩, .int .i64 (.ofNat 0)] ∧ RosAt B H' rp a1 a2 a3 (mostOf most) { s with l1 := maxI s.l1 l1, l2 := maxI s.l2 l2, l3 := maxI s.l3 l3 } H0 := by
  refine WF.lessP ?_
  refine WF.fn g4 rfl ?_
  have hM1 := mostOf_ge most
  have hM2 := mostOf_le most
  have cn := hn.cell
  have cs := hs.cell
  have cc := hc.cell
  refine WC.seq (WC.reg ?_)
  repeat' (first
    | apply WOps.nil | (apply WOps.bx; rfl; rfl; (first | rfl | ((repeat' (first | exact ac0 | apply ac1)) <;> (first | rfl | assumption))); intro _) | (apply WOps.purG; rfl; (intro _; rfl)))
  refine WC.seq (WC.dreg ?_)
  repeat' (first
    | apply WD.nil | (apply WD.st; rfl; rfl; rfl; (first | exact tk0 | exact tk1 | exact tk2); rfl; (first | rfl | ((repeat' (first | exact ac0 | apply ac1)) <;> (first | rfl | assumption))); rfl) | (apply WD.alc; rfl; rfl; intro _) | (apply WD.clA; rfl; rfl; exact new14_ok _; rintro _ H1 ⟨rp, a1, a2, a3, rfl, h1⟩) | (apply WD.bx; rfl; rfl; rfl; rfl; intro _) | (apply WD.load; rfl; (first | (apply at1; exact rd_ld rfl ((by first | exact h1.ld (Ld.own Tk.head rfl) | exact Ld.own Tk.head rfl)) rfl; rfl) | (apply at2; exact rd_ld rfl ((by first | exact h1.ld (Ld.own Tk.head rfl) | exact Ld.own Tk.head rfl)) rfl; repeat' (first | exact same0 | (apply same1; exact rd_ld rfl ((by first | exact h1.ld (Ld.own Tk.head rfl) | exact Ld.own Tk.head rfl)) rfl; rfl) | (apply same2; exact rd_ld rfl ((by first | exact h1.ld (Ld.own Tk.head rfl) | exact Ld.own Tk.head rfl)) rfl))))) | (apply WD.pur; rfl; (intro _; rfl)))
  rename_i p9 lp p12
  generalize mostOf most = M at *
  have hX : RosAt B ((p12, .row [.ptr ⟨false, lp, 0⟩]) :: (lp, .row (ldC rp l1 l2 l3 [] [] [] false)) :: H1) rp a1 a2 a3 M rs0 ((lp, .row (ldC rp l1 l2 l3 [] [] [] false)) :: (p12, .row [.ptr ⟨false, lp, 0⟩]) :: (p9, .row [.int .u64 l1, .int .u64 l2, .int .u64 l3]) :: H0) := (h1.cons.cons).permR (List.Perm.swap _ _ _)
  refine WC.cut2 (X := HL × RS × List Nat × Bool) (fun _ => [(2, vs), (3, vc), (9, .ptr ⟨false, p9, 0⟩), (12, .ptr ⟨false, p12, 0⟩)]) (fun x => x.1) (fun x => RsOk M x.2.1 ∧ RosAt B x.1 rp a1 a2 a3 M x.2.1 ((lp, .row (ldC rp l1 l2 l3 x.2.2.1 [] [] x.2.2.2)) :: (p12, .row [.ptr ⟨false, lp, 0⟩]) :: (p9, .row [.int .u64 l1, .int .u64 l2, .int .u64 l3]) :: H0) ∧
    ((x.2.2.2 = false ∧ loadN M l1 nl rs0 [] = some x.2.1) ∨ (x.2.2.2 = true ∧ loadN M l1 nl rs0 [] = none))) ?_ ?_
  · have hsl := hX.sl (SlIs.cons (SlIs.cons (SlIs.cons hn)))
    repeat' (first
      | apply WOps.nil | apply WC.seq | apply WC.reg | apply WC.block | (apply WOps.lenS; rfl; rfl; exact hsl) | (apply WOps.purG; rfl; (intro _; rfl)))
    rw [List.length_map]
    refine WC.loop ?_
    obtain ⟨i, hi⟩ : ∃ i : Nat, i = 0 := ⟨0, rfl⟩
    obtain ⟨H, s, k, w, hH, hX, ok, J⟩ : ∃ (H : HL) (s : RS) (k : List Nat) (w : Bool), ((p12, .row [.ptr ⟨false, lp, 0⟩]) :: (lp, .row (ldC rp l1 l2 l3 [] [] [] false)) :: H1) = H ∧ RosAt B H rp a1 a2 a3 M s ((lp, .row (ldC rp l1 l2 l3 k [] [] w)) :: (p12, .row [.ptr ⟨false, lp, 0⟩]) :: (p9, .row [.int .u64 l1, .int .u64 l2, .int .u64 l3]) :: H0) ∧ RsOk M s ∧ ((w = false ∧ loadN M l1 nl rs0 [] = loadN M l1 (nl.drop i) s k) ∨ (w = true ∧ loadN M l1 nl rs0 [] = none)) := ⟨_, rs0, [], false, rfl, hX, rs_zero hM1 hM2, .inl ⟨rfl, by subst hi; rfl⟩⟩
    refine WL.heq (H' := H) hH ?_
    refine WL.le (t' := [(2, vs), (3, vc), (9, .ptr ⟨false, p9, 0⟩), (12, .ptr ⟨false, p12, 0⟩), (24, vn), (25, .int .i64 (.ofNat nl.length)), (26, .int .i64 (.ofNat i))]) (by subst hi; exact Sub1.cons rfl (Sub1.cons rfl (Sub1.cons rfl (Sub1.cons rfl (Sub1.cons rfl (Sub1.cons rfl (Sub1.cons rfl (Sub1.nil)))))))) ?_
    have hle : i ≤ nl.length := by omega
    clear hi hH hsl
    induction hm : nl.length - i using Nat.strongRecOn generalizing i H s k w with | _ q ih => ?_
    have hsl := hX.sl (SlIs.cons (SlIs.cons (SlIs.cons hn)))
    apply WL.step
    repeat' (first
      | apply WOps.nil | apply WC.seq | apply WC.reg | apply WC.skip | apply WC.exit | apply WC.block | (apply WOps.cmp; rfl; rfl; rfl; rfl; intro _ _) | (apply WC.condA; rfl; all_goals (intro hb; try subst hb)))
    · have hlt : i < nl.length := by
        have h0 := ‹true = true ↔ cmpP BinOp.lss (Int.ofNat i) (Int.ofNat nl.length)›
        simp [cmpP] at h0; omega
      have hcm : (nl.map entN)[i]? = some (entN nl[i]) := by rw [List.getElem?_map, List.getElem?_eq_getElem hlt]; rfl
      have hdr : nl.drop i = nl[i] :: nl.drop (i + 1) := List.drop_eq_getElem_cons hlt
      rw [hdr] at J
      skip
      obtain ⟨e, he⟩ : ∃ e, e = nl[i] := ⟨_, rfl⟩
      rw [← he] at hcm J
      obtain ⟨ek, ⟨node, addr⟩, mk, ix⟩ := e
      skip
      repeat' (first
        | apply WOps.nil | apply WC.seq | apply WC.reg | apply WC.skip | apply WC.ret | (apply WC.condT; rfl) | (apply WC.condF; rfl) | apply WC.dreg | (apply WOps.ldG; rfl; rfl; (first | exact ld0 rfl | exact ld1 rfl | exact ld2 rfl); rfl) | (apply WOps.st; rfl; rfl; (first | exact tk0 | exact tk1 | exact tk2); rfl; (first | rfl | ((repeat' (first | exact ac0 | apply ac1)) <;> (first | rfl | assumption))); rfl) | (apply WOps.alc; rfl; intro _) | (apply WOps.ixSl; rfl; rfl; rfl; exact hsl; exact hcm; intro ax hax) | (apply WOps.ldG; rfl; rfl; exact hax; rfl) | (apply WOps.clR; rfl; rfl; exact right15_ok _; rintro _ (⟨rfl, n, hn8, rfl⟩ | ⟨rfl, hno⟩)) | (apply WOps.purG; rfl; (intro _; rfl)) | (apply WD.load; rfl; (first | (apply at1; (first | exact rd0 rfl rfl rfl | exact rd1 rfl rfl rfl | exact rd2 rfl rfl rfl); rfl) | (apply at2; (first | exact rd0 rfl rfl rfl | exact rd1 rfl rfl rfl | exact rd2 rfl rfl rfl); repeat' (first | exact same0 | (apply same1; (first | exact rd0 rfl rfl rfl | exact rd1 rfl rfl rfl | exact rd2 rfl rfl rfl); rfl) | (apply same2; (first | exact rd0 rfl rfl rfl | exact rd1 rfl rfl rfl | exact rd2 rfl rfl rfl)))))) | (apply WD.pur; rfl; (intro _; rfl)))
      · rename_i p14
        have hd : 0 ≤ Int.ofNat n ∧ Int.ofNat n < 8 := ⟨Int.natCast_nonneg _, by show (n : Int) < 8; omega⟩
        have hR : RosAt B ((p14, .row (entN ⟨ek, ⟨.ofNat n, addr⟩, mk, ix⟩)) :: H) rp a1 a2 a3 M s ((lp, .row (ldC rp l1 l2 l3 k [] [] w)) :: (p14, .row (entN ⟨ek, ⟨.ofNat n, addr⟩, mk, ix⟩)) :: (p12, .row [.ptr ⟨false, lp, 0⟩]) :: (p9, .row [.int .u64 l1, .int .u64 l2, .int .u64 l3]) :: H0) := hX.cons.permR (List.Perm.swap _ _ _)
        have O := one0_ok (B := B) (X := (p14, .row (entN ⟨ek, ⟨.ofNat n, addr⟩, mk, ix⟩)) :: (p12, .row [.ptr ⟨false, lp, 0⟩]) :: (p9, .row [.int .u64 l1, .int .u64 l2, .int .u64 l3]) :: H0) (g := 18) (cap := [.ptr ⟨false, p12, 0⟩, .ptr ⟨false, p14, 0⟩]) (mk := mk) (ix := ix) (key := keyN n) (stN M ⟨ek, ⟨.ofNat n, addr⟩, mk, ix⟩) ok (fun s ix ok => rs_node ok) hR (fun s i H' ok h => lay18_ok ok h (Ld.own (Tk.tail (Tk.tail Tk.head)) rfl) (Ld.own Tk.head rfl) (Ld.own (Tk.tail Tk.head) rfl) (Ld.own (Tk.tail Tk.head) rfl))
        have hl12 := hR.ld (B := B) (Ld.own (Tk.tail (Tk.tail Tk.head)) (n := 1) (l := [.ptr ⟨false, lp, 0⟩]) (off := 0) rfl)
        repeat' (first
          | apply WOps.nil | apply WC.reg | apply WD.nil | (apply WD.clR; rfl; rfl; exact digit17_ok hn8; rintro _ rfl) | (apply WD.load; rfl; (first | (apply at1; exact rd_ld rfl (hl12) rfl; rfl) | (apply at2; exact rd_ld rfl (hl12) rfl; repeat' (first | exact same0 | (apply same1; exact rd_ld rfl (hl12) rfl; rfl) | (apply same2; exact rd_ld rfl (hl12) rfl))))) | (apply WD.clA; rfl; rfl; exact O; rintro _ H2 ⟨s2, k2, w2, ok2, h2, hcase⟩) | (apply WOps.addN; rfl; rfl; rfl; omega) | (apply WOps.purG; rfl; (intro _; rfl)) | (apply WD.load; rfl; (first | (apply at1; (first | exact rd0 rfl rfl rfl | exact rd1 rfl rfl rfl | exact rd2 rfl rfl rfl); rfl) | (apply at2; (first | exact rd0 rfl rfl rfl | exact rd1 rfl rfl rfl | exact rd2 rfl rfl rfl); repeat' (first | exact same0 | (apply same1; (first | exact rd0 rfl rfl rfl | exact rd1 rfl rfl rfl | exact rd2 rfl rfl rfl); rfl) | (apply same2; (first | exact rd0 rfl rfl rfl | exact rd1 rfl rfl rfl | exact rd2 rfl rfl rfl)))))) | (apply WD.pur; rfl; (intro _; rfl)))
        obtain ⟨H3, h3, s3⟩ := h2.less (R1 := ((lp, .row (ldC rp l1 l2 l3 k2 [] [] w2)) :: (p12, .row [.ptr ⟨false, lp, 0⟩]) :: (p9, .row [.int .u64 l1, .int .u64 l2, .int .u64 l3]) :: H0)) (subF (by intro f; simp only [AV.cells, List.append_eq, List.map_cons, List.map_nil, List.sum_nil, List.map_append, List.sum_cons, List.sum_append, List.cons_append, List.nil_append, List.append_assoc, List.append_nil]; omega))
        refine WL.le (t' := [(2, vs), (3, vc), (9, .ptr ⟨false, p9, 0⟩), (12, .ptr ⟨false, p12, 0⟩), (24, vn), (25, .int .i64 (.ofNat nl.length)), (26, .int .i64 (.ofNat (i + 1)))]) (Sub1.cons rfl (Sub1.cons rfl (Sub1.cons rfl (Sub1.cons rfl (Sub1.cons rfl (Sub1.cons rfl (Sub1.cons rfl (Sub1.nil)))))))) ?_
        refine WL.lessP s3 (ih _ (by omega) (i + 1) H3 s2 k2 w2 h3 ok2 ?_ (by omega) rfl)
        rcases hcase with ⟨rfl, rfl, hp, rfl, rfl⟩ | ⟨rfl, hno⟩
        · rcases J with ⟨_, j2⟩ | ⟨j1, _⟩
          · exact .inl ⟨rfl, j2.trans (if_pos ⟨hd, hp⟩)⟩
          · cases j1
        · rcases J with ⟨rfl, j2⟩ | ⟨_, j2⟩
          · exact .inr ⟨rfl, j2.trans (if_neg fun q => hno ⟨rfl, q.2⟩)⟩
          · exact .inr ⟨rfl, j2⟩
      · have hT : loadN M l1 nl rs0 [] = none := by
          rcases J with ⟨_, j2⟩ | ⟨_, j2⟩
          · exact j2.trans (if_neg fun q => hno q.1)
          · exact j2
        rw [hT]
        exact ⟨trivial, [_, _], ⟨_, _, rfl, rfl, _, _, rfl, rfl, rfl⟩, H0, ⟨rfl, rfl⟩, SubP.add (SubP.trans (SubP.of (((List.sublist_cons_self _ _).trans (List.sublist_cons_self _ _)).trans (List.sublist_cons_self _ _))) hX.sub)⟩
    · have hge : ¬ i < nl.length := by
        have h0 := ‹false = true ↔ cmpP BinOp.lss (Int.ofNat i) (Int.ofNat nl.length)›
        simp [cmpP] at h0; omega
      have e : nl.drop i = [] := List.drop_eq_nil_of_le (by skip; omega)
      refine ⟨(H, s, k, w), Sub1.cons rfl (Sub1.cons rfl (Sub1.cons rfl (Sub1.cons rfl (Sub1.nil)))), SubP.refl, ok, hX, ?_⟩
      rcases J with ⟨j1, j2⟩ | ⟨j1, j2⟩
      · exact .inl ⟨j1, by rw [j2, e]; rfl⟩
      · exact .inr ⟨j1, j2⟩
  rintro ⟨HA, sA, u0, wA⟩ ⟨okA, hX, JA⟩
  simp only at okA hX JA
  refine WC.cut2 (X := HL × RS × List Nat × Bool) (fun _ => [(3, vc), (9, .ptr ⟨false, p9, 0⟩), (12, .ptr ⟨false, p12, 0⟩)]) (fun x => x.1) (fun x => RsOk M x.2.1 ∧ RosAt B x.1 rp a1 a2 a3 M x.2.1 ((lp, .row (ldC rp l1 l2 l3 u0 x.2.2.1 [] x.2.2.2)) :: (p12, .row [.ptr ⟨false, lp, 0⟩]) :: (p9, .row [.int .u64 l1, .int .u64 l2, .int .u64 l3]) :: H0) ∧
    ((x.2.2.2 = false ∧ ((loadN M l1 nl rs0 []).bind fun s => loadS M l2 (sl.map (·.1)) s []) = some x.2.1) ∨ (x.2.2.2 = true ∧ ((loadN M l1 nl rs0 []).bind fun s => loadS M l2 (sl.map (·.1)) s []) = none))) ?_ ?_
  · have hsl := hX.sl (SlIs.cons (SlIs.cons (SlIs.cons hs)))
    repeat' (first
      | apply WOps.nil | apply WC.seq | apply WC.reg | apply WC.block | (apply WOps.lenS; rfl; rfl; exact hsl) | (apply WOps.purG; rfl; (intro _; rfl)))
    rw [List.length_map]
    refine WC.loop ?_
    obtain ⟨i, hi⟩ : ∃ i : Nat, i = 0 := ⟨0, rfl⟩
    obtain ⟨H, s, k, w, hH, hX, ok, J⟩ : ∃ (H : HL) (s : RS) (k : List Nat) (w : Bool), HA = H ∧ RosAt B H rp a1 a2 a3 M s ((lp, .row (ldC rp l1 l2 l3 u0 k [] w)) :: (p12, .row [.ptr ⟨false, lp, 0⟩]) :: (p9, .row [.int .u64 l1, .int .u64 l2, .int .u64 l3]) :: H0) ∧ RsOk M s ∧ ((w = false ∧ ((loadN M l1 nl rs0 []).bind fun s => loadS M l2 (sl.map (·.1)) s []) = loadS M l2 ((sl.map (·.1)).drop i) s k) ∨ (w = true ∧ ((loadN M l1 nl rs0 []).bind fun s => loadS M l2 (sl.map (·.1)) s []) = none)) := ⟨HA, sA, [], wA, rfl, hX, okA, by subst hi; rcases JA with ⟨j1, j2⟩ | ⟨j1, j2⟩; exact .inl ⟨j1, by rw [j2]; rfl⟩; exact .inr ⟨j1, by rw [j2]; rfl⟩⟩
    refine WL.heq (H' := H) hH ?_
    refine WL.le (t' := [(3, vc), (9, .ptr ⟨false, p9, 0⟩), (12, .ptr ⟨false, p12, 0⟩), (45, vs), (46, .int .i64 (.ofNat sl.length)), (47, .int .i64 (.ofNat i))]) (by subst hi; exact Sub1.cons rfl (Sub1.cons rfl (Sub1.cons rfl (Sub1.cons rfl (Sub1.cons rfl (Sub1.cons rfl (Sub1.nil))))))) ?_
    have hle : i ≤ sl.length := by omega
    clear hi hH hsl
    induction hm : sl.length - i using Nat.strongRecOn generalizing i H s k w with | _ q ih => ?_
    have hsl := hX.sl (SlIs.cons (SlIs.cons (SlIs.cons hs)))
    apply WL.step
    repeat' (first
      | apply WOps.nil | apply WC.seq | apply WC.reg | apply WC.skip | apply WC.exit | apply WC.block | (apply WOps.cmp; rfl; rfl; rfl; rfl; intro _ _) | (apply WC.condA; rfl; all_goals (intro hb; try subst hb)))
    · have hlt : i < sl.length := by
        have h0 := ‹true = true ↔ cmpP BinOp.lss (Int.ofNat i) (Int.ofNat sl.length)›
        simp [cmpP] at h0; omega
      have hcm : (sl.map fun p => entS p.1 p.2)[i]? = some (entS sl[i].1 sl[i].2) := by rw [List.getElem?_map, List.getElem?_eq_getElem hlt]; rfl
      have hdr : (sl.map (·.1)).drop i = sl[i].1 :: (sl.map (·.1)).drop (i + 1) := by rw [List.drop_eq_getElem_cons (by rw [List.length_map]; exact hlt), List.getElem_map]
      rw [hdr] at J
      have hos := os _ (List.getElem_mem hlt)
      obtain ⟨e, he⟩ : ∃ e, e = sl[i] := ⟨_, rfl⟩
      rw [← he] at hcm J hos
      obtain ⟨⟨ek, ⟨node, id, name, tags, port⟩, mk, ix⟩, tv⟩ := e
      have ct := hos.1.1.cell
      repeat' (first
        | apply WOps.nil | apply WC.seq | apply WC.reg | apply WC.skip | apply WC.ret | (apply WC.condT; rfl) | (apply WC.condF; rfl) | apply WC.dreg | (apply WOps.ldG; rfl; rfl; (first | exact ld0 rfl | exact ld1 rfl | exact ld2 rfl); rfl) | (apply WOps.st; rfl; rfl; (first | exact tk0 | exact tk1 | exact tk2); rfl; (first | rfl | ((repeat' (first | exact ac0 | apply ac1)) <;> (first | rfl | assumption))); rfl) | (apply WOps.alc; rfl; intro _) | (apply WOps.ixSl; rfl; rfl; rfl; exact hsl; exact hcm; intro ax hax) | (apply WOps.ldG; rfl; rfl; exact hax; rfl) | (apply WOps.clR; rfl; rfl; exact right15_ok _; rintro _ (⟨rfl, n, hn8, rfl⟩ | ⟨rfl, hno⟩)) | (apply WOps.purG; rfl; (intro _; rfl)) | (apply WD.load; rfl; (first | (apply at1; (first | exact rd0 rfl rfl rfl | exact rd1 rfl rfl rfl | exact rd2 rfl rfl rfl); rfl) | (apply at2; (first | exact rd0 rfl rfl rfl | exact rd1 rfl rfl rfl | exact rd2 rfl rfl rfl); repeat' (first | exact same0 | (apply same1; (first | exact rd0 rfl rfl rfl | exact rd1 rfl rfl rfl | exact rd2 rfl rfl rfl); rfl) | (apply same2; (first | exact rd0 rfl rfl rfl | exact rd1 rfl rfl rfl | exact rd2 rfl rfl rfl)))))) | (apply WD.pur; rfl; (intro _; rfl)))
      · rename_i p14
        have hd : 0 ≤ Int.ofNat n ∧ Int.ofNat n < 8 := ⟨Int.natCast_nonneg _, by show (n : Int) < 8; omega⟩
        have hR : RosAt B ((p14, .row (entS ⟨ek, ⟨.ofNat n, id, name, tags, port⟩, mk, ix⟩ tv)) :: H) rp a1 a2 a3 M s ((lp, .row (ldC rp l1 l2 l3 u0 k [] w)) :: (p14, .row (entS ⟨ek, ⟨.ofNat n, id, name, tags, port⟩, mk, ix⟩ tv)) :: (p12, .row [.ptr ⟨false, lp, 0⟩]) :: (p9, .row [.int .u64 l1, .int .u64 l2, .int .u64 l3]) :: H0) := hX.cons.permR (List.Perm.swap _ _ _)
        have O := one1_ok (B := B) (X := (p14, .row (entS ⟨ek, ⟨.ofNat n, id, name, tags, port⟩, mk, ix⟩ tv)) :: (p12, .row [.ptr ⟨false, lp, 0⟩]) :: (p9, .row [.int .u64 l1, .int .u64 l2, .int .u64 l3]) :: H0) (g := 21) (cap := [.ptr ⟨false, p12, 0⟩, .ptr ⟨false, p14, 0⟩]) (mk := mk) (ix := ix) (key := keyS n id) (stS M ⟨ek, ⟨.ofNat n, id, name, tags, port⟩, mk, ix⟩) ok (fun s ix ok => rs_service ok) hR (fun s i H' ok h => lay21_ok (tv := tv) (jm := mk) (ji := ix) ok h (Ld.own (Tk.tail (Tk.tail Tk.head)) rfl) (Ld.own Tk.head rfl) (Ld.own (Tk.tail Tk.head) rfl) (have q := h.tgi (TgIn.cons (TgIn.cons (TgIn.cons (TgIn.cons hos.1)))); ⟨q.1, q.2, hos.2.1, hos.2.2.1, hos.2.2.2.1, hos.2.2.2.2⟩))
        have hl12 := hR.ld (B := B) (Ld.own (Tk.tail (Tk.tail Tk.head)) (n := 1) (l := [.ptr ⟨false, lp, 0⟩]) (off := 0) rfl)
        repeat' (first
          | apply WOps.nil | apply WC.reg | apply WD.nil | (apply WD.clR; rfl; rfl; exact key20_ok hn8 hos.2.2.1; rintro _ rfl) | (apply WD.load; rfl; (first | (apply at1; exact rd_ld rfl (hl12) rfl; rfl) | (apply at2; exact rd_ld rfl (hl12) rfl; repeat' (first | exact same0 | (apply same1; exact rd_ld rfl (hl12) rfl; rfl) | (apply same2; exact rd_ld rfl (hl12) rfl))))) | (apply WD.clA; rfl; rfl; exact O; rintro _ H2 ⟨s2, k2, w2, ok2, h2, hcase⟩) | (apply WOps.addN; rfl; rfl; rfl; omega) | (apply WOps.purG; rfl; (intro _; rfl)) | (apply WD.load; rfl; (first | (apply at1; (first | exact rd0 rfl rfl rfl | exact rd1 rfl rfl rfl | exact rd2 rfl rfl rfl); rfl) | (apply at2; (first | exact rd0 rfl rfl rfl | exact rd1 rfl rfl rfl | exact rd2 rfl rfl rfl); repeat' (first | exact same0 | (apply same1; (first | exact rd0 rfl rfl rfl | exact rd1 rfl rfl rfl | exact rd2 rfl rfl rfl); rfl) | (apply same2; (first | exact rd0 rfl rfl rfl | exact rd1 rfl rfl rfl | exact rd2 rfl rfl rfl)))))) | (apply WD.pur; rfl; (intro _; rfl)))
        obtain ⟨H3, h3, s3⟩ := h2.less (R1 := ((lp, .row (ldC rp l1 l2 l3 u0 k2 [] w2)) :: (p12, .row [.ptr ⟨false, lp, 0⟩]) :: (p9, .row [.int .u64 l1, .int .u64 l2, .int .u64 l3]) :: H0)) (subF (by intro f; simp only [AV.cells, List.append_eq, List.map_cons, List.map_nil, List.sum_nil, List.map_append, List.sum_cons, List.sum_append, List.cons_append, List.nil_append, List.append_assoc, List.append_nil]; omega))
        refine WL.le (t' := [(3, vc), (9, .ptr ⟨false, p9, 0⟩), (12, .ptr ⟨false, p12, 0⟩), (45, vs), (46, .int .i64 (.ofNat sl.length)), (47, .int .i64 (.ofNat (i + 1)))]) (Sub1.cons rfl (Sub1.cons rfl (Sub1.cons rfl (Sub1.cons rfl (Sub1.cons rfl (Sub1.cons rfl (Sub1.nil))))))) ?_
        refine WL.lessP s3 (ih _ (by omega) (i + 1) H3 s2 k2 w2 h3 ok2 ?_ (by omega) rfl)
        rcases hcase with ⟨rfl, rfl, hp, rfl, rfl⟩ | ⟨rfl, hno⟩
        · rcases J with ⟨_, j2⟩ | ⟨j1, _⟩
          · exact .inl ⟨rfl, j2.trans (if_pos ⟨hd, hp⟩)⟩
          · cases j1
        · rcases J with ⟨rfl, j2⟩ | ⟨_, j2⟩
          · exact .inr ⟨rfl, j2.trans (if_neg fun q => hno ⟨rfl, q.2⟩)⟩
          · exact .inr ⟨rfl, j2⟩
      · have hT : ((loadN M l1 nl rs0 []).bind fun s => loadS M l2 (sl.map (·.1)) s []) = none := by
          rcases J with ⟨_, j2⟩ | ⟨_, j2⟩
          · exact j2.trans (if_neg fun q => hno q.1)
          · exact j2
        rw [hT]
        exact ⟨trivial, [_, _], ⟨_, _, rfl, rfl, _, _, rfl, rfl, rfl⟩, H0, ⟨rfl, rfl⟩, SubP.add (SubP.trans (SubP.of (((List.sublist_cons_self _ _).trans (List.sublist_cons_self _ _)).trans (List.sublist_cons_self _ _))) hX.sub)⟩
    · have hge : ¬ i < sl.length := by
        have h0 := ‹false = true ↔ cmpP BinOp.lss (Int.ofNat i) (Int.ofNat sl.length)›
        simp [cmpP] at h0; omega
      have e : (sl.map (·.1)).drop i = [] := List.drop_eq_nil_of_le (by rw [List.length_map]; omega)
      refine ⟨(H, s, k, w), Sub1.cons rfl (Sub1.cons rfl (Sub1.cons rfl (Sub1.nil))), SubP.refl, ok, hX, ?_⟩
      rcases J with ⟨j1, j2⟩ | ⟨j1, j2⟩
      · exact .inl ⟨j1, by rw [j2, e]; rfl⟩
      · exact .inr ⟨j1, j2⟩
  rintro ⟨HB, sB, u1, wB⟩ ⟨okB, hX, JB⟩
  simp only at okB hX JB
  refine WC.cut2 (X := HL × RS × List Nat × Bool) (fun _ => [(9, .ptr ⟨false, p9, 0⟩), (12, .ptr ⟨false, p12, 0⟩)]) (fun x => x.1) (fun x => RsOk M x.2.1 ∧ RosAt B x.1 rp a1 a2 a3 M x.2.1 ((lp, .row (ldC rp l1 l2 l3 u0 u1 x.2.2.1 x.2.2.2)) :: (p12, .row [.ptr ⟨false, lp, 0⟩]) :: (p9, .row [.int .u64 l1, .int .u64 l2, .int .u64 l3]) :: H0) ∧
    ((x.2.2.2 = false ∧ (((loadN M l1 nl rs0 []).bind fun s => loadS M l2 (sl.map (·.1)) s []).bind fun s => loadC M l3 cl s []) = some x.2.1) ∨ (x.2.2.2 = true ∧ (((loadN M l1 nl rs0 []).bind fun s => loadS M l2 (sl.map (·.1)) s []).bind fun s => loadC M l3 cl s []) = none))) ?_ ?_
  · have hsl := hX.sl (SlIs.cons (SlIs.cons (SlIs.cons hc)))
    repeat' (first
      | apply WOps.nil | apply WC.seq | apply WC.reg | apply WC.block | (apply WOps.lenS; rfl; rfl; exact hsl) | (apply WOps.purG; rfl; (intro _; rfl)))
    rw [List.length_map]
    refine WC.loop ?_
    obtain ⟨i, hi⟩ : ∃ i : Nat, i = 0 := ⟨0, rfl⟩
    obtain ⟨H, s, k, w, hH, hX, ok, J⟩ : ∃ (H : HL) (s : RS) (k : List Nat) (w : Bool), HB = H ∧ RosAt B H rp a1 a2 a3 M s ((lp, .row (ldC rp l1 l2 l3 u0 u1 k w)) :: (p12, .row [.ptr ⟨false, lp, 0⟩]) :: (p9, .row [.int .u64 l1, .int .u64 l2, .int .u64 l3]) :: H0) ∧ RsOk M s ∧ ((w = false ∧ (((loadN M l1 nl rs0 []).bind fun s => loadS M l2 (sl.map (·.1)) s []).bind fun s => loadC M l3 cl s []) = loadC M l3 (cl.drop i) s k) ∨ (w = true ∧ (((loadN M l1 nl rs0 []).bind fun s => loadS M l2 (sl.map (·.1)) s []).bind fun s => loadC M l3 cl s []) = none)) := ⟨HB, sB, [], wB, rfl, hX, okB, by subst hi; rcases JB with ⟨j1, j2⟩ | ⟨j1, j2⟩; exact .inl ⟨j1, by rw [j2]; rfl⟩; exact .inr ⟨j1, by rw [j2]; rfl⟩⟩
    refine WL.heq (H' := H) hH ?_
    refine WL.le (t' := [(9, .ptr ⟨false, p9, 0⟩), (12, .ptr ⟨false, p12, 0⟩), (68, vc), (69, .int .i64 (.ofNat cl.length)), (70, .int .i64 (.ofNat i))]) (by subst hi; exact Sub1.cons rfl (Sub1.cons rfl (Sub1.cons rfl (Sub1.cons rfl (Sub1.cons rfl (Sub1.nil)))))) ?_
    have hle : i ≤ cl.length := by omega
    clear hi hH hsl
    induction hm : cl.length - i using Nat.strongRecOn generalizing i H s k w with | _ q ih => ?_
    have hsl := hX.sl (SlIs.cons (SlIs.cons (SlIs.cons hc)))
    apply WL.step
    repeat' (first
      | apply WOps.nil | apply WC.seq | apply WC.reg | apply WC.skip | apply WC.exit | apply WC.block | (apply WOps.cmp; rfl; rfl; rfl; rfl; intro _ _) | (apply WC.condA; rfl; all_goals (intro hb; try subst hb)))
    · have hlt : i < cl.length := by
        have h0 := ‹true = true ↔ cmpP BinOp.lss (Int.ofNat i) (Int.ofNat cl.length)›
        simp [cmpP] at h0; omega
      have hcm : (cl.map entC)[i]? = some (entC cl[i]) := by rw [List.getElem?_map, List.getElem?_eq_getElem hlt]; rfl
      have hdr : cl.drop i = cl[i] :: cl.drop (i + 1) := List.drop_eq_getElem_cons hlt
      rw [hdr] at J
      have hoc := oc _ (List.getElem_mem hlt)
      obtain ⟨e, he⟩ : ∃ e, e = cl[i] := ⟨_, rfl⟩
      rw [← he] at hcm J hoc
      obtain ⟨ek, ⟨node, id, svc, note, st⟩, mk, ix⟩ := e
      skip
      repeat' (first
        | apply WOps.nil | apply WC.seq | apply WC.reg | apply WC.skip | apply WC.ret | (apply WC.condT; rfl) | (apply WC.condF; rfl) | apply WC.dreg | (apply WOps.ldG; rfl; rfl; (first | exact ld0 rfl | exact ld1 rfl | exact ld2 rfl); rfl) | (apply WOps.st; rfl; rfl; (first | exact tk0 | exact tk1 | exact tk2); rfl; (first | rfl | ((repeat' (first | exact ac0 | apply ac1)) <;> (first | rfl | assumption))); rfl) | (apply WOps.alc; rfl; intro _) | (apply WOps.ixSl; rfl; rfl; rfl; exact hsl; exact hcm; intro ax hax) | (apply WOps.ldG; rfl; rfl; exact hax; rfl) | (apply WOps.clR; rfl; rfl; exact right15_ok _; rintro _ (⟨rfl, n, hn8, rfl⟩ | ⟨rfl, hno⟩)) | (apply WOps.purG; rfl; (intro _; rfl)) | (apply WD.load; rfl; (first | (apply at1; (first | exact rd0 rfl rfl rfl | exact rd1 rfl rfl rfl | exact rd2 rfl rfl rfl); rfl) | (apply at2; (first | exact rd0 rfl rfl rfl | exact rd1 rfl rfl rfl | exact rd2 rfl rfl rfl); repeat' (first | exact same0 | (apply same1; (first | exact rd0 rfl rfl rfl | exact rd1 rfl rfl rfl | exact rd2 rfl rfl rfl); rfl) | (apply same2; (first | exact rd0 rfl rfl rfl | exact rd1 rfl rfl rfl | exact rd2 rfl rfl rfl)))))) | (apply WD.pur; rfl; (intro _; rfl)))
      · rename_i p14
        have hd : 0 ≤ Int.ofNat n ∧ Int.ofNat n < 8 := ⟨Int.natCast_nonneg _, by show (n : Int) < 8; omega⟩
        have hR : RosAt B ((p14, .row (entC ⟨ek, ⟨.ofNat n, id, svc, note, st⟩, mk, ix⟩)) :: H) rp a1 a2 a3 M s ((lp, .row (ldC rp l1 l2 l3 u0 u1 k w)) :: (p14, .row (entC ⟨ek, ⟨.ofNat n, id, svc, note, st⟩, mk, ix⟩)) :: (p12, .row [.ptr ⟨false, lp, 0⟩]) :: (p9, .row [.int .u64 l1, .int .u64 l2, .int .u64 l3]) :: H0) := hX.cons.permR (List.Perm.swap _ _ _)
        have O := one2_ok (B := B) (X := (p14, .row (entC ⟨ek, ⟨.ofNat n, id, svc, note, st⟩, mk, ix⟩)) :: (p12, .row [.ptr ⟨false, lp, 0⟩]) :: (p9, .row [.int .u64 l1, .int .u64 l2, .int .u64 l3]) :: H0) (g := 23) (cap := [.ptr ⟨false, p12, 0⟩, .ptr ⟨false, p14, 0⟩]) (mk := mk) (ix := ix) (key := keyS n id) (stC M ⟨ek, ⟨.ofNat n, id, svc, note, st⟩, mk, ix⟩) ok (fun s ix ok => rs_check ok) hR (fun s i H' ok h => lay23_ok (jm := mk) (ji := ix) ok h (Ld.own (Tk.tail (Tk.tail Tk.head)) rfl) (Ld.own Tk.head rfl) (Ld.own (Tk.tail Tk.head) rfl) hoc)
        have hl12 := hR.ld (B := B) (Ld.own (Tk.tail (Tk.tail Tk.head)) (n := 1) (l := [.ptr ⟨false, lp, 0⟩]) (off := 0) rfl)
        repeat' (first
          | apply WOps.nil | apply WC.reg | apply WD.nil | (apply WD.clR; rfl; rfl; exact key20_ok hn8 hoc.i; rintro _ rfl) | (apply WD.load; rfl; (first | (apply at1; exact rd_ld rfl (hl12) rfl; rfl) | (apply at2; exact rd_ld rfl (hl12) rfl; repeat' (first | exact same0 | (apply same1; exact rd_ld rfl (hl12) rfl; rfl) | (apply same2; exact rd_ld rfl (hl12) rfl))))) | (apply WD.clA; rfl; rfl; exact O; rintro _ H2 ⟨s2, k2, w2, ok2, h2, hcase⟩) | (apply WOps.addN; rfl; rfl; rfl; omega) | (apply WOps.purG; rfl; (intro _; rfl)) | (apply WD.load; rfl; (first | (apply at1; (first | exact rd0 rfl rfl rfl | exact rd1 rfl rfl rfl | exact rd2 rfl rfl rfl); rfl) | (apply at2; (first | exact rd0 rfl rfl rfl | exact rd1 rfl rfl rfl | exact rd2 rfl rfl rfl); repeat' (first | exact same0 | (apply same1; (first | exact rd0 rfl rfl rfl | exact rd1 rfl rfl rfl | exact rd2 rfl rfl rfl); rfl) | (apply same2; (first | exact rd0 rfl rfl rfl | exact rd1 rfl rfl rfl | exact rd2 rfl rfl rfl)))))) | (apply WD.pur; rfl; (intro _; rfl)))
        obtain ⟨H3, h3, s3⟩ := h2.less (R1 := ((lp, .row (ldC rp l1 l2 l3 u0 u1 k2 w2)) :: (p12, .row [.ptr ⟨false, lp, 0⟩]) :: (p9, .row [.int .u64 l1, .int .u64 l2, .int .u64 l3]) :: H0)) (subF (by intro f; simp only [AV.cells, List.append_eq, List.map_cons, List.map_nil, List.sum_nil, List.map_append, List.sum_cons, List.sum_append, List.cons_append, List.nil_append, List.append_assoc, List.append_nil]; omega))
        refine WL.le (t' := [(9, .ptr ⟨false, p9, 0⟩), (12, .ptr ⟨false, p12, 0⟩), (68, vc), (69, .int .i64 (.ofNat cl.length)), (70, .int .i64 (.ofNat (i + 1)))]) (Sub1.cons rfl (Sub1.cons rfl (Sub1.cons rfl (Sub1.cons rfl (Sub1.cons rfl (Sub1.nil)))))) ?_
        refine WL.lessP s3 (ih _ (by omega) (i + 1) H3 s2 k2 w2 h3 ok2 ?_ (by omega) rfl)
        rcases hcase with ⟨rfl, rfl, hp, rfl, rfl⟩ | ⟨rfl, hno⟩
        · rcases J with ⟨_, j2⟩ | ⟨j1, _⟩
          · exact .inl ⟨rfl, j2.trans (if_pos ⟨hd, hp⟩)⟩
          · cases j1
        · rcases J with ⟨rfl, j2⟩ | ⟨_, j2⟩
          · exact .inr ⟨rfl, j2.trans (if_neg fun q => hno ⟨rfl, q.2⟩)⟩
          · exact .inr ⟨rfl, j2⟩
      · have hT : (((loadN M l1 nl rs0 []).bind fun s => loadS M l2 (sl.map (·.1)) s []).bind fun s => loadC M l3 cl s []) = none := by
          rcases J with ⟨_, j2⟩ | ⟨_, j2⟩
          · exact j2.trans (if_neg fun q => hno q.1)
          · exact j2
        rw [hT]
        exact ⟨trivial, [_, _], ⟨_, _, rfl, rfl, _, _, rfl, rfl, rfl⟩, H0, ⟨rfl, rfl⟩, SubP.add (SubP.trans (SubP.of (((List.sublist_cons_self _ _).trans (List.sublist_cons_self _ _)).trans (List.sublist_cons_self _ _))) hX.sub)⟩
    · have hge : ¬ i < cl.length := by
        have h0 := ‹false = true ↔ cmpP BinOp.lss (Int.ofNat i) (Int.ofNat cl.length)›
        simp [cmpP] at h0; omega
      have e : cl.drop i = [] := List.drop_eq_nil_of_le (by skip; omega)
      refine ⟨(H, s, k, w), Sub1.cons rfl (Sub1.cons rfl (Sub1.nil)), SubP.refl, ok, hX, ?_⟩
      rcases J with ⟨j1, j2⟩ | ⟨j1, j2⟩
      · exact .inl ⟨j1, by rw [j2, e]; rfl⟩
      · exact .inr ⟨j1, j2⟩
  rintro ⟨HC, sC, u2, wC⟩ ⟨okC, hX, JC⟩
  simp only at okC hX JC
  have d0 : ∀ {H : HL} {s : RS}, RosAt B H rp a1 a2 a3 M s ((lp, .row (ldC rp l1 l2 l3 u0 u1 u2 wC)) :: (p12, .row [.ptr ⟨false, lp, 0⟩]) :: (p9, .row [.int .u64 l1, .int .u64 l2, .int .u64 l3]) :: H0) → Ld B H ⟨false, p12, 0⟩ 1 [.ptr ⟨false, lp, 0⟩] := fun h => h.ld (Ld.own (Tk.tail Tk.head) rfl)
  have d1 : ∀ {H : HL} {s : RS}, RosAt B H rp a1 a2 a3 M s ((lp, .row (ldC rp l1 l2 l3 u0 u1 u2 wC)) :: (p12, .row [.ptr ⟨false, lp, 0⟩]) :: (p9, .row [.int .u64 l1, .int .u64 l2, .int .u64 l3]) :: H0) → Ld B H ⟨false, lp, 7⟩ 1 [.bool wC] := fun h => h.ld (Ld.own Tk.head rfl)
  have d2 : ∀ {H : HL} {s : RS}, RosAt B H rp a1 a2 a3 M s ((lp, .row (ldC rp l1 l2 l3 u0 u1 u2 wC)) :: (p12, .row [.ptr ⟨false, lp, 0⟩]) :: (p9, .row [.int .u64 l1, .int .u64 l2, .int .u64 l3]) :: H0) → Ld B H ⟨false, lp, 0⟩ 1 [.ptr ⟨false, rp, 0⟩] := fun h => h.ld (Ld.own Tk.head rfl)
  have f1 : ∀ {H : HL} {s : RS}, RosAt B H rp a1 a2 a3 M s ((lp, .row (ldC rp l1 l2 l3 u0 u1 u2 wC)) :: (p12, .row [.ptr ⟨false, lp, 0⟩]) :: (p9, .row [.int .u64 l1, .int .u64 l2, .int .u64 l3]) :: H0) → Ld B H ⟨false, p9, 0⟩ 1 [.int .u64 l1] := fun h => h.ld (Ld.own (Tk.tail (Tk.tail Tk.head)) rfl)
  have f2 : ∀ {H : HL} {s : RS}, RosAt B H rp a1 a2 a3 M s ((lp, .row (ldC rp l1 l2 l3 u0 u1 u2 wC)) :: (p12, .row [.ptr ⟨false, lp, 0⟩]) :: (p9, .row [.int .u64 l1, .int .u64 l2, .int .u64 l3]) :: H0) → Ld B H ⟨false, p9, 1⟩ 1 [.int .u64 l2] := fun h => h.ld (Ld.own (Tk.tail (Tk.tail Tk.head)) rfl)
  have f3 : ∀ {H : HL} {s : RS}, RosAt B H rp a1 a2 a3 M s ((lp, .row (ldC rp l1 l2 l3 u0 u1 u2 wC)) :: (p12, .row [.ptr ⟨false, lp, 0⟩]) :: (p9, .row [.int .u64 l1, .int .u64 l2, .int .u64 l3]) :: H0) → Ld B H ⟨false, p9, 2⟩ 1 [.int .u64 l3] := fun h => h.ld (Ld.own (Tk.tail (Tk.tail Tk.head)) rfl)
  cases wC
  · rcases JC with ⟨_, j⟩ | ⟨j, _⟩
    · rw [j]
      have b1 : RsOk M { sC with l1 := maxI sC.l1 l1 } := ⟨okC.m1, okC.m2, okC.n1, okC.n2, okC.n3, okC.r1, okC.r2, okC.r3, okC.t⟩
      have b2 : RsOk M { sC with l1 := maxI sC.l1 l1, l2 := maxI sC.l2 l2 } := ⟨okC.m1, okC.m2, okC.n1, okC.n2, okC.n3, okC.r1, okC.r2, okC.r3, okC.t⟩
      repeat' (first
        | apply WOps.nil | apply WC.seq | apply WC.reg | apply WC.skip | apply WC.ret | (apply WC.condF; rfl) | apply WC.dreg | apply WD.nil | (apply WOps.ldG; rfl; rfl; exact d0 hX; rfl) | (apply WOps.ldG; rfl; rfl; exact d1 hX; rfl) | (apply WD.load; rfl; (first | (apply at1; exact rd_ld rfl (d0 hX) rfl; rfl) | (apply at2; exact rd_ld rfl (d0 hX) rfl; repeat' (first | exact same0 | (apply same1; exact rd_ld rfl (d0 hX) rfl; rfl) | (apply same2; exact rd_ld rfl (d0 hX) rfl))))) | (apply WD.load; rfl; (first | (apply at1; exact rd_ld rfl (d2 hX) rfl; rfl) | (apply at2; exact rd_ld rfl (d2 hX) rfl; repeat' (first | exact same0 | (apply same1; exact rd_ld rfl (d2 hX) rfl; rfl) | (apply same2; exact rd_ld rfl (d2 hX) rfl))))) | (apply WD.load; rfl; (first | (apply at1; exact rd_ld rfl (hX.r1) rfl; rfl) | (apply at2; exact rd_ld rfl (hX.r1) rfl; repeat' (first | exact same0 | (apply same1; exact rd_ld rfl (hX.r1) rfl; rfl) | (apply same2; exact rd_ld rfl (hX.r1) rfl))))) | (apply WD.load; rfl; (first | (apply at1; exact rd_ld rfl (f1 hX) rfl; rfl) | (apply at2; exact rd_ld rfl (f1 hX) rfl; repeat' (first | exact same0 | (apply same1; exact rd_ld rfl (f1 hX) rfl; rfl) | (apply same2; exact rd_ld rfl (f1 hX) rfl))))) | (apply WD.clA; rfl; rfl; exact raiseN_ok okC hX; intro _ HD hD) | (apply WD.load; rfl; (first | (apply at1; exact rd_ld rfl (d0 hD) rfl; rfl) | (apply at2; exact rd_ld rfl (d0 hD) rfl; repeat' (first | exact same0 | (apply same1; exact rd_ld rfl (d0 hD) rfl; rfl) | (apply same2; exact rd_ld rfl (d0 hD) rfl))))) | (apply WD.load; rfl; (first | (apply at1; exact rd_ld rfl (d2 hD) rfl; rfl) | (apply at2; exact rd_ld rfl (d2 hD) rfl; repeat' (first | exact same0 | (apply same1; exact rd_ld rfl (d2 hD) rfl; rfl) | (apply same2; exact rd_ld rfl (d2 hD) rfl))))) | (apply WD.load; rfl; (first | (apply at1; exact rd_ld rfl (hD.r2) rfl; rfl) | (apply at2; exact rd_ld rfl (hD.r2) rfl; repeat' (first | exact same0 | (apply same1; exact rd_ld rfl (hD.r2) rfl; rfl) | (apply same2; exact rd_ld rfl (hD.r2) rfl))))) | (apply WD.load; rfl; (first | (apply at1; exact rd_ld rfl (f2 hD) rfl; rfl) | (apply at2; exact rd_ld rfl (f2 hD) rfl; repeat' (first | exact same0 | (apply same1; exact rd_ld rfl (f2 hD) rfl; rfl) | (apply same2; exact rd_ld rfl (f2 hD) rfl))))) | (apply WD.clA; rfl; rfl; exact raiseS_ok b1 hD; intro _ HE hE) | (apply WD.load; rfl; (first | (apply at1; exact rd_ld rfl (d0 hE) rfl; rfl) | (apply at2; exact rd_ld rfl (d0 hE) rfl; repeat' (first | exact same0 | (apply same1; exact rd_ld rfl (d0 hE) rfl; rfl) | (apply same2; exact rd_ld rfl (d0 hE) rfl))))) | (apply WD.load; rfl; (first | (apply at1; exact rd_ld rfl (d2 hE) rfl; rfl) | (apply at2; exact rd_ld rfl (d2 hE) rfl; repeat' (first | exact same0 | (apply same1; exact rd_ld rfl (d2 hE) rfl; rfl) | (apply same2; exact rd_ld rfl (d2 hE) rfl))))) | (apply WD.load; rfl; (first | (apply at1; exact rd_ld rfl (hE.r3) rfl; rfl) | (apply at2; exact rd_ld rfl (hE.r3) rfl; repeat' (first | exact same0 | (apply same1; exact rd_ld rfl (hE.r3) rfl; rfl) | (apply same2; exact rd_ld rfl (hE.r3) rfl))))) | (apply WD.load; rfl; (first | (apply at1; exact rd_ld rfl (f3 hE) rfl; rfl) | (apply at2; exact rd_ld rfl (f3 hE) rfl; repeat' (first | exact same0 | (apply same1; exact rd_ld rfl (f3 hE) rfl; rfl) | (apply same2; exact rd_ld rfl (f3 hE) rfl))))) | (apply WD.clA; rfl; rfl; exact raiseC_ok b2 hE; intro _ HF hF) | (apply WOps.ldG; rfl; rfl; exact d0 hF; rfl) | (apply WOps.ldG; rfl; rfl; exact d2 hF; rfl) | (apply WOps.purG; rfl; (intro _; rfl)) | (apply WD.pur; rfl; (intro _; rfl)))
      obtain ⟨H3, h3, s3⟩ := hF.less (R1 := H0) (SubP.of (((List.sublist_cons_self _ _).trans (List.sublist_cons_self _ _)).trans (List.sublist_cons_self _ _)))
      exact ⟨trivial, [_, _], ⟨_, _, rfl, rfl, _, _, rfl, rfl, rfl⟩, H3, ⟨rp, a1, a2, a3, rfl, h3⟩, s3⟩
    · cases j
  · rcases JC with ⟨j, _⟩ | ⟨_, j⟩
    · cases j
    · rw [j]
      repeat' (first
        | apply WOps.nil | apply WC.seq | apply WC.reg | apply WC.ret | (apply WC.condT; rfl) | (apply WOps.ldG; rfl; rfl; exact d0 hX; rfl) | (apply WOps.ldG; rfl; rfl; exact d1 hX; rfl) | (apply WOps.purG; rfl; (intro _; rfl)))
      exact ⟨trivial, [_, _], ⟨_, _, rfl, rfl, _, _, rfl, rfl, rfl⟩, H0, ⟨rfl, rfl⟩, SubP.trans (SubP.of (((List.sublist_cons_self _ _).trans (List.sublist_cons_self _ _)).trans (List.sublist_cons_self _ _))) hX.sub⟩
end Go.Proofs.Ytgpnpcahcegadaa.RO
