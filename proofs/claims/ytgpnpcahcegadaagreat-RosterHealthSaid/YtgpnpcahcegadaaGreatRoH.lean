/- What the functions do, shown by the logic. -/
import Derived.Test.YtgpnpcahcegadaaGreatRoY
set_option linter.unusedSimpArgs false
set_option linter.unusedVariables false
set_option linter.unusedSectionVars false
set_option maxRecDepth 20000
namespace Go.Proofs.YtgpnpcahcegadaaGreat.RO
open Go.Proofs.YtgpnpcahcegadaaGreat.Abs
variable {B : Nat → List AV}
theorem maxI_le {a b c : Int} : maxI a b ≤ c ↔ a ≤ c ∧ b ≤ c := by
 unfold maxI; split <;> omega
def relC (svc : List Nat) (e : TE KC) : Prop := e.v.svc = [] ∨ e.v.svc = svc
theorem hL_le {svc : List Nat} {es : List (TE KC)} {b : Int} : hL svc es ≤ b ↔ 0 ≤ b ∧ ∀ e, e ∈ es → relC svc e → e.v.st ≤ b := by
 have : ∀ acc, es.foldl (hStep svc) acc ≤ b ↔ acc ≤ b ∧ ∀ e, e ∈ es → relC svc e → e.v.st ≤ b := by
  induction es with
  | nil => intro acc; simp
  | cons x r ih =>
   intro acc
   rw [List.foldl_cons, ih]
   unfold hStep
   by_cases hr : x.v.svc = [] ∨ x.v.svc = svc
   ·rw [if_pos hr, maxI_le]
    constructor
    ·rintro ⟨⟨h1, h2⟩, h3⟩
     exact ⟨h1, fun e he hre => by rcases List.mem_cons.1 he with rfl | he; exact h2; exact h3 e he hre⟩
    ·rintro ⟨h1, h2⟩
     exact ⟨⟨h1, h2 x List.mem_cons_self hr⟩, fun e he => h2 e (List.mem_cons_of_mem _ he)⟩
   ·rw [if_neg hr]
    constructor
    ·rintro ⟨h1, h3⟩
     exact ⟨h1, fun e he hre => by rcases List.mem_cons.1 he with rfl | he; exact absurd hre hr; exact h3 e he hre⟩
    ·rintro ⟨h1, h2⟩
     exact ⟨h1, fun e he => h2 e (List.mem_cons_of_mem _ he)⟩
 exact this 0
theorem hL_mono {svc : List Nat} {L1 L2 : List (TE KC)} (h : ∀ e, e ∈ L1 → e ∈ L2) : hL svc L1 ≤ hL svc L2 := by
 have h2 := (hL_le (b := hL svc L2)).1 (Int.le_refl _)
 exact hL_le.2 ⟨h2.1, fun e he hr => h2.2 e (h e he) hr⟩
theorem health_mono {s1 s2 : RS} {node : Int} {svc : List Nat} (h : ∀ e, e ∈ s1.cs → e ∈ s2.cs) : healthS s1 node svc ≤ healthS s2 node svc := by
 unfold healthS ofE
 refine hL_mono fun e he => ?_
 rw [List.mem_filter] at he ⊢
 exact ⟨h e he.1, he.2⟩
theorem put_mem {V : Type} {es : List (TE V)} {e x : TE V} (h : x ∈ es) (hk : x.key ≠ e.key) : x ∈ putE es e := by
 induction es with
 | nil => cases h
 | cons y r ih =>
  simp only [putE]
  rcases List.mem_cons.1 h with rfl | h
  ·rw [if_neg hk]
   split <;> simp
  ·split
   ·exact List.mem_cons_of_mem _ h
   ·split
    ·exact List.mem_cons_of_mem _ (List.mem_cons_of_mem _ h)
    ·exact List.mem_cons_of_mem _ (ih h)
theorem drop_put {V : Type} {es : List (TE V)} {e : TE V} (h : findE es e.key = none) : dropE (putE es e) e.key = es := by
 have hd : ∀ {r : List (TE V)}, findE r e.key = none → dropE r e.key = r := by
  intro r
  induction r with
  | nil => intro _; rfl
  | cons y r ih =>
   intro h
   simp only [findE] at h
   simp only [dropE]
   split at h
   ·cases h
   ·rename_i hk
    rw [if_neg hk, ih h]
 induction es with
 | nil => simp [putE, dropE]
 | cons x r ih =>
  have h0 := h
  simp only [findE] at h
  split at h
  ·cases h
  ·rename_i hk
   simp only [putE]
   rw [if_neg hk]
   split
   ·simp only [dropE]
    rw [if_pos trivial, if_neg hk, hd h]
   ·simp only [dropE]
    rw [if_neg hk, ih h]
theorem checkS_ne {M : Nat} {s : RS} {x : KC} {ix : Int} (h : (checkS M s x ix).2 ≠ 0) : (checkS M s x ix).1 = s := by
 unfold checkS at h ⊢
 split
 ·rfl
 ·split
  ·rfl
  ·rename_i h1 h2
   rw [if_neg h1, if_neg h2] at h
   exact absurd rfl h
theorem check_facts {s : RS} {x : KC} {svc : List Nat} (hI : Inv 64 s) (he : (checkS 64 s x (.ofNat 99)).2 = 0) :
  (dropCheckS (checkS 64 s x (.ofNat 99)).1 x.node x.id (.ofNat 100)).2 = 0 ∧
  healthS (dropCheckS (checkS 64 s x (.ofNat 99)).1 x.node x.id (.ofNat 100)).1 x.node svc ≤ healthS (checkS 64 s x (.ofNat 99)).1 x.node svc ∧
  (s.cs.any (fun e => decide (e.v.node = x.node ∧ e.v.id = x.id)) = false → healthS s x.node svc ≤ healthS (checkS 64 s x (.ofNat 99)).1 x.node svc ∧
   healthS (dropCheckS (checkS 64 s x (.ofNat 99)).1 x.node x.id (.ofNat 100)).1 x.node svc = healthS s x.node svc) := by
 obtain ⟨hn, e⟩ := checkS_zero he
 obtain ⟨n, hn8, en⟩ := near hn
 have en2 : x.node.toNat = n := by rw [en]; rfl
 rw [e]
 have hf : findE (putE s.cs ⟨keyS x.node.toNat x.id, x, .ofNat 99, .ofNat 99⟩) (keyS x.node.toNat x.id) ≠ none := by
  have := find_put (e := ⟨keyS x.node.toNat x.id, x, .ofNat 99, .ofNat 99⟩) hI.ok.r3
  rw [this]; simp
 have ed : dropCheckS { s with cs := putE s.cs ⟨keyS x.node.toNat x.id, x, .ofNat 99, .ofNat 99⟩, l3 := maxI s.l3 (.ofNat 99) } x.node x.id (.ofNat 100) = ({ s with cs := dropE (putE s.cs ⟨keyS x.node.toNat x.id, x, .ofNat 99, .ofNat 99⟩) (keyS x.node.toNat x.id), l3 := maxI (maxI s.l3 (.ofNat 99)) (.ofNat 100) }, 0) := by
  unfold dropCheckS
  rw [if_pos ⟨hn, hf⟩]
 rw [ed]
 refine ⟨rfl, health_mono fun e he => dropE_sub.subset he, fun ha => ?_⟩
 have hnone : findE s.cs (keyS x.node.toNat x.id) = none := by
  have h1 := any_key (p := fun v : KC => decide (v.node = .ofNat n ∧ v.id = x.id)) hI.ks.keyC
  rw [en2]
  refine Classical.not_not.1 fun k => ?_
  have h2 := h1.2 k
  rw [en] at ha
  rw [ha] at h2; cases h2
 constructor
 ·exact health_mono fun e he => put_mem he (fun q => find_none.1 hnone e he q)
 ·have := drop_put (e := ⟨keyS x.node.toNat x.id, x, .ofNat 99, .ofNat 99⟩) hnone
  unfold healthS
  simp only
  rw [this]
set_option maxHeartbeats 8000000 in
theorem health_ok {wl : AV} {l : List St} {ck : KC} {jm ji : Int} {svc : List Nat} (hw : ∀ H : HL, SlIs B H wl 18 (l.map stepC)) (hlen : l.length ≤ 9223372036854775807) (hst : ∀ (i : Nat) (h : i < l.length), StIs B l[i]) (hck : CkIs ck) :
  WF B tab (.func 5) [wl, .agg (ckC ck jm ji), .str svc] [] fun r _ => r = .bool true := by
 refine WF.fn g5 rfl ?_
 have hm : 1 ≤ 64 := by decide
 have h64 : 64 ≤ 64 := by decide
 have hM : mostOf (Int.ofNat 64) = 64 := by decide
 refine zE (zD ?_)
 repeat' (first
  | apply zC | (apply yC; rfl; rfl; (· repeat' (first | rfl | assumption | apply ac1)); intro _) | (apply zB; rfl; (intro _; rfl)))
 rename_i p4
 refine zE (zD ?_)
 repeat' (first
  | apply zC | (apply WOps.clA; rfl; rfl; exact new7_ok _; rw [hM]; rintro _ H1 ⟨rp, a1, a2, a3, rfl, h1⟩) | (apply zB; rfl; (intro _; rfl)))
 refine zE (zD ?_)
 repeat' (first
  | apply zC | (apply WOps.clA; rfl; rfl; exact new8_ok _; rw [hM]; rintro _ H2 ⟨wp, rfl, h2⟩) | (apply zB; rfl; (intro _; rfl)))
 refine WC.cut2 (X := HL × RS) (fun x => [(2, .str svc), (4, .ptr ⟨false, p4, 0⟩), (7, .ptr ⟨false, rp, 0⟩)]) (fun x => x.1) (fun x => Inv 64 x.2 ∧ Both B x.1 rp a1 a2 a3 wp 64 64 x.2 x.2 [(p4, .row (ckC ck jm ji))]) ?_ ?_
 ·refine zE (zD ?_)
  repeat' (first
   | apply zC | apply zK | (apply zB; rfl; (intro _; rfl)))
  refine yG ?_
  obtain ⟨i, hi⟩ : ∃ i : Nat, i = 0 := ⟨0, rfl⟩
  obtain ⟨s, hs⟩ : ∃ s : RS, s = rs0 := ⟨_, rfl⟩
  refine WL.le (t' := [(0, wl), (2, .str svc), (4, .ptr ⟨false, p4, 0⟩), (7, .ptr ⟨false, rp, 0⟩), (8, .ptr ⟨false, wp, 0⟩), (9, .int .i64 (.ofNat i))]) (by subst hi; exact zA rfl (zA rfl (zA rfl (zA rfl (zA rfl (zA rfl zH)))))) ?_
  have b : Both B H2 rp a1 a2 a3 wp 64 64 s s [(p4, .row (ckC ck jm ji))] := by subst hs; exact Both.mk0 h1 h2
  have hI : Inv 64 s := by subst hs; exact Inv.zero hm h64
  have hle : i ≤ l.length := by omega
  clear hi hs h1 h2
  induction hk : l.length - i using Nat.strongRecOn generalizing i s H2 with | _ k ih => ?_
  apply WL.step
  repeat' (first
   | apply zC | apply zE | apply zD | apply zJ | apply zZ | (apply zO; rfl) | apply zK | (apply zU; rfl; rfl; exact hw _) | (apply zM; rfl; rfl; rfl; rfl; intro _ _) | (apply zB; rfl; (intro _; rfl)) | (apply zV; rfl) | (apply WOps.ask; rfl; all_goals (intro hb; first | subst hb | fail_if_success (cases hb))) | (apply zN; rfl; all_goals (intro hb; try subst hb)))
  ·have hlt : i < l.length := by
    have h0 := ‹true = true ↔ cmpP BinOp.lss (Int.ofNat i) (Int.ofNat (List.map stepC l).length)›
    rw [List.length_map] at h0
    simp [cmpP] at h0; omega
   have hcm : (l.map stepC)[i]? = some (stepC l[i]) := by rw [List.getElem?_map, List.getElem?_eq_getElem hlt]; rfl
   have hI1 : Inv 64 (stepS 64 s l[i]) := hI.step
   repeat' (first
    | apply zC | apply zD | (apply yA; rfl; rfl; rfl; exact hw _; exact hcm; intro ax hax) | (apply zF; rfl; rfl; exact hax; rfl) | (apply WOps.clA; rfl; rfl; exact step9_ok (t := l[i]) hI hI (.inl ⟨rfl, rfl⟩) (hst i hlt) b; rintro _ H3 ⟨c, rfl, hc, b1⟩; obtain rfl := hc rfl rfl) | (apply zR; rfl; rfl; rfl; omega) | (apply zB; rfl; (intro _; rfl)))
   exact WL.le (zA rfl (zA rfl (zA rfl (zA rfl (zA rfl (zA rfl zH)))))) (ih _ (by omega) _ (i + 1) _ b1 hI1 (by omega) rfl)
  all_goals exact ⟨(H2, s), zA rfl (zA rfl (zA rfl zH)), SubP.refl, hI, b⟩
 rintro ⟨H, s⟩ ⟨hI, b⟩
 simp only at hI b ⊢
 have n3 := hI.ok.n3
 have lp : ∀ n o x, takeN ((ckC ck jm ji).drop o) n = some x → Ld B H ⟨false, p4, o⟩ n x := fun n o x e => b.ld (Ld.own zG e)
 refine zE (zD ?_)
 repeat' (first
  | apply zC | (apply zB; rfl; (intro _; rfl)))
 obtain ⟨X0, k0, _⟩ := b.ros
 refine WC.cut2 (X := AV × HL) (fun x => [(2, .str svc), (4, .ptr ⟨false, p4, 0⟩), (7, .ptr ⟨false, rp, 0⟩), (10, .bool false), (11, x.1)]) (fun x => x.2 ++ H) (fun x => OwnSl x.1 (s.cs.map entC).flatten s.cs.length 7 x.2) ?_ ?_
 ·repeat' (first
   | apply zC | apply zD | (apply WOps.clA; rfl; rfl; exact told16_at hI.ok k0; rintro t16 _ ⟨h13, o13, rfl⟩) | (apply zB; rfl; (intro _; rfl)))
  exact ⟨(t16, h13), zA rfl (zA rfl (zA rfl (zA rfl (zA rfl zH)))), SubP.refl, o13⟩
 rintro ⟨t16, h13⟩ o13
 simp only at o13 ⊢
 refine WC.cut2 (X := Unit) (fun _ => [(2, .str svc), (4, .ptr ⟨false, p4, 0⟩), (7, .ptr ⟨false, rp, 0⟩), (10, .bool (s.cs.any fun e => decide (e.v.node = ck.node ∧ e.v.id = ck.id)))]) (fun _ => H) (fun _ => True) ?_ ?_
 ·refine zE (zD ?_)
  repeat' (first
   | apply zC | apply zK | (apply zB; rfl; (intro _; rfl)))
  refine yG ?_
  obtain ⟨i, hi⟩ : ∃ i : Nat, i = 0 := ⟨0, rfl⟩
  obtain ⟨is, his⟩ : ∃ c : Bool, c = false := ⟨_, rfl⟩
  refine WL.le (t' := [(2, .str svc), (4, .ptr ⟨false, p4, 0⟩), (7, .ptr ⟨false, rp, 0⟩), (10, .bool is), (11, t16), (12, .int .i64 (.ofNat i))]) (by subst hi his; exact zA rfl (zA rfl (zA rfl (zA rfl (zA rfl (zA rfl zH)))))) ?_
  have hs2 : is = (s.cs.take i).any fun e => decide (e.v.node = ck.node ∧ e.v.id = ck.id) := by subst hi his; rfl
  have hle : i ≤ s.cs.length := by omega
  clear hi his
  induction hk : s.cs.length - i using Nat.strongRecOn generalizing i is with | _ k ih => ?_
  apply WL.step
  refine zE (zE (zD ?_))
  repeat' (first
   | apply zC | apply zJ | apply zZ | (apply WOps.lenO; rfl; rfl; exact o13) | (apply zM; rfl; rfl; rfl; rfl; intro _ _) | (apply zB; rfl; (intro _; rfl)) | (apply zN; rfl; all_goals (intro hb; try subst hb)))
  ·have hlt : i < s.cs.length := by
    have h0 := ‹true = true ↔ cmpP BinOp.lss (Int.ofNat i) (Int.ofNat s.cs.length)›.1 rfl
    simp [cmpP] at h0; omega
   have hcm : (s.cs.map entC)[i]? = some (entC s.cs[i]) := by rw [List.getElem?_map, List.getElem?_eq_getElem hlt]; rfl
   have hsl : SlIs B (h13 ++ H) t16 7 (s.cs.map entC) := SlIs.left (entsC_sl o13)
   have nx : ∀ c, c = (is || decide (s.cs[i].v.node = ck.node ∧ s.cs[i].v.id = ck.id)) → WL B tab c5.nt none _ [(2, .str svc), (4, .ptr ⟨false, p4, 0⟩), (7, .ptr ⟨false, rp, 0⟩), (10, .bool c), (11, t16), (12, .int .i64 (.ofNat (i + 1)))] (h13 ++ H) _ := fun c hc => ih _ (by omega) (i + 1) c (by rw [any_take hlt, ← hs2]; exact hc) (by omega) rfl
   clear hs2
   cases is
   ·repeat' (first
     | apply zC | apply zE | apply zD | apply zK | apply zT | apply zW | (apply WD.ixSl; rfl; rfl; rfl; exact hsl; exact hcm; intro ax hax) | (apply zI; rfl; · repeat' (first | refine at1 ?_ rfl | apply at2 | exact same0 | refine same1 ?_ rfl | apply same2 | exact rd_ld rfl (Ld.part (hax _ hsl) 0 1 (by omega)) rfl)) | (apply zI; rfl; · repeat' (first | refine at1 ?_ rfl | apply at2 | exact same0 | refine same1 ?_ rfl | apply same2 | exact rd_ld rfl (Ld.part (hax _ hsl) 1 1 (by omega)) rfl)) | (apply zI; rfl; · repeat' (first | refine at1 ?_ rfl | apply at2 | exact same0 | refine same1 ?_ rfl | apply same2 | exact rd_ld rfl (Ld.right (lp _ _ _ rfl)) rfl)) | (apply zR; rfl; rfl; rfl; omega) | (apply zB; rfl; (intro _; rfl)) | (apply WD.cmp; rfl; rfl; rfl; rfl; intro _ _) | (apply WD.cmpT; rfl; rfl; rfl; rfl; intro _ _) | (apply zQ; rfl; (intro _; rfl)) | (apply WD.skp; rfl) | (apply WD.skpL; rfl) | (apply WD.ask; rfl; all_goals (intro hb; first | subst hb | fail_if_success (cases hb))))
    ·rename_i v hv
     have hn := ‹true = true ↔ cmpP BinOp.eql s.cs[i].v.node ck.node›.1 rfl
     exact WL.le (zA rfl (zA rfl (zA rfl (zA rfl (zA rfl (zA rfl zH)))))) (nx v (by rw [Bool.false_or, Bool.eq_iff_iff, decide_eq_true_iff]; exact ⟨fun h => ⟨hn, hv.1 h⟩, fun h => hv.2 h.2⟩))
    ·have hn := eq_of_ff ‹false = true ↔ cmpP BinOp.eql s.cs[i].v.node ck.node›
     exact WL.le (zA rfl (zA rfl (zA rfl (zA rfl (zA rfl (zA rfl zH)))))) (nx false (by rw [Bool.false_or]; symm; exact decide_eq_false fun h => hn h.1))
   ·repeat' (first
     | apply zC | apply zE | apply zD | apply zK | apply zT | apply zW | (apply zR; rfl; rfl; rfl; omega) | (apply zB; rfl; (intro _; rfl)) | (apply zQ; rfl; (intro _; rfl)) | (apply WD.skp; rfl) | (apply WD.skpL; rfl))
    exact WL.le (zA rfl (zA rfl (zA rfl (zA rfl (zA rfl (zA rfl zH)))))) (nx true (by simp))
  ·have hge : i = s.cs.length := by
    have h0 := eq_of_ff ‹false = true ↔ cmpP BinOp.lss (Int.ofNat i) (Int.ofNat s.cs.length)›
    simp [cmpP] at h0; omega
   subst hge
   rw [List.take_length] at hs2
   subst hs2
   exact ⟨(), zA rfl (zA rfl (zA rfl (zA rfl zH))), ⟨h13, List.perm_append_comm⟩, trivial⟩
 intro _ _
 generalize hisE : (s.cs.any fun e => decide (e.v.node = ck.node ∧ e.v.id = ck.id)) = is
 have I1 : Inv 64 (checkS 64 s ck (.ofNat 99)).1 := hI.iCheck
 have I2 : Inv 64 (dropCheckS (checkS 64 s ck (.ofNat 99)).1 ck.node ck.id (.ofNat 100)).1 := I1.iDropCheck
 by_cases he : (checkS 64 s ck (.ofNat 99)).2 = 0
 ·obtain ⟨F1, F2, F3⟩ := check_facts (svc := svc) hI he
  have C18 : WF B tab (.func 18) [.ptr ⟨false, rp, 0⟩, .agg (ckC ck jm ji), .int .u64 (.ofNat 99)] H fun r H' => r = .int .i64 (.ofNat 0) ∧ Both B H' rp a1 a2 a3 wp 64 64 (checkS 64 s ck (.ofNat 99)).1 s [(p4, .row (ckC ck jm ji))] := by
   have := onK (B := B) (fun X k => check18_ok (jm := jm) (ji := ji) (ix := .ofNat 99) hI.ok k hck) b
   rw [he] at this
   exact this
  have C19 : ∀ H5, Both B H5 rp a1 a2 a3 wp 64 64 (checkS 64 s ck (.ofNat 99)).1 s [(p4, .row (ckC ck jm ji))] → WF B tab (.func 19) [.ptr ⟨false, rp, 0⟩, .int .i64 ck.node, .str ck.id, .int .u64 (.ofNat 100)] H5 fun r H' => r = .int .i64 (.ofNat 0) ∧ Both B H' rp a1 a2 a3 wp 64 64 (dropCheckS (checkS 64 s ck (.ofNat 99)).1 ck.node ck.id (.ofNat 100)).1 s [(p4, .row (ckC ck jm ji))] := by
   intro H5 b1
   have := onK (B := B) (fun X k => dropCheck19_at (node := ck.node) (ix := .ofNat 100) I1.ok hck.i k) b1
   rw [F1] at this
   exact this
  cases is
  ·obtain ⟨F4, F5⟩ := F3 hisE
   have Hd : ∀ H6, Both B H6 rp a1 a2 a3 wp 64 64 (dropCheckS (checkS 64 s ck (.ofNat 99)).1 ck.node ck.id (.ofNat 100)).1 s [(p4, .row (ckC ck jm ji))] → WF B tab (.func 11) [.ptr ⟨false, rp, 0⟩, .int .i64 ck.node, .str svc] H6 fun r H' => H' = H6 ∧ r = .int .i64 (healthS s ck.node svc) := by
    intro H6 b2
    have := onK0 (B := B) (fun X k => health11_ok (node := ck.node) (svc := svc) I2.ok k) b2
    rw [F5] at this
    exact this
   rw [F5] at F2
   repeat' (first
    | apply zC | apply zE | apply zD | apply zJ | apply zL | (apply zO; rfl) | (apply zF; rfl; rfl; exact (by first | exact lp _ _ _ rfl | exact b1.ld (Ld.own zG rfl) | exact b2.ld (Ld.own zG rfl)); rfl) | (apply WOps.clR; rfl; rfl; exact onK0 (fun X k => health11_ok hI.ok k) b; rintro _ rfl) | (apply WOps.clA; rfl; rfl; exact C18; rintro _ H5 ⟨rfl, b1⟩) | (apply WOps.clR; rfl; rfl; exact onK0 (fun X k => health11_ok I1.ok k) b1; rintro _ rfl) | (apply WOps.clA; rfl; rfl; exact C19 _ b1; rintro _ H6 ⟨rfl, b2⟩) | (apply WOps.clR; rfl; rfl; exact Hd _ b2; rintro _ rfl) | (apply WOps.eqlI; rfl; rfl; rfl) | (apply WOps.clG1; rfl; rfl; exact WF.const g13) | (apply WOps.neqT; rfl; rfl; rfl; decide) | (apply zM; rfl; rfl; rfl; rfl; intro _ _) | (apply zB; rfl; (intro _; rfl)) | (apply zN; rfl; all_goals (intro hb; try subst hb)))
   all_goals first
    | exact ⟨trivial, [_], ⟨_, [], rfl, rfl, rfl⟩, rfl⟩
    | (exfalso; have h0 := ‹true = true ↔ cmpP BinOp.lss _ _›.1 rfl; simp only [cmpP] at h0; omega)
    | (exfalso; have h0 := ‹true = true ↔ cmpP BinOp.gtr _ _›.1 rfl; simp only [cmpP] at h0; omega)
  ·repeat' (first
    | apply zC | apply zE | apply zD | apply zJ | apply zL | (apply zO; rfl) | (apply zF; rfl; rfl; exact (by first | exact lp _ _ _ rfl | exact b1.ld (Ld.own zG rfl) | exact b2.ld (Ld.own zG rfl)); rfl) | (apply WOps.clR; rfl; rfl; exact onK0 (fun X k => health11_ok hI.ok k) b; rintro _ rfl) | (apply WOps.clA; rfl; rfl; exact C18; rintro _ H5 ⟨rfl, b1⟩) | (apply WOps.clR; rfl; rfl; exact onK0 (fun X k => health11_ok I1.ok k) b1; rintro _ rfl) | (apply WOps.clA; rfl; rfl; exact C19 _ b1; rintro _ H6 ⟨rfl, b2⟩) | (apply WOps.clR; rfl; rfl; exact onK0 (fun X k => health11_ok I2.ok k) b2; rintro _ rfl) | (apply WOps.clG1; rfl; rfl; exact WF.const g13) | (apply WOps.neqT; rfl; rfl; rfl; decide) | (apply zM; rfl; rfl; rfl; rfl; intro _ _) | (apply zB; rfl; (intro _; rfl)) | (apply zV; rfl) | (apply zN; rfl; all_goals (intro hb; try subst hb)))
   all_goals first
    | exact ⟨trivial, [_], ⟨_, [], rfl, rfl, rfl⟩, rfl⟩
    | (exfalso; have h0 := ‹true = true ↔ cmpP BinOp.lss _ _›.1 rfl; simp only [cmpP] at h0; omega)
    | (exfalso; have h0 := ‹true = true ↔ cmpP BinOp.gtr _ _›.1 rfl; simp only [cmpP] at h0; omega)
 ·have es := checkS_ne he
  repeat' (first
   | apply zC | apply zE | apply zD | apply zJ | apply zL | (apply zO; rfl) | (apply zF; rfl; rfl; exact lp _ _ _ rfl; rfl) | (apply zF; rfl; rfl; exact b1.ld (Ld.own zG rfl); rfl) | (apply WOps.clR; rfl; rfl; exact onK0 (fun X k => health11_ok hI.ok k) b; rintro _ rfl) | (apply WOps.clA; rfl; rfl; exact onK (B := B) (fun X k => check18_ok (ix := .ofNat 99) hI.ok k hck) b; rw [es]; rintro _ H5 ⟨rfl, b1⟩) | (apply WOps.clR; rfl; rfl; exact onK0 (fun X k => health11_ok hI.ok k) b1; rintro _ rfl) | (apply WOps.eqlI; rfl; rfl; rfl) | (apply WOps.clG1; rfl; rfl; exact WF.const g13) | (apply zM; rfl; rfl; rfl; rfl; intro _ _) | (apply zB; rfl; (intro _; rfl)) | (apply zV; rfl) | (apply WOps.ask; rfl; all_goals (intro hb; first | subst hb | fail_if_success (cases hb))) | (apply zN; rfl; all_goals (intro hb; try subst hb)))
  all_goals first
   | exact ⟨trivial, [_], ⟨_, [], rfl, rfl, rfl⟩, rfl⟩
   | (exfalso; have h0 := eq_of_ff ‹false = true ↔ cmpP BinOp.neq (Int.ofNat (checkS 64 s ck (Int.ofNat 99)).snd) (Int.ofNat 0)›; exact he (Int.ofNat.inj (Classical.not_not.1 h0)))
theorem rosterHealth_wf (B : Nat → List AV) (args : List AV) (h : ArgIs Tryz.prog B Tryz.f5.params.toList args) : WF B tab (.func 5) args [] fun v _ => v = .bool true := by
  rw [show Tryz.f5.params.toList = [22, 33, 9] from by kernel_rfl] at h
  match args, h with
  | [a, b, c], ⟨⟨n, cs, h, ha⟩, ⟨n2, ds, k, hb⟩, ⟨n3, es, j, hc⟩, _⟩ =>
    rw [show (shapeOf Tryz.prog 22).1 = false from by kernel_rfl] at ha
    rw [show (shapeOf Tryz.prog 33).1 = true from by kernel_rfl] at hb
    rw [show (shapeOf Tryz.prog 9).1 = false from by kernel_rfl] at hc
    simp only at ha hb hc
    obtain ⟨w, l, e, k1, k2, k3⟩ := steps_of h
    obtain ⟨x, ex, hx⟩ := check_of k
    obtain ⟨s, es, _⟩ := j.str t9
    subst e
    rw [ex] at hb
    rw [es] at hc
    cases ha
    subst hb
    cases hc
    exact health_ok k1 k2 k3 hx
end Go.Proofs.YtgpnpcahcegadaaGreat.RO
