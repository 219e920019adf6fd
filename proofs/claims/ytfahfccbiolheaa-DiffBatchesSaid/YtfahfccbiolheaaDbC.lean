/- What the functions do, shown by the logic. -/
import Derived.Test.YtfahfccbiolheaaDbA
set_option linter.unusedSimpArgs false
set_option linter.unusedVariables false
set_option maxRecDepth 20000
namespace Go.Proofs.Ytfahfccbiolheaa.DB
open Go.Proofs.Ytfahfccbiolheaa.Abs
variable {B : Nat → List AV}
/-- Each element is a command. -/
def Cmds (cs : List (List AV)) : Prop := ∀ c, c ∈ cs → ∃ (y : Cx) (ta sa : AV), c = cmC y ta sa ∧ ta.isCell = true ∧ sa.isCell = true
theorem part_at {xs : List (List AV)} {M k : Nat} (h : k * M < xs.length) : (part xs M k).length = min (k * M + M) xs.length - k * M := by
  unfold part; rw [List.length_take, List.length_drop]; omega
set_option maxHeartbeats 4000000 in
theorem batches13_ok {H0 : HL} {v : AV} {xs : List (List AV)} {most : Int} (hs : SlIs B [] v 17 xs) (hn : xs.length ≤ 60) (hf : Fit xs) (hcm : Cmds xs) :
    WF B tab (.func 13) [v, .int .i64 most] H0 fun r H' => ∃ hw cs, OwnSl r cs.flatten cs.length 17 hw ∧ Fit cs ∧ OutL B [] cs xs (clampM most) ∧ xs.length ≤ cs.length * clampM most ∧ (∀ j, j < cs.length → j * clampM most < xs.length) ∧ H' = hw ++ H0 := by
  refine WF.lessP ?_
  refine WF.fn g13 rfl ?_
  have hM1 := clamp_ge most
  have hM2 := clamp_le most
  have hcell := hs.cell
  have hsH : ∀ {H : HL}, SlIs B H v 17 xs := hs.any
  refine WC.seq (WC.reg ?_)
  repeat' (first
    | apply WOps.nil | apply WC.reg | apply WC.skip | apply WC.ret | apply WC.exit | (apply WC.condT; rfl) | (apply WC.condF; rfl) | apply WC.block | (apply WOps.ldG; rfl; rfl; (first | exact ld0 rfl | exact ld1 rfl | exact ld2 rfl); rfl) | (apply WOps.bsl; rfl; (first | rfl | ((repeat' (first | exact ac0 | apply ac1)) <;> (first | rfl | assumption))); intro _) | (apply WOps.cmp; rfl; rfl; rfl; rfl; intro _ _) | (apply WOps.cmpT; rfl; rfl; rfl; rfl; intro _ _) | (apply WOps.purG; rfl; (intro _; rfl)))
  refine WC.cut (X := Int) (fun m1 => [(0, v), (1, .int .i64 m1)]) (fun _ => H0) (fun m1 => m1 = if most < 1 then 1 else most) ?_ ?_
  · repeat' (first
      | apply WOps.nil | apply WC.seq | apply WC.reg | apply WC.skip | apply WC.ret | apply WC.exit | (apply WC.condT; rfl) | (apply WC.condF; rfl) | apply WC.block | (apply WOps.ldG; rfl; rfl; (first | exact ld0 rfl | exact ld1 rfl | exact ld2 rfl); rfl) | (apply WOps.bsl; rfl; (first | rfl | ((repeat' (first | exact ac0 | apply ac1)) <;> (first | rfl | assumption))); intro _) | (apply WOps.cmp; rfl; rfl; rfl; rfl; intro _ _) | (apply WOps.cmpT; rfl; rfl; rfl; rfl; intro _ _) | (apply WOps.purG; rfl; (intro _; rfl)) | (apply WC.condA; rfl; all_goals (intro hb; try subst hb)))
    · have h0 := ‹true = true ↔ cmpP BinOp.lss _ _›.1 rfl
      simp [cmpP] at h0
      exact ⟨rfl, Int.ofNat 1, Sub1.cons rfl (Sub1.cons rfl Sub1.nil), SubP.refl, by rw [if_pos (by omega)]; rfl⟩
    · have h0 := eq_of_ff ‹false = true ↔ cmpP BinOp.lss _ _›
      simp [cmpP] at h0
      exact ⟨rfl, most, Sub1.cons rfl (Sub1.cons rfl Sub1.nil), SubP.refl, by rw [if_neg (by omega)]⟩
  intro m1 hm1
  refine WC.cut (X := Nat) (fun M => [(0, v), (1, .int .i64 (.ofNat M))]) (fun _ => H0) (fun M => M = clampM most) ?_ ?_
  · repeat' (first
      | apply WOps.nil | apply WC.seq | apply WC.reg | apply WC.skip | apply WC.ret | apply WC.exit | (apply WC.condT; rfl) | (apply WC.condF; rfl) | apply WC.block | (apply WOps.ldG; rfl; rfl; (first | exact ld0 rfl | exact ld1 rfl | exact ld2 rfl); rfl) | (apply WOps.bsl; rfl; (first | rfl | ((repeat' (first | exact ac0 | apply ac1)) <;> (first | rfl | assumption))); intro _) | (apply WOps.cmp; rfl; rfl; rfl; rfl; intro _ _) | (apply WOps.cmpT; rfl; rfl; rfl; rfl; intro _ _) | (apply WOps.purG; rfl; (intro _; rfl)) | (apply WC.condA; rfl; all_goals (intro hb; try subst hb)))
    · have h0 := ‹true = true ↔ cmpP BinOp.gtr _ _›.1 rfl
      simp [cmpP] at h0
      refine ⟨rfl, 8, Sub1.cons rfl (Sub1.cons rfl Sub1.nil), SubP.refl, ?_⟩
      unfold clampM
      split <;> (try split) <;> split at hm1 <;> omega
    · have h0 := eq_of_ff ‹false = true ↔ cmpP BinOp.gtr _ _›
      simp [cmpP] at h0
      have he : m1 = Int.ofNat (clampM most) := by
        unfold clampM
        simp only [Int.ofNat_eq_natCast]
        split <;> (try split) <;> split at hm1 <;> omega
      refine ⟨rfl, clampM most, Sub1.cons rfl (Sub1.cons (by rw [he]; rfl) Sub1.nil), SubP.refl, rfl⟩
  rintro _ rfl
  generalize clampM most = M at *
  repeat' (first
    | apply WOps.nil | apply WC.seq | apply WC.reg | apply WC.skip | apply WC.ret | apply WC.exit | (apply WC.condT; rfl) | (apply WC.condF; rfl) | apply WC.block | (apply WOps.ldG; rfl; rfl; (first | exact ld0 rfl | exact ld1 rfl | exact ld2 rfl); rfl) | (apply WOps.bsl; rfl; (first | rfl | ((repeat' (first | exact ac0 | apply ac1)) <;> (first | rfl | assumption))); intro _) | (apply WOps.cmp; rfl; rfl; rfl; rfl; intro _ _) | (apply WOps.cmpT; rfl; rfl; rfl; rfl; intro _ _) | (apply WOps.purG; rfl; (intro _; rfl)))
  refine WC.loop ?_
  obtain ⟨cs, hcs⟩ : ∃ cs : List (List AV), cs = [] := ⟨[], rfl⟩
  obtain ⟨w5, hw5⟩ : ∃ v, v = AV.nilsl := ⟨_, rfl⟩
  obtain ⟨hw, hhw⟩ : ∃ h : HL, h = [] := ⟨_, rfl⟩
  refine WL.le (t' := [(0, v), (1, .int .i64 (.ofNat M)), (5, w5), (6, .int .i64 (.ofNat (cs.length * M)))]) (by subst hcs; subst hw5; exact Sub1.cons rfl (Sub1.cons rfl (Sub1.cons rfl (Sub1.cons (by simp; rfl) Sub1.nil)))) ?_
  refine WL.heq (H' := hw ++ H0) (by rw [hhw]; rfl) ?_
  have o5 : OwnSl w5 cs.flatten cs.length 17 hw := by subst hcs; exact .inl ⟨hw5, rfl, rfl, hhw⟩
  have hfc : Fit cs := by subst hcs; intro c hc; cases hc
  have hout : OutL B [] cs xs M := by subst hcs; intro j hj; exact absurd hj (Nat.not_lt_zero _)
  have hle : cs.length * M ≤ xs.length + 8 := by subst hcs; simp
  have hpre : ∀ j, j < cs.length → j * M < xs.length := by subst hcs; intro j hj; exact absurd hj (Nat.not_lt_zero _)
  clear hcs hw5 hhw
  induction hm : xs.length + 8 - cs.length * M using Nat.strongRecOn generalizing cs w5 hw with | _ q ih => ?_
  apply WL.step
  refine WC.seq (WC.seq (WC.reg ?_))
  repeat' (first
    | apply WOps.nil | apply WC.reg | apply WC.skip | apply WC.ret | apply WC.exit | (apply WC.condT; rfl) | (apply WC.condF; rfl) | apply WC.block | (apply WOps.ldG; rfl; rfl; (first | exact ld0 rfl | exact ld1 rfl | exact ld2 rfl); rfl) | (apply WOps.bsl; rfl; (first | rfl | ((repeat' (first | exact ac0 | apply ac1)) <;> (first | rfl | assumption))); intro _) | (apply WOps.lenS; rfl; rfl; exact hsH) | (apply WOps.cmp; rfl; rfl; rfl; rfl; intro _ _) | (apply WOps.cmpT; rfl; rfl; rfl; rfl; intro _ _) | (apply WOps.purG; rfl; (intro _; rfl)) | (apply WC.condA; rfl; all_goals (intro hb; try subst hb)))
  · have hk : cs.length * M < xs.length := by
      have h0 := ‹true = true ↔ cmpP BinOp.lss _ _›.1 rfl
      simp [cmpP] at h0; omega
    have hck : cs.length ≤ 60 := by
      have : cs.length * 1 ≤ cs.length * M := Nat.mul_le_mul_left _ hM1
      omega
    have hpl := part_at hk
    refine WC.seq (WC.block (WC.seq (WC.reg ?_)))
    repeat' (first
      | apply WOps.nil | apply WC.reg | apply WC.skip | apply WC.ret | apply WC.exit | (apply WC.condT; rfl) | (apply WC.condF; rfl) | apply WC.block | (apply WOps.ldG; rfl; rfl; (first | exact ld0 rfl | exact ld1 rfl | exact ld2 rfl); rfl) | (apply WOps.bsl; rfl; (first | rfl | ((repeat' (first | exact ac0 | apply ac1)) <;> (first | rfl | assumption))); intro _) | (apply WOps.addN; rfl; rfl; rfl; omega) | (apply WOps.cmp; rfl; rfl; rfl; rfl; intro _ _) | (apply WOps.cmpT; rfl; rfl; rfl; rfl; intro _ _) | (apply WOps.purG; rfl; (intro _; rfl)) | (apply WC.condA; rfl; all_goals (intro hb; try subst hb)))
    refine WC.cut (X := Nat) (fun to => [(0, v), (1, .int .i64 (.ofNat M)), (5, w5), (6, .int .i64 (.ofNat (cs.length * M))), (7, .int .i64 (.ofNat to))]) (fun _ => hw ++ H0) (fun to => to = min (cs.length * M + M) xs.length) ?_ ?_
    · repeat' (first
        | apply WOps.nil | apply WC.seq | apply WC.reg | apply WC.skip | apply WC.ret | apply WC.exit | (apply WC.condT; rfl) | (apply WC.condF; rfl) | apply WC.block | (apply WOps.ldG; rfl; rfl; (first | exact ld0 rfl | exact ld1 rfl | exact ld2 rfl); rfl) | (apply WOps.bsl; rfl; (first | rfl | ((repeat' (first | exact ac0 | apply ac1)) <;> (first | rfl | assumption))); intro _) | (apply WOps.lenS; rfl; rfl; exact hsH) | (apply WOps.cmp; rfl; rfl; rfl; rfl; intro _ _) | (apply WOps.cmpT; rfl; rfl; rfl; rfl; intro _ _) | (apply WOps.purG; rfl; (intro _; rfl)) | (apply WC.condA; rfl; all_goals (intro hb; try subst hb)))
      · have h0 := ‹true = true ↔ cmpP BinOp.gtr _ _›.1 rfl
        simp [cmpP] at h0
        exact ⟨rfl, xs.length, Sub1.cons rfl (Sub1.cons rfl (Sub1.cons rfl (Sub1.cons rfl (Sub1.cons rfl Sub1.nil)))), SubP.refl, by omega⟩
      · have h0 := eq_of_ff ‹false = true ↔ cmpP BinOp.gtr _ _›
        simp [cmpP] at h0
        exact ⟨rfl, cs.length * M + M, Sub1.cons rfl (Sub1.cons rfl (Sub1.cons rfl (Sub1.cons rfl (Sub1.cons rfl Sub1.nil)))), SubP.refl, by omega⟩
    intro to hto
    have hx0 : xs[cs.length * M]? = some xs[cs.length * M] := List.getElem?_eq_getElem hk
    obtain ⟨y, ta, sa, hx, ca, da⟩ := hcm _ (List.getElem_mem hk)
    rw [hx] at hx0
    rcases id hs with ⟨_, h1⟩ | ⟨a, rfl, hh⟩
    · rw [h1] at hk; simp at hk
    have hsub := sub_of hh (m := cs.length * M) (k := to) (by omega) (by omega)
    have he : (xs.drop (cs.length * M)).take (to - cs.length * M) = part xs M cs.length := by
      unfold part
      rw [hto]
      rcases Nat.le_total (cs.length * M + M) xs.length with h | h
      · rw [Nat.min_eq_left h]; congr 1; omega
      · rw [Nat.min_eq_right h, List.take_of_length_le (by rw [List.length_drop]; omega), List.take_of_length_le (by rw [List.length_drop]; omega)]
    rw [he] at hsub
    repeat' (first
      | apply WOps.nil | apply WC.seq | apply WC.reg | apply WC.skip | apply WC.ret | apply WC.exit | (apply WC.condT; rfl) | (apply WC.condF; rfl) | apply WC.block | (apply WOps.ldG; rfl; rfl; (first | exact ld0 rfl | exact ld1 rfl | exact ld2 rfl); rfl) | (apply WOps.bsl; rfl; (first | rfl | ((repeat' (first | exact ac0 | apply ac1)) <;> (first | rfl | assumption))); intro _) | (apply WOps.addN; rfl; rfl; rfl; omega) | (apply WOps.ixSl; rfl; rfl; rfl; exact hsH; exact hx0; intro ax hax) | (apply WOps.ldG; rfl; rfl; exact hax; rfl) | (apply WOps.slP; rfl; rfl; rfl; rfl; rfl; exact bounds_2 (by omega) (by omega)) | (apply WOps.cmp; rfl; rfl; rfl; rfl; intro _ _) | (apply WOps.cmpT; rfl; rfl; rfl; rfl; intro _ _) | (apply WOps.purG; rfl; (intro _; rfl)) | (apply WC.condA; rfl; all_goals (intro hb; try subst hb)))
    · have h0 := ‹true = true ↔ cmpP BinOp.eql _ _›.1 rfl
      simp [cmpP] at h0
      have hp1 : (part xs M cs.length).length = 1 := by rw [hpl]; omega
      obtain ⟨z, hz⟩ := List.length_eq_one_iff.1 hp1
      have hzx : z = cmC y ta sa := by
        have h1 : (part xs M cs.length)[0]? = some z := by rw [hz]; rfl
        unfold part at h1
        rw [List.getElem?_take_of_lt (by omega), List.getElem?_drop, Nat.add_zero, hx0] at h1
        cases h1; rfl
      subst hzx
      have hcc : allCell (cmC y ta sa) = true := by rw [← hx]; exact (hf _ (List.getElem_mem hk)).2
      rename_i p
      refine WOps.app (n := cs.length) rfl rfl rfl o5 (List.perm_append_comm_assoc [_] hw H0) (src_one Tk.head rfl) (fit_cell hfc) hcc rfl (by omega) ?_
      intro v2 h2 o2
      have o6 : OwnSl v2 (cs ++ [cmC y ta sa]).flatten (cs ++ [cmC y ta sa]).length 17 h2 := by rw [List.flatten_append, List.length_append, List.flatten_cons, List.flatten_nil, List.append_nil]; exact o2
      repeat' (first
        | apply WOps.nil | apply WC.seq | apply WC.reg | apply WC.skip | apply WC.ret | apply WC.exit | (apply WC.condT; rfl) | (apply WC.condF; rfl) | apply WC.block | (apply WOps.ldG; rfl; rfl; (first | exact ld0 rfl | exact ld1 rfl | exact ld2 rfl); rfl) | (apply WOps.bsl; rfl; (first | rfl | ((repeat' (first | exact ac0 | apply ac1)) <;> (first | rfl | assumption))); intro _) | (apply WOps.addN; rfl; rfl; rfl; omega) | (apply WOps.cmp; rfl; rfl; rfl; rfl; intro _ _) | (apply WOps.cmpT; rfl; rfl; rfl; rfl; intro _ _) | (apply WOps.purG; rfl; (intro _; rfl)) | (apply WC.condA; rfl; all_goals (intro hb; try subst hb)))
      refine WL.le (t' := [(0, .sl a xs.length 17), (1, .int .i64 (.ofNat M)), (5, v2), (6, .int .i64 (.ofNat ((cs ++ [cmC y ta sa]).length * M)))]) (by rw [List.length_append, List.length_singleton, Nat.succ_mul]; exact Sub1.cons rfl (Sub1.cons rfl (Sub1.cons rfl (Sub1.cons rfl Sub1.nil)))) ?_
      refine WL.lessP (H1 := h2 ++ H0) (subF (by intro f; simp only [AV.cells, List.append_eq, List.map_cons, List.map_nil, List.sum_nil, List.map_append, List.sum_cons, List.sum_append, List.cons_append, List.nil_append, List.append_assoc, List.append_nil]; omega)) ?_
      refine ih _ ?_ (cs ++ [cmC y ta sa]) v2 h2 o6 (fit_snoc hfc rfl hcc) (OutL.snoc (G2 := []) hout (.inl ⟨_, hz, rfl⟩)) ?_ ?_ rfl
      · rw [List.length_append, List.length_singleton, Nat.succ_mul]; omega
      · rw [List.length_append, List.length_singleton, Nat.succ_mul]; omega
      · intro j hj
        rw [List.length_append, List.length_singleton] at hj
        rcases Nat.lt_or_ge j cs.length with h | h
        · exact hpre j h
        · obtain rfl : j = cs.length := by omega
          exact hk
    · have h0 := eq_of_ff ‹false = true ↔ cmpP BinOp.eql _ _›
      simp [cmpP] at h0
      have hp1 : (part xs M cs.length).length ≠ 1 := by rw [hpl]; omega
      rename_i p
      refine WOps.app (n := cs.length) rfl rfl rfl o5 (List.perm_append_comm_assoc [_] hw H0) (src_one Tk.head rfl) (fit_cell hfc) rfl rfl (by omega) ?_
      intro v2 h2 o2
      have o6 : OwnSl v2 (cs ++ [cmC g18 .nilsl (.sl ⟨a.ro, a.id, a.off + cs.length * M * 17⟩ (to - cs.length * M) 17)]).flatten (cs ++ [cmC g18 .nilsl (.sl ⟨a.ro, a.id, a.off + cs.length * M * 17⟩ (to - cs.length * M) 17)]).length 17 h2 := by rw [List.flatten_append, List.length_append, List.flatten_cons, List.flatten_nil, List.append_nil]; exact o2
      repeat' (first
        | apply WOps.nil | apply WC.seq | apply WC.reg | apply WC.skip | apply WC.ret | apply WC.exit | (apply WC.condT; rfl) | (apply WC.condF; rfl) | apply WC.block | (apply WOps.ldG; rfl; rfl; (first | exact ld0 rfl | exact ld1 rfl | exact ld2 rfl); rfl) | (apply WOps.bsl; rfl; (first | rfl | ((repeat' (first | exact ac0 | apply ac1)) <;> (first | rfl | assumption))); intro _) | (apply WOps.addN; rfl; rfl; rfl; omega) | (apply WOps.cmp; rfl; rfl; rfl; rfl; intro _ _) | (apply WOps.cmpT; rfl; rfl; rfl; rfl; intro _ _) | (apply WOps.purG; rfl; (intro _; rfl)) | (apply WC.condA; rfl; all_goals (intro hb; try subst hb)))
      refine WL.le (t' := [(0, .sl a xs.length 17), (1, .int .i64 (.ofNat M)), (5, v2), (6, .int .i64 (.ofNat ((cs ++ [cmC g18 .nilsl (.sl ⟨a.ro, a.id, a.off + cs.length * M * 17⟩ (to - cs.length * M) 17)]).length * M)))]) (by rw [List.length_append, List.length_singleton, Nat.succ_mul]; exact Sub1.cons rfl (Sub1.cons rfl (Sub1.cons rfl (Sub1.cons rfl Sub1.nil)))) ?_
      refine WL.lessP (H1 := h2 ++ H0) (subF (by intro f; simp only [AV.cells, List.append_eq, List.map_cons, List.map_nil, List.sum_nil, List.map_append, List.sum_cons, List.sum_append, List.cons_append, List.nil_append, List.append_assoc, List.append_nil]; omega)) ?_
      refine ih _ ?_ (cs ++ [cmC g18 .nilsl (.sl ⟨a.ro, a.id, a.off + cs.length * M * 17⟩ (to - cs.length * M) 17)]) v2 h2 o6 (fit_snoc hfc rfl rfl) (OutL.snoc (G2 := []) hout (.inr ⟨hp1, _, _, rfl, hsub⟩)) ?_ ?_ rfl
      · rw [List.length_append, List.length_singleton, Nat.succ_mul]; omega
      · rw [List.length_append, List.length_singleton, Nat.succ_mul]; omega
      · intro j hj
        rw [List.length_append, List.length_singleton] at hj
        rcases Nat.lt_or_ge j cs.length with h | h
        · exact hpre j h
        · obtain rfl : j = cs.length := by omega
          exact hk
  · have hge : xs.length ≤ cs.length * M := by
      have h0 := eq_of_ff ‹false = true ↔ cmpP BinOp.lss _ _›
      simp [cmpP] at h0; omega
    repeat' (first
      | apply WOps.nil | apply WC.seq | apply WC.reg | apply WC.skip | apply WC.ret | apply WC.exit | (apply WC.condT; rfl) | (apply WC.condF; rfl) | apply WC.block | (apply WOps.ldG; rfl; rfl; (first | exact ld0 rfl | exact ld1 rfl | exact ld2 rfl); rfl) | (apply WOps.bsl; rfl; (first | rfl | ((repeat' (first | exact ac0 | apply ac1)) <;> (first | rfl | assumption))); intro _) | (apply WOps.cmp; rfl; rfl; rfl; rfl; intro _ _) | (apply WOps.cmpT; rfl; rfl; rfl; rfl; intro _ _) | (apply WOps.purG; rfl; (intro _; rfl)) | (apply WC.condA; rfl; all_goals (intro hb; try subst hb)))
    exact ⟨trivial, [_], ⟨_, [], rfl, rfl, rfl⟩, _, ⟨hw, cs, o5, hfc, hout, hge, hpre, rfl⟩, SubP.refl⟩
theorem cmds9_ok {H : HL} {v w : AV} {cs ds : List (List AV)} (hv : SlIs B H v 17 cs) (hw : SlIs B H w 17 ds) (hl : cs.length = ds.length) (ll : cs.length ≤ 1000)
    (hp : ∀ (j : Nat) (h1 : j < cs.length) (h2 : j < ds.length), WF B tab (.func 17) [.agg cs[j], .agg ds[j]] H fun r H' => r = .bool true ∧ H' = H) :
    WF B tab (.func 9) [v, w] H fun r H' => r = .bool true ∧ H' = H := by
  refine WF.lessP ?_
  refine WF.fn g9 rfl ?_
  repeat' (first
    | apply WOps.nil | apply WC.seq | apply WC.reg | apply WC.skip | apply WC.ret | apply WC.exit | (apply WC.condT; rfl) | (apply WC.condF; rfl) | apply WC.block | apply WC.dreg | apply WD.nil | (apply WOps.ldG; rfl; rfl; (first | exact ld0 rfl | exact ld1 rfl | exact ld2 rfl); rfl) | (apply WOps.lenS; rfl; rfl; exact hv) | (apply WOps.lenS; rfl; rfl; exact hw) | (apply WOps.cmp; rfl; rfl; rfl; rfl; intro _ _) | (apply WOps.cmpT; rfl; rfl; rfl; rfl; intro _ _) | (apply WOps.purG; rfl; (intro _; rfl)) | (apply WD.load; rfl; (first | (apply at1; (first | exact rd0 rfl rfl rfl | exact rd1 rfl rfl rfl | exact rd2 rfl rfl rfl); rfl) | (apply at2; (first | exact rd0 rfl rfl rfl | exact rd1 rfl rfl rfl | exact rd2 rfl rfl rfl); repeat' (first | exact same0 | (apply same1; (first | exact rd0 rfl rfl rfl | exact rd1 rfl rfl rfl | exact rd2 rfl rfl rfl); rfl) | (apply same2; (first | exact rd0 rfl rfl rfl | exact rd1 rfl rfl rfl | exact rd2 rfl rfl rfl)))))) | (apply WD.cmp; rfl; rfl; rfl; rfl; intro _ _) | (apply WD.cmpT; rfl; rfl; rfl; rfl; intro _ _) | (apply WD.pur; rfl; (intro _; rfl)) | (apply WC.condA; rfl; all_goals (intro hb; try subst hb)))
  · have h0 := ‹true = true ↔ cmpP BinOp.neq _ _›.1 rfl
    simp [cmpP] at h0; omega
  · refine WC.loop ?_
    obtain ⟨i, hi⟩ : ∃ i : Nat, i = 0 := ⟨0, rfl⟩
    refine WL.le (t' := [(0, v), (1, w), (5, .int .i64 (.ofNat i))]) (by subst hi; exact Sub1.cons rfl (Sub1.cons rfl (Sub1.cons rfl Sub1.nil))) ?_
    have hle : i ≤ cs.length := by omega
    clear hi
    induction hk : cs.length - i using Nat.strongRecOn generalizing i with | _ k ih => ?_
    apply WL.step
    repeat' (first
      | apply WOps.nil | apply WC.seq | apply WC.reg | apply WC.skip | apply WC.ret | apply WC.exit | (apply WC.condT; rfl) | (apply WC.condF; rfl) | apply WC.block | apply WC.dreg | apply WD.nil | (apply WOps.ldG; rfl; rfl; (first | exact ld0 rfl | exact ld1 rfl | exact ld2 rfl); rfl) | (apply WOps.lenS; rfl; rfl; exact hv) | (apply WOps.lenS; rfl; rfl; exact hw) | (apply WOps.cmp; rfl; rfl; rfl; rfl; intro _ _) | (apply WOps.cmpT; rfl; rfl; rfl; rfl; intro _ _) | (apply WOps.purG; rfl; (intro _; rfl)) | (apply WD.load; rfl; (first | (apply at1; (first | exact rd0 rfl rfl rfl | exact rd1 rfl rfl rfl | exact rd2 rfl rfl rfl); rfl) | (apply at2; (first | exact rd0 rfl rfl rfl | exact rd1 rfl rfl rfl | exact rd2 rfl rfl rfl); repeat' (first | exact same0 | (apply same1; (first | exact rd0 rfl rfl rfl | exact rd1 rfl rfl rfl | exact rd2 rfl rfl rfl); rfl) | (apply same2; (first | exact rd0 rfl rfl rfl | exact rd1 rfl rfl rfl | exact rd2 rfl rfl rfl)))))) | (apply WD.cmp; rfl; rfl; rfl; rfl; intro _ _) | (apply WD.cmpT; rfl; rfl; rfl; rfl; intro _ _) | (apply WD.pur; rfl; (intro _; rfl)) | (apply WC.condA; rfl; all_goals (intro hb; try subst hb)))
    · have hlt : i < cs.length := by
        have h0 := ‹true = true ↔ cmpP BinOp.lss _ _›.1 rfl
        simp [cmpP] at h0; omega
      have hlt2 : i < ds.length := by omega
      have hc1 : cs[i]? = some cs[i] := List.getElem?_eq_getElem hlt
      have hc2 : ds[i]? = some ds[i] := List.getElem?_eq_getElem hlt2
      repeat' (first
        | apply WOps.nil | apply WC.seq | apply WC.reg | apply WC.skip | apply WC.ret | apply WC.exit | (apply WC.condT; rfl) | (apply WC.condF; rfl) | apply WC.block | apply WC.dreg | apply WD.nil | (apply WOps.ldG; rfl; rfl; (first | exact ld0 rfl | exact ld1 rfl | exact ld2 rfl); rfl) | (apply WD.ixSl; rfl; rfl; rfl; exact hv; exact hc1; intro a1 l1) | (apply WD.ixSl; rfl; rfl; rfl; exact hw; exact hc2; intro a2 l2) | (apply WD.load; rfl; (first | (apply at1; exact rd_ld rfl (l1 _ hv) rfl; rfl) | (apply at2; exact rd_ld rfl (l1 _ hv) rfl; repeat' (first | exact same0 | (apply same1; exact rd_ld rfl (l1 _ hv) rfl; rfl) | (apply same2; exact rd_ld rfl (l1 _ hv) rfl))))) | (apply WD.load; rfl; (first | (apply at1; exact rd_ld rfl (l2 _ hw) rfl; rfl) | (apply at2; exact rd_ld rfl (l2 _ hw) rfl; repeat' (first | exact same0 | (apply same1; exact rd_ld rfl (l2 _ hw) rfl; rfl) | (apply same2; exact rd_ld rfl (l2 _ hw) rfl))))) | (apply WD.clA; rfl; rfl; exact hp i hlt hlt2; rintro _ _ ⟨rfl, rfl⟩) | (apply WOps.addN; rfl; rfl; rfl; omega) | (apply WOps.cmp; rfl; rfl; rfl; rfl; intro _ _) | (apply WOps.cmpT; rfl; rfl; rfl; rfl; intro _ _) | (apply WOps.purG; rfl; (intro _; rfl)) | (apply WD.load; rfl; (first | (apply at1; (first | exact rd0 rfl rfl rfl | exact rd1 rfl rfl rfl | exact rd2 rfl rfl rfl); rfl) | (apply at2; (first | exact rd0 rfl rfl rfl | exact rd1 rfl rfl rfl | exact rd2 rfl rfl rfl); repeat' (first | exact same0 | (apply same1; (first | exact rd0 rfl rfl rfl | exact rd1 rfl rfl rfl | exact rd2 rfl rfl rfl); rfl) | (apply same2; (first | exact rd0 rfl rfl rfl | exact rd1 rfl rfl rfl | exact rd2 rfl rfl rfl)))))) | (apply WD.cmp; rfl; rfl; rfl; rfl; intro _ _) | (apply WD.cmpT; rfl; rfl; rfl; rfl; intro _ _) | (apply WD.pur; rfl; (intro _; rfl)) | (apply WC.condA; rfl; all_goals (intro hb; try subst hb)))
      exact WL.le (t' := [(0, v), (1, w), (5, .int .i64 (.ofNat (i + 1)))]) (Sub1.cons rfl (Sub1.cons rfl (Sub1.cons rfl Sub1.nil))) (ih _ (by omega) (i + 1) (by omega) rfl)
    · exact ⟨trivial, [_], ⟨_, [], rfl, rfl, rfl⟩, _, ⟨rfl, rfl⟩, SubP.refl⟩
theorem out_same {d : Nat} {G1 G2 H : HL} {c1 c2 : List AV} {p : List (List AV)} (h1 : OutR B G1 c1 p) (h2 : OutR B G2 c2 p) (hg : ∀ c, c ∈ p → Gd B d c) (hp : p.length ≤ 60) (s1 : ∀ v xs, SlIs B G1 v 17 xs → SlIs B H v 17 xs) (s2 : ∀ v xs, SlIs B G2 v 17 xs → SlIs B H v 17 xs) :
    WF B tab (.func 17) [.agg c1, .agg c2] H fun r H' => r = .bool true ∧ H' = H := by
  rcases h1 with ⟨x, rfl, rfl⟩ | ⟨n1, a1, m1, rfl, l1⟩
  · rcases h2 with ⟨y, h, rfl⟩ | ⟨n2, _⟩
    · cases h
      exact same17_refl (hg _ (by simp)) H
    · exact absurd rfl n2
  · rcases h2 with ⟨y, rfl, rfl⟩ | ⟨n2, a2, m2, rfl, l2⟩
    · exact absurd rfl n1
    · exact same17_step (tags := []) (.inl ⟨rfl, rfl⟩) (.inl ⟨rfl, rfl⟩) (by simp) (s1 _ _ l1) (s2 _ _ l2) (by omega) fun c hc H' => same17_refl (hg c hc) H'
theorem gd_fit {d : Nat} {xs : List (List AV)} (h : ∀ c, c ∈ xs → Gd B d c) : Fit xs := fun c hc => ⟨gd_len (h c hc), gd_cell (h c hc)⟩
theorem gd_cmds {d : Nat} {xs : List (List AV)} (h : ∀ c, c ∈ xs → Gd B d c) : Cmds xs := fun c hc => by
  have := h c hc
  cases d with
  | zero => cases this
  | succ d =>
    obtain ⟨x, ta, sa, tags, ys, rfl, h1, _, h3, _⟩ := this
    exact ⟨x, ta, sa, rfl, h1.cell, h3.cell⟩
theorem fit_sl {cs : List (List AV)} {v : AV} {h : HL} (hf : Fit cs) (o : OwnSl v cs.flatten cs.length 17 h) : SlIs B h v 17 cs := OwnSl.sl o fun c hc => (hf c hc).1
theorem batches_ok {d : Nat} {v : AV} {xs : List (List AV)} {most : Int} (hs : SlIs B [] v 17 xs) (hl : xs.length ≤ 9223372036854775807) (hg : ∀ c, c ∈ xs → Gd B d c) :
    WF B tab (.func 4) [v, .int .i64 most] [] fun r _ => r = .bool true := by
  refine WF.mono (Q := fun r H' => r = .bool true ∧ True) ?_ (fun r H' h => h.1)
  refine WF.lessP ?_
  refine WF.fn g4 rfl ?_
  refine WC.seq (WC.reg ?_)
  repeat' (first
    | apply WOps.nil | apply WC.reg | apply WC.skip | apply WC.ret | (apply WC.condT; rfl) | (apply WC.condF; rfl) | (apply WOps.cmp; rfl; rfl; rfl; rfl; intro _ _) | (apply WOps.cmpT; rfl; rfl; rfl; rfl; intro _ _) | (apply WOps.purG; rfl; (intro _; rfl)) | (apply WOps.skp; rfl))
  refine WC.cut (X := AV × List (List AV)) (fun x => [(0, x.1), (1, .int .i64 most)]) (fun _ => []) (fun x => SlIs B [] x.1 17 x.2 ∧ x.2.length ≤ 60 ∧ ∀ c, c ∈ x.2 → Gd B d c) ?_ ?_
  · rcases id hs with ⟨rfl, h0⟩ | ⟨a, rfl, hh⟩
    · repeat' (first
        | apply WOps.nil | apply WC.seq | apply WC.reg | apply WC.skip | apply WC.ret | (apply WC.condT; rfl) | (apply WC.condF; rfl) | (apply WOps.lenS; rfl; rfl; exact hs) | (apply WOps.neqF; rfl; rfl; rfl; decide) | (apply WOps.neqT; rfl; rfl; rfl; decide) | (apply WOps.eqlF; rfl; rfl; rfl; decide) | (apply WOps.eqlT; rfl; rfl; rfl; decide) | (apply WOps.cmp; rfl; rfl; rfl; rfl; intro _ _) | (apply WOps.cmpT; rfl; rfl; rfl; rfl; intro _ _) | (apply WOps.purG; rfl; (intro _; rfl)) | (apply WOps.skp; rfl) | (apply WOps.ask; rfl; all_goals (intro hb; first | subst hb | fail_if_success (cases hb))) | (apply WC.condA; rfl; all_goals (intro hb; try subst hb)))
      · have h1 := ‹true = true ↔ cmpP BinOp.gtr _ _›.1 rfl
        rw [h0] at h1
        simp [cmpP] at h1
      · exact ⟨rfl, (.nilsl, xs), Sub1.cons rfl (Sub1.cons rfl Sub1.nil), SubP.refl, hs, by rw [h0]; simp, hg⟩
    · repeat' (first
        | apply WOps.nil | apply WC.seq | apply WC.reg | apply WC.skip | apply WC.ret | (apply WC.condT; rfl) | (apply WC.condF; rfl) | (apply WOps.lenS; rfl; rfl; exact hs) | (apply WOps.slP; rfl; rfl; rfl; rfl; rfl; exact bounds_hi (by have h0 := ‹true = true ↔ cmpP BinOp.gtr _ _›.1 rfl; simp [cmpP] at h0; omega)) | (apply WOps.cmp; rfl; rfl; rfl; rfl; intro _ _) | (apply WOps.cmpT; rfl; rfl; rfl; rfl; intro _ _) | (apply WOps.purG; rfl; (intro _; rfl)) | (apply WOps.skp; rfl) | (apply WOps.ask; rfl; all_goals (intro hb; first | subst hb | fail_if_success (cases hb))) | (apply WC.condA; rfl; all_goals (intro hb; try subst hb)))
      · have h0 := ‹true = true ↔ cmpP BinOp.gtr _ _›.1 rfl
        simp [cmpP] at h0
        exact ⟨rfl, (.sl ⟨a.ro, a.id, a.off + 0 * 17⟩ (60 - 0) 17, (xs.drop 0).take (60 - 0)), Sub1.cons rfl (Sub1.cons rfl Sub1.nil), SubP.refl, sub_of hh (by omega) (by omega), by simp only [List.length_take]; omega, fun c hc => hg c (List.mem_of_mem_drop (List.mem_of_mem_take hc))⟩
      · have h0 := eq_of_ff ‹false = true ↔ cmpP BinOp.gtr _ _›
        simp [cmpP] at h0
        exact ⟨rfl, (.sl a xs.length 17, xs), Sub1.cons rfl (Sub1.cons rfl Sub1.nil), SubP.refl, hs, by simp only; omega, hg⟩
  rintro ⟨v1, ys⟩ ⟨h1, h2, h3⟩
  simp only at h1 h2 h3
  have M0 := clamp_ge most
  repeat' (first
    | apply WOps.nil | apply WC.seq | apply WC.reg | apply WC.skip | apply WC.ret | (apply WC.condT; rfl) | (apply WC.condF; rfl) | (apply WOps.clA; rfl; rfl; exact batches12_ok h1 h2 (gd_fit h3); rintro r1 _ ⟨hw1, G, cs, o1, f1, u1, e1, e2, rfl⟩) | (apply WOps.clA; rfl; rfl; exact batches13_ok h1 h2 (gd_fit h3) (gd_cmds h3); rintro r2 _ ⟨hw2, ds, o2, f2, u2, e3, e4, rfl⟩) | (apply WOps.cmp; rfl; rfl; rfl; rfl; intro _ _) | (apply WOps.cmpT; rfl; rfl; rfl; rfl; intro _ _) | (apply WOps.purG; rfl; (intro _; rfl)) | (apply WOps.skp; rfl) | (apply WOps.ask; rfl; all_goals (intro hb; first | subst hb | fail_if_success (cases hb))) | (apply WC.condA; rfl; all_goals (intro hb; try subst hb)))
  generalize clampM most = M at *
  have hlen : cs.length = ds.length := by
    rcases Nat.lt_trichotomy cs.length ds.length with h | h | h
    · have := e4 _ h; omega
    · exact h
    · have := e2 _ h; omega
  have hc60 : cs.length ≤ 60 := by
    rcases Nat.eq_zero_or_pos cs.length with h | h
    · omega
    · have h1 := e2 (cs.length - 1) (by omega)
      have h2 : (cs.length - 1) * 1 ≤ (cs.length - 1) * M := Nat.mul_le_mul_left _ M0
      omega
  have hs1 : SlIs B (hw2 ++ (hw1 ++ (G ++ []))) r1 17 cs := SlIs.right (SlIs.left (fit_sl f1 o1))
  have hs2 : SlIs B (hw2 ++ (hw1 ++ (G ++ []))) r2 17 ds := SlIs.left (fit_sl f2 o2)
  have hpair : ∀ (j : Nat) (h1 : j < cs.length) (h2 : j < ds.length), WF B tab (.func 17) [.agg cs[j], .agg ds[j]] (hw2 ++ (hw1 ++ (G ++ []))) fun r H' => r = .bool true ∧ H' = hw2 ++ (hw1 ++ (G ++ [])) := fun j a1 a2 =>
    out_same (u1 j a1) (u2 j a2) (fun c hc => h3 c (part_mem hc)) (by unfold part; rw [List.length_take, List.length_drop]; omega) (fun v xs h => SlIs.right (SlIs.right (SlIs.left h))) (fun v xs h => h.any)
  repeat' (first
    | apply WOps.nil | apply WC.seq | apply WC.reg | apply WC.skip | apply WC.ret | (apply WC.condT; rfl) | (apply WC.condF; rfl) | (apply WOps.clA; rfl; rfl; exact cmds9_ok hs1 hs2 hlen (by omega) hpair; rintro _ _ ⟨rfl, rfl⟩) | (apply WOps.clG1; rfl; rfl; exact WF.const g7) | (apply WOps.cmp; rfl; rfl; rfl; rfl; intro _ _) | (apply WOps.cmpT; rfl; rfl; rfl; rfl; intro _ _) | (apply WOps.purG; rfl; (intro _; rfl)) | (apply WOps.skp; rfl) | (apply WOps.ask; rfl; all_goals (intro hb; first | subst hb | fail_if_success (cases hb))) | (apply WC.condA; rfl; all_goals (intro hb; try subst hb)))
  exact ⟨trivial, [_], ⟨_, [], rfl, rfl, rfl⟩, _, ⟨rfl, trivial⟩, SubP.refl⟩
theorem t3 : tyOf Try.prog 3 = .int .i64 := by kernel_rfl
theorem t4 : tyOf Try.prog 4 = .bool := by kernel_rfl
theorem t9 : tyOf Try.prog 9 = .str := by kernel_rfl
theorem t29 : tyOf Try.prog 29 = .sl 42 17 := by kernel_rfl
theorem t35 : tyOf Try.prog 35 = .sl 9 1 := by kernel_rfl
theorem t36 : tyOf Try.prog 36 = .int .u64 := by kernel_rfl
theorem t42 : tyOf Try.prog 42 = .st [(0, 1, 3), (1, 1, 3), (2, 1, 3), (3, 1, 3), (4, 1, 9), (5, 1, 9), (6, 1, 9), (7, 1, 9), (8, 1, 9), (9, 1, 9), (10, 1, 9), (11, 1, 9), (12, 1, 35), (13, 1, 4), (14, 1, 36), (15, 1, 36), (16, 1, 29)] := by kernel_rfl
theorem tags_of : ∀ {xs : List (List AV)} (h : ∀ (i : Nat) c, xs[i]? = some c → AllT [.str] c), ∃ l : List (List Nat), xs = l.map strC := by
  intro xs
  induction xs with
  | nil => intro _; exact ⟨[], rfl⟩
  | cons c xs ih =>
    intro h
    obtain ⟨l, rfl⟩ := ih fun i c' h' => h (i + 1) c' (by simpa using h')
    obtain ⟨_, _, rfl, ⟨s, rfl⟩, rfl⟩ := h 0 c (by simp)
    exact ⟨s :: l, rfl⟩
theorem is_st {P : Program} {n t : Nat} {cs : List AV} {fs : List (Nat × Nat × Nat)} (h : Is P B (n + 1) t cs) (ht : tyOf P t = .st fs) : IsAll (Is P B n) fs cs := by
  simp only [Is, ht] at h; exact h
theorem is_sl {P : Program} {n t e esz : Nat} {cs : List AV} (h : Is P B (n + 1) t cs) (ht : tyOf P t = .sl e esz) : ∃ v xs, cs = [v] ∧ SlIs B [] v esz xs ∧ xs.length ≤ 9223372036854775807 ∧ ∀ (i : Nat) c, xs[i]? = some c → Is P B n e c := by
  simp only [Is, ht] at h
  rcases h with rfl | ⟨id, len, rfl, hl, hby, h⟩
  · exact ⟨.nilsl, [], rfl, .inl ⟨rfl, rfl⟩, by simp, by simp⟩
  · have key : ∀ i c, ((List.range len).map fun i => ((B id).drop (i * esz)).take esz)[i]? = some c → takeN ((B id).drop (i * esz)) esz = some c ∧ Is P B n e c := by
      intro i c hc
      rw [List.getElem?_map] at hc
      rcases Nat.lt_or_ge i len with h1 | h1
      · rw [List.getElem?_range h1] at hc
        simp only [Option.map_some, Option.some.injEq] at hc
        obtain ⟨d, k1, k2⟩ := h i h1
        have := (takeN_iff k1).2
        rw [← hc, ← this]
        exact ⟨k1, k2⟩
      · rw [List.getElem?_eq_none (by simpa using h1)] at hc; cases hc
    refine ⟨_, (List.range len).map fun i => ((B id).drop (i * esz)).take esz, rfl, .inr ⟨⟨true, id, 0⟩, by simp, fun i c hc => ?_⟩, by simpa [maxLen] using hl, fun i c hc => (key i c hc).2⟩
    exact .inl ⟨rfl, by simpa using (key i c hc).1⟩
theorem gd_up : ∀ {d : Nat} {c : List AV}, Gd B d c → Gd B (d + 1) c := by
  intro d
  induction d with
  | zero => intro c h; cases h
  | succ d ih =>
    rintro c ⟨x, ta, sa, tags, xs, rfl, h1, h2, h3, h4, h5⟩
    exact ⟨x, ta, sa, tags, xs, rfl, h1, h2, h3, h4, fun y hy => ih (h5 y hy)⟩
theorem gd_of : ∀ (n : Nat) {c : List AV}, (Is Try.prog B n 42 c → Gd B n c) ∧ (Is Try.prog B (n + 1) 42 c → Gd B (n + 1) c) := by
  intro n
  induction n with
  | zero =>
    intro c
    refine ⟨fun h => ?_, fun h => ?_⟩
    · cases h
    · obtain ⟨p, r, _, _, h0, _⟩ := is_st h t42
      cases h0
  | succ n ih =>
    intro c
    refine ⟨(ih).2, fun h => ?_⟩
    have h_0 := is_st h t42
    obtain ⟨a1, r, rfl, _, _, h_1⟩ := h_0.int t3
    obtain ⟨a2, r, rfl, _, _, h_2⟩ := h_1.int t3
    obtain ⟨a3, r, rfl, _, _, h_3⟩ := h_2.int t3
    obtain ⟨a4, r, rfl, _, _, h_4⟩ := h_3.int t3
    obtain ⟨b1, r, rfl, _, _, h_5⟩ := h_4.str t9
    obtain ⟨b2, r, rfl, _, _, h_6⟩ := h_5.str t9
    obtain ⟨b3, r, rfl, _, _, h_7⟩ := h_6.str t9
    obtain ⟨b4, r, rfl, _, _, h_8⟩ := h_7.str t9
    obtain ⟨b5, r, rfl, _, _, h_9⟩ := h_8.str t9
    obtain ⟨b6, r, rfl, _, _, h_10⟩ := h_9.str t9
    obtain ⟨b7, r, rfl, _, _, h_11⟩ := h_10.str t9
    obtain ⟨b8, r, rfl, _, _, h_12⟩ := h_11.str t9
    obtain ⟨p, r, rfl, _, g1, h_13⟩ := h_12.cons
    obtain ⟨tg, ts, rfl, k1, k2, k3⟩ := g1.texts t35 t9
    obtain ⟨fl, r, rfl, h_14⟩ := h_13.bool t4
    obtain ⟨u1, r, rfl, _, _, h_15⟩ := h_14.int t36
    obtain ⟨u2, r, rfl, _, _, h_16⟩ := h_15.int t36
    obtain ⟨p, r, rfl, _, g2, h_17⟩ := h_16.cons
    obtain rfl := h_17.nil
    obtain ⟨sv, xs, rfl, k4, k5, k6⟩ := is_sl g2 t29
    obtain ⟨l, rfl⟩ := tags_of k2
    refine ⟨⟨a1, a2, a3, a4, b1, b2, b3, b4, b5, b6, b7, b8, fl, u1, u2⟩, tg, sv, l, xs, rfl, k1, by simpa using k3, k4, k5, fun y hy => ?_⟩
    obtain ⟨i, hi, rfl⟩ := List.getElem_of_mem hy
    exact gd_up ((ih).1 (k6 i _ (List.getElem?_eq_getElem hi)))
theorem diffBatches_wf (B : Nat → List AV) (args : List AV) (h : ArgIs Try.prog B Try.f4.params.toList args) : WF B tab (.func 4) args [] fun v _ => v = .bool true := by
  rw [show Try.f4.params.toList = [29, 3] from by kernel_rfl] at h
  match args, h with
  | [a, b], ⟨⟨n, cs, h, ha⟩, ⟨n2, ds, k, hb⟩, _⟩ =>
    rw [show (shapeOf Try.prog 29).1 = false from by kernel_rfl] at ha
    rw [show (shapeOf Try.prog 3).1 = false from by kernel_rfl] at hb
    simp only at ha hb
    obtain ⟨i, e1, _⟩ := k.int t3
    rw [e1] at hb
    cases hb
    obtain ⟨m, v, xs, e2, s1, l1, q1⟩ := h.slice t29
    rw [e2] at ha
    cases ha
    exact batches_ok (d := m) s1 l1 fun c hc => by
      obtain ⟨i, hi, rfl⟩ := List.getElem_of_mem hc
      exact (gd_of m).1 (q1 i _ (List.getElem?_eq_getElem hi))
end Go.Proofs.Ytfahfccbiolheaa.DB
