/- Code: sound (the second part): names only rise; operations in a row; code; rounds; functions. -/
import Derived.Test.YtkahmlbhgahbbaaGreatAbsW
set_option linter.unusedSimpArgs false
set_option linter.unusedVariables false
set_option linter.unusedSectionVars false
set_option linter.constructorNameAsVariable false
namespace Go.Proofs.YtkahmlbhgahbbaaGreat.Abs

/-! ### Names only rise -/
section rise
variable {B : Nat → List AV}

theorem aStore_next {n : Nat} {a v res : AV} {h h' : AH} (e : aStore n a v h = .val res h') : h'.next = h.next := by
  unfold aStore at e
  repeat' (split at e)
  all_goals first
    | (cases e; done)
    | (simp only [forceL_eq, VO.val.injEq] at e; rw [← e.2]; rfl)

theorem newRow_next {cs : List AV} {k : Nat → AV} {v : AV} {h h' : AH} (e : newRow h cs k = .val v h') : h'.next = h.next + 1 := by
  obtain ⟨_, _, rfl⟩ := newRow_val e; rfl

theorem aAppend_next {esz bytes : Nat} {s x v : AV} {h h' : AH} (e : aAppend B esz bytes s x h = .val v h') : h.next ≤ h'.next := by
  unfold aAppend at e
  repeat' (split at e)
  all_goals first
    | (cases e; done)
    | (cases e; exact Nat.le_refl _)
    | (have := newRow_next e; try simp only [AH.next_put] at this
       omega)

theorem aCopy_next {esz : Nat} {d s v : AV} {h h' : AH} (e : aCopy B esz d s h = .val v h') : h'.next = h.next := by
  unfold aCopy at e
  repeat' (split at e)
  all_goals first
    | (cases e; done)
    | (cases e; rfl)
    | (simp only [forceL_eq, VO.val.injEq] at e; rw [← e.2]; rfl)

theorem pure1_next {o : Option AV} {v : AV} {h h' : AH} (e : pure1 h o = .val v h') : h'.next = h.next := by
  obtain ⟨_, rfl⟩ := pure1_val e; rfl

theorem aExt_next {k : XK} {vs : List AV} {v : AV} {h h' : AH} (e : aExt B k vs h = .val v h') : h.next ≤ h'.next := by
  unfold aExt at e
  repeat' (split at e)
  all_goals first
    | (cases e; done)
    | (cases e; exact Nat.le_refl _)
    | (have := newRow_next e; omega)
    | (cases e; rename_i q _ _; exact Nat.le_of_eq (aStore_next q).symm)
    | (cases e; rename_i q; exact Nat.le_of_eq (aStore_next q).symm)
theorem aRange_next {x v : AV} {h h' : AH} (e : aRange x h = .val v h') : h.next ≤ h'.next := by
  unfold aRange at e
  repeat' (split at e)
  all_goals first
    | (cases e; done)
    | (cases e; simp; done)
theorem aNext_next {x v : AV} {h h' : AH} (e : aNext x h = .val v h') : h.next ≤ h'.next := by
  unfold aNext at e
  repeat' (split at e)
  all_goals first
    | (cases e; done)
    | (cases e; exact Nat.le_refl _)
theorem aEntry_next {x v : AV} {h h' : AH} (e : aEntry x h = .val v h') : h.next ≤ h'.next := by
  unfold aEntry at e
  repeat' (split at e)
  all_goals first
    | (cases e; done)
    | (cases e; exact Nat.le_refl _)

theorem aop_next {op : AOp} {env : Tr AV} {h : AH} {v : AV} {h' : AH} (e : aop B op env h = .val v h') : h.next ≤ h'.next := by
  cases op <;> simp only [aop] at e
  all_goals repeat' (split at e)
  all_goals first
    | (cases e; done)
    | (cases e; exact Nat.le_refl _)
    | (cases e; simp; done)
    | (exact Nat.le_of_eq (pure1_next e).symm)
    | (exact aExt_next e)
    | (exact aRange_next e)
    | (exact aNext_next e)
    | (exact aEntry_next e)
    | (have := newRow_next e; omega)
    | (exact Nat.le_of_eq (aStore_next e).symm)
    | (exact aAppend_next e)
    | (exact Nat.le_of_eq (aCopy_next e).symm)
    | (simp only [forceL_eq, VO.val.injEq] at e; rw [← e.2]; exact Nat.le_refl _)

variable {call : Caller} (hle : ∀ f args h v h', call f args h = .val v h' → h.next ≤ h'.next)
include hle

theorem evOp_next {op : AOp} {env : Tr AV} {h : AH} {v : AV} {h' : AH} (e : evOp B call op env h = .val v h') : h.next ≤ h'.next := by
  unfold evOp at e
  repeat' (split at e)
  all_goals first
    | (cases e; done)
    | exact hle _ _ _ _ _ e
    | exact aop_next e

theorem evOps_next : ∀ (os : List AOper) {env : Tr AV} {h : AH} {env' : Tr AV} {h' : AH}, evOps B call os env h = .ok env' h' → h.next ≤ h'.next := by
  intro os
  induction os with
  | nil => intro env h env' h' e; cases e; exact Nat.le_refl _
  | cons o os ih =>
    intro env h env' h' e
    simp only [evOps] at e
    split at e
    · cases e
    · exact ih e
    · split at e
      · cases e
      · rename_i v h1 he
        rw [forceV_eq] at e
        exact Nat.le_trans (evOp_next hle he) (ih e)

theorem evD_next : ∀ (os : List DOper) {env : Tr AV} {h : AH} {hist : List (Nat × AH)} {env' : Tr AV} {h' : AH}, evD B call os env h hist = .ok env' h' → h.next ≤ h'.next := by
  intro os
  induction os with
  | nil => intro env h hist env' h' e; cases e; exact Nat.le_refl _
  | cons o os ih =>
    intro env h hist env' h' e
    simp only [evD] at e
    split at e
    · cases e
    · split at e
      · exact ih e
      · exact ih e
    · split at e
      · split at e
        · cases e
        · rename_i v h1 he
          rw [forceV_eq] at e
          exact Nat.le_trans (evOp_next hle he) (ih e)
      · split at e
        · cases e
        · rename_i v h1 he
          rw [forceV_eq] at e
          exact Nat.le_trans (aop_next he) (ih e)
      · split at e
        · rw [forceV_eq] at e
          exact ih e
        · cases e

omit hle in
theorem iter_next {f : Tr AV → List Nat → AH → Out} (hf : ∀ env ds h ex env' ds' h', f env ds h = .out ex env' ds' h' → h.next ≤ h'.next) : ∀ (n : Nat) {env ds h ex env' ds' h'}, iter f n env ds h = .out ex env' ds' h' → h.next ≤ h'.next := by
  intro n
  induction n with
  | zero => intro env ds h ex env' ds' h' e; cases e
  | succ n ih =>
    intro env ds h ex env' ds' h' e
    simp only [iter] at e
    split at e
    · cases e
    · rename_i ex1 env1 ds1 h1 he
      split at e
      · exact Nat.le_trans (hf _ _ _ _ _ _ _ he) (ih e)
      · cases e; exact hf _ _ _ _ _ _ _ he

theorem evC_next {L nt : Nat} {rdn : Option Nat} : ∀ (c : AC) {env : Tr AV} {ds : List Nat} {h : AH} {ex : AExit} {env' : Tr AV} {ds' : List Nat} {h' : AH}, evC B call L nt rdn c env ds h = .out ex env' ds' h' → h.next ≤ h'.next := by
  intro c
  induction c with
  | skip => intro env ds h ex env' ds' h' e; cases e; exact Nat.le_refl _
  | reg ops => intro env ds h ex env' ds' h' e; simp only [evC] at e; split at e <;> cases e; rename_i he; exact evOps_next hle _ he
  | dreg ops => intro env ds h ex env' ds' h' e; simp only [evC] at e; split at e <;> cases e; rename_i he; exact evD_next hle _ he
  | dreg2 pre t esz x i n1 v1 n2 a2 v2 =>
    intro env ds h ex env' ds' h' e
    simp only [evC] at e
    split at e
    · rename_i he
      split at e
      · rename_i he2
        split at e
        · cases e
          exact Nat.le_trans (evD_next hle _ he) (evOps_next hle _ he2)
        · cases e
      · cases e
    · cases e
  | seq a b iha ihb =>
    intro env ds h ex env' ds' h' e
    simp only [evC] at e
    split at e
    · cases e
    · rename_i he
      split at e
      · exact Nat.le_trans (iha he) (ihb e)
      · cases e; exact iha he
  | cond c t e iht ihe =>
    intro env ds h ex env' ds' h' e
    simp only [evC] at e
    split at e
    · split at e
      · exact iht e
      · exact ihe e
    · cases e
  | block id b ih =>
    intro env ds h ex env' ds' h' e
    simp only [evC] at e
    split at e
    · cases e
    · rename_i he
      split at e
      · cases e; exact ih he
      · split at e
        · cases e; exact ih he
        · split at e <;> cases e <;> exact ih he
  | loop b ih => intro env ds h ex env' ds' h' e; simp only [evC] at e; exact iter_next (fun _ _ _ _ _ _ _ he => ih he) _ e
  | exit id => intro env ds h ex env' ds' h' e; cases e; exact Nat.le_refl _
  | ret => intro env ds h ex env' ds' h' e; cases e; exact Nat.le_refl _
  | rangef f ps asg body _ _ =>
    intro env ds h ex env' ds' h' e
    simp only [evC] at e
    split at e
    · split at e
      · split at e
        · rename_i d ds1 h1 hd
          split at e
          · cases e
          · rename_i v h3 hc
            have h2 := hle _ _ _ _ _ hc
            have h4 : h.next ≤ h1.next := by
              unfold defOf at hd
              split at hd
              · cases hd; simp
              · split at hd <;> cases hd; exact Nat.le_refl _
            unfold endRange at e
            simp only [AH.next_new] at h2
            repeat' (split at e)
            all_goals first | (cases e; done) | (cases e; simp; omega)
        · cases e
      · cases e
    · cases e
  | scope b ih => intro env ds h ex env' ds' h' e; simp only [evC] at e; exact ih e
  | dfr pre x g =>
    intro env ds h ex env' ds' h' e
    simp only [evC] at e
    split at e
    · cases e
    · split at e
      · rename_i he
        split at e
        · split at e
          · cases e; exact evOps_next hle _ he
          · cases e
        · cases e
      · cases e
  | fail => intro env ds h ex env' ds' h' e; cases e
end rise

section code
variable {S : Sta} {w0 : World}

theorem CallerOk.le {call : Caller} (hc : CallerOk S w0 call) : ∀ f args h v h', call f args h = .val v h' → h.next ≤ h'.next := by
  intro f args h v h' e
  cases f with
  | func f => exact (hc.func f args h v h' e).1
  | yield l => exact (hc.yield l args h v h' e).1

theorem Free.left {ρ : Ren} {a b c : Nat} (h : Free ρ a c) (hb : b ≤ c) : Free ρ a b := fun id h1 h2 => h id h1 (by omega)
theorem Stp.free {ρ : Ren} {h : AH} {w : World} {ρ' : Ren} {h' : AH} {w' : World} (s : Stp S w0 ρ h w ρ' h' w') {c : Nat} (f : Free ρ h.next c) : Free ρ' h'.next c := by
  intro id h1 h2
  rw [s.keep id (.inr h1)]
  exact f id (Nat.le_trans s.le h1) h2

/-- How an operation is compiled. -/
theorem cOper_some {nt : Nat} {ops : Array Oper} {o : Oper} {ao : AOper} (e : cOper S.P nt ops o = some ao) :
    ao.op = cOpF S.P o.op ∧ ao.dst = o.dst ∧ (∀ d, o.dst = some d → d < nt) ∧ (match o.guard with | none => ao.guard = none | some (j, want) => ∃ t, (ops[j]?).bind (·.dst) = some t ∧ ao.guard = some (t, want)) := by
  unfold cOper at e
  simp only at e
  split at e
  · cases e
  · rename_i hd
    split at e
    · rename_i hg
      cases e
      refine ⟨rfl, rfl, fun d hdd => ?_, by rw [hg]⟩
      rw [hdd] at hd; simpa [Nat.blt_eq] using hd
    · rename_i j want hg
      split at e
      · rename_i t ht
        cases e
        refine ⟨rfl, rfl, fun d hdd => ?_, by rw [hg]; exact ⟨t, ht, rfl⟩⟩
        rw [hdd] at hd; simpa [Nat.blt_eq] using hd
      · cases e

theorem wanted_sound {nt : Nat} {ops : Array Oper} {o : Oper} {ao : AOper} (e : cOper S.P nt ops o = some ao) {ρ : Ren} {env : Tr AV} {tmps : Array Value} (henv : EnvR S ρ nt env tmps) {b : Bool}
    (hw : wanted ao.guard env = some b) : Region.wanted o (yielded ops tmps) = b := by
  obtain ⟨_, _, _, hg⟩ := cOper_some e
  unfold Region.wanted
  cases hgo : o.guard with
  | none =>
    rw [hgo] at hg
    simp only at hg
    rw [hg] at hw
    simp only [wanted, Option.some.injEq] at hw
    exact hw
  | some jw =>
    obtain ⟨j, want⟩ := jw
    rw [hgo] at hg
    obtain ⟨t, h1, h2⟩ := hg
    rw [h2] at hw
    simp only [wanted] at hw
    split at hw
    · rename_i bb hb
      obtain ⟨c, q1, q2⟩ := henv.2 t _ hb
      simp only [VR] at q2; subst q2
      cases hw
      simp [yielded, h1, q1]
    · rename_i hb
      obtain ⟨c, q1, q2⟩ := henv.2 t _ hb
      obtain ⟨x, rfl, hx⟩ := q2
      cases hw
      simp [yielded, h1, q1]
    · cases hw

theorem EnvR.put {ρ : Ren} {nt : Nat} {env : Tr AV} {a : Act} (k : EnvR S ρ nt env a.tmps) {d : Option Nat} (hd : ∀ t, d = some t → t < nt) {v : AV} {c : Value} (hv : VR S ρ v c) :
    EnvR S ρ nt (setD env d v) (a.put d c).tmps := by
  cases d with
  | none => exact k
  | some t => exact k.set (hd t rfl) hv

theorem put_defers (a : Act) (d : Option Nat) (c : Value) : (a.put d c).defers = a.defers := by cases d <;> rfl

theorem undef_VR {ρ : Ren} : VR S ρ .undef undef := ⟨_, rfl, trivial⟩

/-- Operations in a row. -/
theorem evOps_sound' {call : Caller} (ro : RoOk S w0) (hcall : CallerOk S w0 call) {nt : Nat} {ops : Array Oper} (rb : Option Nat) {Q : Exit → Act → World → Prop} {rest : List Nat} :
    ∀ (aops : List AOper) (L : List Nat), L.length = aops.length → (∀ (k : Nat) ao, aops[k]? = some ao → ∃ i o, L[k]? = some i ∧ ops[i]? = some o ∧ cOper S.P nt ops o = some ao) →
    ∀ {ρ : Ren} {h : AH} {w : World} {a : Act} {env env' : Tr AV} {h' : AH}, Rel S w0 ρ h w → EnvR S ρ nt env a.tmps → evOps S.B call aops env h = .ok env' h' → Free ρ h.next h'.next →
      (∀ ρ' a' w', Stp S w0 ρ h w ρ' h' w' → EnvR S ρ' nt env' a'.tmps → a'.defers = a.defers → wpOpsIn (fen rb) 0 S.P ops Q rest a' w') → wpOpsIn (fen rb) 0 S.P ops Q (L ++ rest) a w := by
  intro aops
  induction aops with
  | nil =>
    intro L hL _ ρ h w a env env' h' r henv he _ K
    cases L with
    | nil => cases he; exact K ρ a w (Stp.refl r) henv rfl
    | cons _ _ => simp at hL
  | cons ao aops ih =>
    intro L hL hi ρ h w a env env' h' r henv he hf K
    cases L with
    | nil => simp at hL
    | cons i L =>
      obtain ⟨i', o, e1, e2, e3⟩ := hi 0 ao rfl
      simp at e1; subst e1
      obtain ⟨c1, c2, c3, c4⟩ := cOper_some e3
      have hi' : ∀ (k : Nat) ao, aops[k]? = some ao → ∃ i o, L[k]? = some i ∧ ops[i]? = some o ∧ cOper S.P nt ops o = some ao := fun k ao hk => by simpa using hi (k + 1) ao (by simpa using hk)
      simp only [evOps] at he
      simp only [List.cons_append, wpOpsIn, e2]
      split at he
      · cases he
      · rename_i hw
        rw [if_neg (by rw [wanted_sound e3 henv hw]; simp)]
        refine ⟨fun _ _ => trivial, ?_⟩
        rw [c2] at he
        refine ih L (by simpa using hL) hi' r (henv.put c3 undef_VR) he hf fun ρ' a' w' s1 s2 s3 => K ρ' a' w' s1 s2 (s3.trans (put_defers _ _ _))
      · rename_i hw
        rw [if_pos (wanted_sound e3 henv hw)]
        split at he
        · cases he
        · rename_i v h1 hev
          rw [forceV_eq] at he
          have hn1 := evOps_next hcall.le _ he
          have hn0 := evOp_next hcall.le hev
          rw [c1] at hev
          refine evOp_sound ro hcall r henv hev (hf.left hn1) rb fun ρ1 w1 c s1 v1 => ?_
          rw [c2] at he
          refine ih L (by simpa using hL) hi' s1.rel ((henv.mono (s1.sub (hf.left hn1))).put c3 v1) he (s1.free hf) fun ρ' a' w' s2 s3 s4 => K ρ' a' w' (s1.trans s2) s3 (s4.trans (put_defers _ _ _))
theorem evOps_sound {call : Caller} (ro : RoOk S w0) (hcall : CallerOk S w0 call) {nt : Nat} {ops : Array Oper} (rb : Option Nat) {Q : Exit → Act → World → Prop}
    (aops : List AOper) (L : List Nat) (hL : L.length = aops.length) (hi : ∀ (k : Nat) ao, aops[k]? = some ao → ∃ i o, L[k]? = some i ∧ ops[i]? = some o ∧ cOper S.P nt ops o = some ao)
    {ρ : Ren} {h : AH} {w : World} {a : Act} {env env' : Tr AV} {h' : AH} (r : Rel S w0 ρ h w) (henv : EnvR S ρ nt env a.tmps) (he : evOps S.B call aops env h = .ok env' h') (hf : Free ρ h.next h'.next)
    (K : ∀ ρ' a' w', Stp S w0 ρ h w ρ' h' w' → EnvR S ρ' nt env' a'.tmps → a'.defers = a.defers → Q .normal a' w') : wpOpsIn (fen rb) 0 S.P ops Q L a w := by
  have := evOps_sound' ro hcall rb (rest := []) aops L hL hi r henv he hf K
  rw [List.append_nil] at this
  exact this
end code
end Go.Proofs.YtkahmlbhgahbbaaGreat.Abs
