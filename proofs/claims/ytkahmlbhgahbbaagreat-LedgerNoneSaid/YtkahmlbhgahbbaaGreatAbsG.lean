/- A deferred guard: a function that does nothing while there is no panic. -/
import Derived.Test.YtkahmlbhgahbbaaGreatAbsP
import Derived.RecoverIn
set_option linter.unusedSimpArgs false
set_option linter.unusedVariables false
set_option linter.unusedSectionVars false
set_option linter.constructorNameAsVariable false
namespace Go.Proofs.YtkahmlbhgahbbaaGreat.Abs
theorem put_eval {a : Act} {i : Nat} {v : Value} (h : i < a.tmps.size) : (a.put (some i) v).eval (.tmp i) = v := by
  simp [Act.put, Act.eval, h]
theorem guard_calls {P : Program} {g : Nat} (h : guardOk P g = true) {args : Array Value} {w : World} {R : Ending → FrameMode → World → Prop} (hR : ∀ v, R (.returned v) .returning w) :
    CallsDIn Fence.wide 0 P g args .returning w R ∧ ∀ (v : Array Value) (w : World), (callFunc g v).run P w = .ok (.enter g v) w := by
  unfold guardOk at h
  split at h
  · cases h
  rename_i fn hfn
  split at h
  · cases h
  rename_i c hc
  simp only [Bool.and_eq_true, Bool.not_eq_true', decide_eq_true_eq] at h
  obtain ⟨⟨hname, hres⟩, h⟩ := h
  unfold guardCode at h
  split at h
  case h_2 => cases h
  rename_i c id1 o1 id2 o2 d' X
  split at h
  case h_2 => cases h
  rename_i x1 x2 x3 x4 e1 e2
  unfold guardOps at h
  split at h
  case h_2 => cases h
  rename_i a cl b a' c' b' d t c'' t2 p1 p2 p3 p4 p5 p6 p7 p8 p9 p10 p11 p12
  simp only [Bool.and_eq_true, decide_eq_true_eq] at h
  obtain ⟨⟨hcl, ht⟩, ⟨⟨⟨⟨⟨⟨⟨rfl, rfl⟩, rfl⟩, rfl⟩, ha⟩, hb⟩, hc'⟩, hd⟩⟩ := h
  obtain ⟨callee, cargs, ctys⟩ := cl
  have hcal : callee = .builtin .recover := by
    simp only at hcl
    split at hcl
    · rfl
    · cases hcl
  subst hcal
  obtain ⟨ms, hms⟩ : ∃ ms, P.underlying t = some (.interface ms) := by
    split at ht
    · rename_i ms e; exact ⟨_, e⟩
    · cases ht
  have q0 : o1[0]? = some x1 := by rw [← Array.getElem?_toList, e1]; rfl
  have q1 : o1[1]? = some x2 := by rw [← Array.getElem?_toList, e1]; rfl
  have q2 : o2[0]? = some x3 := by rw [← Array.getElem?_toList, e2]; rfl
  have q3 : o2[1]? = some x4 := by rw [← Array.getElem?_toList, e2]; rfl
  have s1 : o1.size = 2 := by rw [← Array.length_toList, e1]; rfl
  have s2 : o2.size = 2 := by rw [← Array.length_toList, e2]; rfl
  have w1 : ∀ ts, Region.wanted x1 ts = true := fun ts => by simp [Region.wanted, p2]
  have w2 : ∀ ts, Region.wanted x2 ts = true := fun ts => by simp [Region.wanted, p5]
  have w3 : ∀ ts, Region.wanted x3 ts = true := fun ts => by simp [Region.wanted, p8]
  have w4 : ∀ ts, Region.wanted x4 ts = true := fun ts => by simp [Region.wanted, p11]
  refine ⟨?_, fun v w => ?_⟩
  · refine callsDIn_of_wpSIn hfn hc trivial fun c₀ cs hu => ?_
    obtain ⟨A, hA⟩ : ∃ A : Act, A = { tmps := args ++ Array.replicate (fn.ntmps - args.size) undef, defers := [] } := ⟨_, rfl⟩
    have hsz : fn.ntmps ≤ A.tmps.size := by rw [hA]; simp; omega
    have hdef : A.defers = [] := by rw [hA]
    rw [← hA]
    clear hA
    have hrec : recoverD (c₀ :: cs) = none := by simp [recoverD, hu]
    refine wpSIn_seq (wpSIn_region ?_)
    rw [s1]
    simp only [List.range, List.range.loop, wpOpsSIn, q0, q1, w1, w2, if_true]
    refine ⟨fun _ _ => trivial, ?_⟩
    have r1 : ∀ ρ, (execOp ρ x1).run P w = .ok .recover w := fun ρ => by simp [execOp, p3, resolve, invoke, builtin]
    rw [r1, hrec]
    refine ⟨fun _ _ => trivial, ?_⟩
    have r2 : ∀ ρ, (execOp ρ x2).run P w = .ok (.value (ρ (.tmp a'))) w := fun ρ => by simp [execOp, p6]
    rw [r2, p1, p4]
    simp only []
    have z1 : ∀ (A : Act) i v, (A.put (some i) v).tmps.size = A.tmps.size := fun A i v => by simp [Act.put]
    have z2 : ∀ (A : Act) i v, (A.put (some i) v).defers = A.defers := fun A i v => rfl
    rw [put_eval (Nat.lt_of_lt_of_le ha hsz)]
    obtain ⟨A1, hA1⟩ : ∃ A1, A1 = (A.put (some a') .nilIface).put (some b') .nilIface := ⟨_, rfl⟩
    have v1 : A1.eval (.tmp b') = .nilIface := by rw [hA1]; exact put_eval (by rw [z1]; exact Nat.lt_of_lt_of_le hb hsz)
    have hsz1 : fn.ntmps ≤ A1.tmps.size := by rw [hA1, z1, z1]; exact hsz
    have hd1 : A1.defers = [] := by rw [hA1, z2, z2]; exact hdef
    rw [← hA1]
    refine wpSIn_seq (wpSIn_region ?_)
    rw [s2]
    simp only [List.range, List.range.loop, wpOpsSIn, q2, q3, w3, w4, if_true]
    refine ⟨fun _ _ => trivial, ?_⟩
    have r3 : ∀ ρ, (execOp ρ x3).run P w = .ok (.value (ρ (.tmp b'))) w := fun ρ => by simp [execOp, p9]
    rw [r3, v1, p7]
    simp only []
    refine ⟨fun _ _ => trivial, ?_⟩
    have v2 : (A1.put (some c'') .nilIface).eval (.tmp c'') = .nilIface := put_eval (Nat.lt_of_lt_of_le hc' hsz1)
    have r4 : (execOp (A1.put (some c'') .nilIface).eval x4).run P w = .ok (.value (.bool false)) w := by
      have he : (Op.equal t .nilIface .nilIface).run P w = .ok true w := by
        have : ∀ d, (Op.equalIn (d + 1) t .nilIface .nilIface).run P w = .ok true w := fun d => by simp [Op.equalIn, run_under _ hms]
        exact this 9999
      have hev : (A1.put (some c'') .nilIface).eval (.const .nilIface) = .nilIface := rfl
      simp [execOp, p12, v2, hev, eqGuard, binOp, he]
    rw [r4, p10]
    simp only []
    refine wpSIn_cond (t := false) (put_eval (by rw [z1]; exact Nat.lt_of_lt_of_le hd hsz1)) ?_
    refine wpSIn_of_wpIn rfl (wpIn_skip ?_)
    refine ⟨by rw [z2, z2]; exact hd1, .returning, by rw [← hu], ?_⟩
    refine ⟨.tuple #[], ?_, hR _⟩
    simp [Go.results, hres]
  · simp only [callFunc, Sem.run_bind, run_program, Result.andThen_ok, hfn]
    simp only [hname, Bool.false_eq_true, if_false, hc, Option.isNone_some]
    rfl
end Go.Proofs.YtkahmlbhgahbbaaGreat.Abs
