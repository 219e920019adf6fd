/- Every operation but a call: sound. -/
import Derived.Test.YtkahmlbhgahbbaaGreatAbsS
import Derived.Laws.IdiomStrings
set_option linter.unusedSimpArgs false
set_option linter.unusedVariables false
set_option linter.unusedSectionVars false
set_option linter.constructorNameAsVariable false
namespace Go.Proofs.YtkahmlbhgahbbaaGreat.Abs
section ops
variable {S : Sta} {w0 : World} {ρ : Ren} {h : AH} {w : World}

theorem copy_sound (ro : RoOk S w0) (r : Rel S w0 ρ h w) {esz : Nat} {d s v : AV} {h' : AH} (ha : aCopy S.B esz d s h = .val v h')
    {t ty e : TypeId} (ht : S.P.underlying t = some (.slice e)) (he : tsize S.P e = some esz) {ts : List TypeId} {cd cs : Value} (hd : VR S ρ d cd) (hs : VR S ρ s cs) :
    ∃ w' c, Stp S w0 ρ h w ρ h' w' ∧ VR S ρ v c ∧ (Builtin.copy_ (t :: ts).toArray ty #[cd, cs]).run S.P w = .ok c w' := by
  unfold aCopy at ha
  cases hsrc : srcOf S.B h esz s with
  | none => simp [hsrc] at ha
  | some nx =>
    obtain ⟨sn, xs⟩ := nx
    simp only [hsrc] at ha
    obtain ⟨hlen, hxl, hxc, ccs, hvs, hfirst⟩ := srcOf_sound ro r hsrc hs
    split at ha
    · cases ha
      simp only [VR] at hd; subst hd
      refine ⟨w, .int .i64 0, Stp.refl r, rfl, ?_⟩
      have := hfirst 0 (Nat.zero_le _)
      simp [Builtin.copy_, run_under _ ht, hlen, run_size _ he, goInt, this]
    · rename_i a dn e0
      split at ha
      · cases ha
      · rename_i hb
        have := Nat.eq_of_beq_eq_true hb; subst this
        obtain ⟨x, cap, rfl, hsl⟩ := hd
        split at ha
        · rename_i hmin
          cases ha
          have := hfirst 0 (Nat.zero_le _)
          refine ⟨w, .int .i64 0, Stp.refl r, rfl, ?_⟩
          have hmin' : Nat.min sn dn = 0 := hmin
          simp [Builtin.copy_, run_under _ ht, hlen, run_size _ he, goInt, hmin', this, storeCells]
        · rename_i m hmin
          have hmin' : Nat.min sn dn = m + 1 := hmin
          have hle1 : m + 1 ≤ sn := by rw [← hmin']; exact Nat.min_le_left _ _
          have hle2 : m + 1 ≤ dn := by rw [← hmin']; exact Nat.min_le_right _ _
          split at ha
          · cases ha
          · rename_i hro
            split at ha
            · rename_i ds hg
              split at ha
              · cases ha
              · rename_i ds' hp
                simp only [forceL_eq, VO.val.injEq] at ha
                obtain ⟨rfl, rfl⟩ := ha
                rcases hsl with ⟨h0, _⟩ | ⟨hadr, _, _⟩
                · omega
                · unfold AddrR at hadr
                  rw [hro] at hadr
                  obtain ⟨l, hl, rfl⟩ := hadr
                  obtain ⟨w', q1, q2⟩ := put_stp r hg hl hp (fun v hv => hxc v (List.mem_of_mem_take hv)) (hvs.take ((m + 1) * e0))
                  refine ⟨w', .int .i64 ((m + 1 : Nat) : Int), q2, rfl, ?_⟩
                  have := hfirst (m + 1) hle1
                  simp [Builtin.copy_, run_under _ ht, hlen, run_size _ he, goInt, hmin', this, q1]
            · cases ha
    · cases ha

theorem aMax_sound {isMax : Bool} : ∀ (rest : List AV) (x v : AV), aMax isMax x rest = some v → ∀ (cx : Value) (cs : List Value), VR S ρ x cx → VRs S ρ rest cs →
    ∃ c, (cs.foldlM (if isMax then Builtin.max2 else Builtin.min2) cx).run S.P w = .ok c w ∧ VR S ρ v c := by
  intro rest
  induction rest with
  | nil =>
    intro x v hm cx cs hx hcs
    cases cs with
    | cons _ _ => exact hcs.elim
    | nil => simp only [aMax, Option.some.injEq] at hm; subst hm; exact ⟨cx, by simp, hx⟩
  | cons y rest ih =>
    intro x v hm cx cs hx hcs
    cases cs with
    | nil => exact hcs.elim
    | cons cy cs =>
      obtain ⟨hy, hcs⟩ := hcs
      unfold aMax at hm
      split at hm
      · rename_i h1; cases h1
      · rename_i k a l b r' h1
        cases h1
        simp only [VR] at hx hy; subst hx; subst hy
        split at hm
        · split at hm
          · rename_i hk; subst hk
            obtain ⟨c, h1, h2⟩ := ih _ _ hm (.int k (if b > a then b else a)) cs rfl hcs
            refine ⟨c, ?_, h2⟩
            simpa [Builtin.max2] using h1
          · cases hm
        · split at hm
          · rename_i hk; subst hk
            obtain ⟨c, h1, h2⟩ := ih _ _ hm (.int k (if b < a then b else a)) cs rfl hcs
            refine ⟨c, ?_, h2⟩
            simpa [Builtin.min2] using h1
          · cases hm
      · cases hm

theorem bytesOf_sound : ∀ (cs : List AV) (s : List Nat), bytesOf cs = some s → ∀ (ccs : List Value), VRs S ρ cs ccs → ∃ ns : List Int, ccs = ns.map (Value.int .u8) ∧ ns = s.map (fun (n : Nat) => (n : Int)) ∧ ∀ n ∈ s, n < 256 := by
  intro cs
  induction cs with
  | nil => intro s hb ccs hc; cases ccs with
    | nil => simp only [bytesOf, Option.some.injEq] at hb; subst hb; exact ⟨[], rfl, rfl, by simp⟩
    | cons _ _ => exact hc.elim
  | cons c cs ih =>
    intro s hb ccs hc
    cases ccs with
    | nil => exact hc.elim
    | cons y ccs =>
      unfold bytesOf at hb
      split at hb
      · rename_i h1; cases h1
      · rename_i n r h1
        cases h1
        split at hb
        · rename_i m
          split at hb
          · rename_i hlt
            split at hb
            · rename_i l hl
              cases hb
              obtain ⟨ns, e1, e2, e3⟩ := ih _ hl _ hc.2
              have hy : y = .int .u8 (m : Int) := hc.1
              subst hy
              refine ⟨(m : Int) :: ns, by simp [e1], by simp [e2], fun n hn => ?_⟩
              rcases List.mem_cons.1 hn with rfl | hn
              · simpa [Nat.blt_eq] using hlt
              · exact e3 n hn
            · cases hb
          · cases hb
        · cases hb
      · cases hb
end ops
end Go.Proofs.YtkahmlbhgahbbaaGreat.Abs
