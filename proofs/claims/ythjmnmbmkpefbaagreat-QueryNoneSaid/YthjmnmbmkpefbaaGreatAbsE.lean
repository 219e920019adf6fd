/- Functions of the library without a body: sound. -/
import Derived.Test.YthjmnmbmkpefbaaGreatAbsU
import Derived.KernelRfl
set_option linter.unusedSimpArgs false
set_option linter.unusedVariables false
set_option linter.unusedSectionVars false
set_option linter.constructorNameAsVariable false
namespace Go.Proofs.YthjmnmbmkpefbaaGreat.Abs

theorem find_idx {fn : Func} (hn : fn.name = "internal/bytealg.IndexByteString") (ho : fn.origin = "") : Extern.findNext fn = none ∧ Extern.find fn = some Extern.BytealgIndexByte.indexByte := by
  unfold Extern.findNext Extern.find
  simp only [hn, ho]
  exact ⟨by kernel_rfl, by kernel_rfl⟩

theorem xkFn_some {P : Program} {f : FuncId} {k : XK} (h : xkFn P f = some k) : ∃ fn, P.funcs[f]? = some fn ∧ fn.body = none ∧ fn.origin = "" ∧ xkOf fn.name = some k := by
  unfold xkFn at h
  split at h
  · rename_i fn hfn
    split at h
    · rename_i hb
      split at h
      · rename_i ho; exact ⟨fn, hfn, hb, ho, h⟩
      · cases h
    · cases h
  · cases h

theorem run_callFunc_extern {P : Program} {f : FuncId} {fn : Func} {args : Array Value} {w : World} {e : Array Value → Sem Value} (hfn : P.funcs[f]? = some fn) (hb : fn.body = none) (hname : (fn.name == "runtime.NumGoroutine") = false)
    (h1 : Extern.findNext fn = none) (h2 : Extern.find fn = some e) : (callFunc f args).run P w = ((e args).run P w).andThen fun c w' => .ok (.value c) w' := by
  simp only [callFunc, Sem.run_bind, run_program, Result.andThen_ok, hfn]
  simp only [hname, Bool.false_eq_true, if_false, hb, Option.isNone_none, if_true, Sem.run_bind, run_mark, Result.andThen_ok, h1, h2]
  simp

/-- Where a byte stands first, in the model's words. -/
theorem find_range {b : ByteArray} {c : UInt8} : (List.range b.size).find? (fun i => b[i]! == c) = idxB (byteL b.data.toList) c.toNat := by
  have key : ∀ (l : List UInt8) (k : Nat) (g : Nat → Bool), (∀ i x, l[i]? = some x → g (k + i) = (x == c)) → (List.range' k l.length).find? g = (idxB (byteL l) c.toNat).map (k + ·) := by
    intro l
    induction l with
    | nil => intro k g _; rfl
    | cons x l ih =>
      intro k g hg
      have h0 : g k = (x == c) := hg 0 x rfl
      have hbeq : (x == c) = Nat.beq x.toNat c.toNat := by
        rw [Bool.eq_iff_iff]
        simp only [beq_iff_eq, Nat.beq_eq]
        exact UInt8.toNat_inj.symm
      simp only [List.length_cons, List.range'_succ, List.find?_cons, h0, hbeq, byteL, idxB]
      cases hx : Nat.beq x.toNat c.toNat with
      | true => rfl
      | false =>
        simp only
        rw [ih (k + 1) g fun i y hy => by rw [Nat.add_assoc, Nat.add_comm 1 i]; exact hg (i + 1) y (by simpa using hy)]
        cases idxB (byteL l) c.toNat with
        | none => rfl
        | some i => simp; omega
  have h := key b.data.toList 0 (fun i => b[i]! == c) fun i x hx => by
    have hi : i < b.data.size := by simpa using (List.getElem?_eq_some_iff.1 hx).1
    have hx' : b.data[i] = x := by
      rw [Array.getElem?_toList, Array.getElem?_eq_getElem hi] at hx
      exact Option.some.inj hx
    have : b[i]! = x := by
      rw [getElem!_pos b i hi]; exact hx'
    simp only [Nat.zero_add, this]
  rw [List.range_eq_range']
  have hs : b.data.toList.length = b.size := rfl
  rw [hs] at h
  rw [h]
  cases idxB (byteL b.data.toList) c.toNat <;> simp

theorem idxB_lt : ∀ {l : List Nat} {b i : Nat}, idxB l b = some i → i < l.length := by
  intro l
  induction l with
  | nil => intro b i h; cases h
  | cons x l ih =>
    intro b i h
    simp only [idxB] at h
    split at h
    · cases h; simp
    · split at h
      · rename_i j hj; cases h; have := ih hj; simp; omega
      · cases h

section ops
variable {S : Sta} {w0 : World} {ρ : Ren} {h : AH} {w : World}
theorem ext_sound (r : Rel S w0 ρ h w) {f : FuncId} {k : XK} (hk : xkFn S.P f = some k) {vs : List AV} {cargs : Array Value} (hv : VRs S ρ vs cargs.toList) {v : AV} {h' : AH} (he : aExt k vs h = .val v h') :
    OpRes S w0 ρ h w ((callFunc f cargs).run S.P w) v h' := by
  obtain ⟨fn, hfn, hb, ho, hx⟩ := xkFn_some hk
  cases k with
  | idxByte =>
    have hname : fn.name = "internal/bytealg.IndexByteString" := by
      unfold xkOf at hx
      split at hx
      · assumption
      · cases hx
    obtain ⟨e1, e2⟩ := find_idx hname ho
    rw [run_callFunc_extern hfn hb (by rw [hname]; decide) e1 e2]
    unfold aExt at he
    simp only at he
    split at he
    · rename_i s n
      split at he
      · rename_i bn
        split at he
        · rename_i hlt
          have hlt' : bn < 256 := by simpa using hlt
          obtain ⟨c1, c2, hcs⟩ : ∃ c1 c2, cargs = #[c1, c2] := by
            have hl := hv.length
            match hc : cargs.toList, hl with
            | [c1, c2], _ => exact ⟨c1, c2, by apply Array.ext'; simpa using hc⟩
          subst hcs
          obtain ⟨⟨b, rfl, rfl⟩, rfl, _⟩ := hv
          have hrun : (Extern.BytealgIndexByte.indexByte #[.string b, .int .u8 (.ofNat bn)]).run S.P w =
              (match (List.range b.size).find? fun i => b[i]! == bn.toUInt8 with | some i => (pure (goInt i) : Sem Value) | none => pure (goInt (-1))).run S.P w := rfl
          rw [hrun, find_range]
          have hbn : bn.toUInt8.toNat = bn := by
            rw [Nat.toUInt8, UInt8.toNat_ofNat']
            exact Nat.mod_eq_of_lt hlt'
          rw [hbn]
          split at he
          · rename_i i hi
            cases he
            rw [hi]
            exact OpRes.val r (v := .int .i64 (.ofNat i)) (c := .int .i64 (Int.ofNat i)) (by simp only [VR]) rfl
          · rename_i hi
            cases he
            rw [hi]
            exact OpRes.val r (v := .int .i64 (.negSucc 0)) (c := .int .i64 (-1)) (by simp only [VR]; rfl) rfl
        · cases he
      · cases he
    · cases he
end ops
end Go.Proofs.YthjmnmbmkpefbaaGreat.Abs
