/- Functions of the library without a body: sound. -/
import Derived.Test.YtkahmlbhgahbbaaGreatAbsU
import Derived.Test.YtkahmlbhgahbbaaGreatAbsH
import Derived.KernelRfl
set_option linter.unusedSimpArgs false
set_option linter.unusedVariables false
set_option linter.unusedSectionVars false
set_option linter.constructorNameAsVariable false
namespace Go.Proofs.YtkahmlbhgahbbaaGreat.Abs

theorem find_valueOf {fn : Func} (hn : fn.name = "internal/reflectlite.ValueOf") (ho : fn.origin = "") : Extern.findNext fn = none ∧ Extern.find fn = some (fun args => Extern.ReflectliteValue.unpack (args.getD 0 (.tuple #[]))) := by
  unfold Extern.findNext Extern.find
  simp only [hn, ho]
  exact ⟨by kernel_rfl, by kernel_rfl⟩
theorem find_rvLen {fn : Func} (hn : fn.name = "(internal/reflectlite.Value).Len") (ho : fn.origin = "") : Extern.findNext fn = none ∧ Extern.find fn = some (Extern.ReflectliteValue.method (Extern.ReflectliteValue.valueError "reflectlite.Value.Len" 0) Extern.ReflectliteValue.len) := by
  unfold Extern.findNext Extern.find
  simp only [hn, ho]
  exact ⟨by kernel_rfl, by kernel_rfl⟩
theorem find_swapper {fn : Func} (hn : fn.name = "internal/reflectlite.Swapper") (ho : fn.origin = "") : Extern.findNext fn = none ∧ Extern.find fn = some (Extern.ReflectliteSwapper.swapper "internal/reflectlite" (Extern.ReflectliteValue.valueError "Swapper")) := by
  unfold Extern.findNext Extern.find
  simp only [hn, ho]
  exact ⟨by kernel_rfl, by kernel_rfl⟩

theorem find_addI64 {fn : Func} (hn : fn.name = "sync/atomic.AddInt64") (ho : fn.origin = "") : Extern.findNext fn = none ∧ Extern.find fn = some (Extern.Atomic.update (Op.intArith .add) .i64 true) := by
  unfold Extern.findNext Extern.find
  simp only [hn, ho]
  exact ⟨by kernel_rfl, by kernel_rfl⟩
theorem find_idx {fn : Func} (hn : fn.name = "internal/bytealg.IndexByteString") (ho : fn.origin = "") : Extern.findNext fn = none ∧ Extern.find fn = some Extern.BytealgIndexByte.indexByte := by
  unfold Extern.findNext Extern.find
  simp only [hn, ho]
  exact ⟨by kernel_rfl, by kernel_rfl⟩

theorem xkFn_some {P : Program} {f : FuncId} {k : XK} (h : xkFn P f = some k) : ∃ fn, P.funcs[f]? = some fn ∧ fn.body = none ∧ fn.origin = "" ∧ xkOf P fn.name = some k := by
  unfold xkFn at h
  split at h
  · rename_i fn hfn
    split at h
    · rename_i hb
      split at h
      · rename_i ho; exact ⟨fn, hfn, hb, ho, h⟩
      · cases h
    · cases h
  · cases h

theorem run_callFunc_extern {P : Program} {f : FuncId} {fn : Func} {args : Array Value} {w : World} {e : Array Value → Sem Value} (hfn : P.funcs[f]? = some fn) (hb : fn.body = none) (hname : (fn.name == "runtime.NumGoroutine") = false)
    (h1 : Extern.findNext fn = none) (h2 : Extern.find fn = some e) : (callFunc f args).run P w = ((e args).run P w).andThen fun c w' => .ok (.value c) w' := by
  simp only [callFunc, Sem.run_bind, run_program, Result.andThen_ok, hfn]
  simp only [hname, Bool.false_eq_true, if_false, hb, Option.isNone_none, if_true, Sem.run_bind, run_mark, Result.andThen_ok, h1, h2]
  simp

/-- Where a byte stands first, in the model's words. -/
theorem find_range {b : ByteArray} {c : UInt8} : (List.range b.size).find? (fun i => b[i]! == c) = idxB (byteL b.data.toList) c.toNat := by
  have key : ∀ (l : List UInt8) (k : Nat) (g : Nat → Bool), (∀ i x, l[i]? = some x → g (k + i) = (x == c)) → (List.range' k l.length).find? g = (idxB (byteL l) c.toNat).map (k + ·) := by
    intro l
    induction l with
    | nil => intro k g _; rfl
    | cons x l ih =>
      intro k g hg
      have h0 : g k = (x == c) := hg 0 x rfl
      have hbeq : (x == c) = Nat.beq x.toNat c.toNat := by
        rw [Bool.eq_iff_iff]
        simp only [beq_iff_eq, Nat.beq_eq]
        exact UInt8.toNat_inj.symm
      simp only [List.length_cons, List.range'_succ, List.find?_cons, h0, hbeq, byteL, idxB]
      cases hx : Nat.beq x.toNat c.toNat with
      | true => rfl
      | false =>
        simp only
        rw [ih (k + 1) g fun i y hy => by rw [Nat.add_assoc, Nat.add_comm 1 i]; exact hg (i + 1) y (by simpa using hy)]
        cases idxB (byteL l) c.toNat with
        | none => rfl
        | some i => simp; omega
  have h := key b.data.toList 0 (fun i => b[i]! == c) fun i x hx => by
    have hi : i < b.data.size := by simpa using (List.getElem?_eq_some_iff.1 hx).1
    have hx' : b.data[i] = x := by
      rw [Array.getElem?_toList, Array.getElem?_eq_getElem hi] at hx
      exact Option.some.inj hx
    have : b[i]! = x := by
      rw [getElem!_pos b i hi]; exact hx'
    simp only [Nat.zero_add, this]
  rw [List.range_eq_range']
  have hs : b.data.toList.length = b.size := rfl
  rw [hs] at h
  rw [h]
  cases idxB (byteL b.data.toList) c.toNat <;> simp

theorem idxB_lt : ∀ {l : List Nat} {b i : Nat}, idxB l b = some i → i < l.length := by
  intro l
  induction l with
  | nil => intro b i h; cases h
  | cons x l ih =>
    intro b i h
    simp only [idxB] at h
    split at h
    · cases h; simp
    · split at h
      · rename_i j hj; cases h; have := ih hj; simp; omega
      · cases h

theorem memN_iff : ∀ {t : Nat} {l : List Nat}, memN t l = true → t ∈ l := by
  intro t l
  induction l with
  | nil => intro h; cases h
  | cons x l ih =>
    intro h
    simp only [memN] at h
    split at h
    · rename_i e; rw [Nat.eq_of_beq_eq_true e]; simp
    · exact List.mem_cons_of_mem _ (ih h)

theorem slOk_some {P : Program} {t : Nat} (h : slOk P t = true) : ∃ i e e', P.info? t = some i ∧ i.desc = .slice e ∧ P.underlying t = some (.slice e') ∧ tvar P t = some (false, 1) ∧ P.packed t = false ∧ elemOk P e = true := by
  unfold slOk at h
  split at h
  · rename_i i hi
    split at h
    · rename_i e he
      split at h
      · rename_i e' hu
        split at h
        · rename_i hv
          split at h
          · rename_i hp; exact ⟨i, e, e', hi, he, hu, hv, hp, h⟩
          · cases h
        · cases h
      · cases h
    · cases h
  · cases h

theorem slTypes_mem {P : Program} {t : Nat} (h : t ∈ slTypes P) : slOk P t = true := (List.mem_filter.1 h).2

theorem run_under_plain {P : Program} {w : World} {t : TypeId} {i : TypeInfo} (hi : P.info? t = some i) (hn : ∀ n u, i.desc ≠ .named n u) : (Extern.Rtype.under t).run P w = .ok (t, i) w := by
  unfold Extern.Rtype.under
  simp only [Sem.run_bind, run_info w hi, Result.andThen_ok]
  first
    | rfl
    | (split
       · rename_i n u h; exact absurd h (hn n u)
       · rfl)

theorem run_kind_slice {P : Program} {w : World} {t e : TypeId} {i : TypeInfo} (hi : P.info? t = some i) (hd : i.desc = .slice e) : (Extern.Rtype.kind t).run P w = .ok 23 w := by
  unfold Extern.Rtype.kind
  simp only [Sem.run_bind, run_under_plain hi (fun n u h => by rw [hd] at h; cases h), Result.andThen_ok, hd]
  rfl

theorem run_kind_elem {P : Program} {w : World} {t : TypeId} (h : elemOk P t = true) : ∃ k i, (Extern.Rtype.kind t).run P w = .ok k w ∧ P.info? t = some i := by
  unfold elemOk at h
  split at h
  · rename_i i hi
    have fin : ∀ (j : TypeInfo) (u : TypeId), (Extern.Rtype.under t).run P w = .ok (u, j) w → (j.desc = .bool ∨ j.desc = .string ∨ (∃ e, j.desc = .pointer e) ∨ (∃ e, j.desc = .slice e) ∨ (∃ a b, j.desc = .map a b) ∨ ∃ fs, j.desc = .struct fs) →
        ∃ k i, (Extern.Rtype.kind t).run P w = .ok k w ∧ P.info? t = some i := by
      intro j u hu hj
      unfold Extern.Rtype.kind
      rcases hj with hj | hj | ⟨_, hj⟩ | ⟨_, hj⟩ | ⟨_, _, hj⟩ | ⟨_, hj⟩ <;>
        exact ⟨_, i, by simp only [Sem.run_bind, hu, Result.andThen_ok, hj]; rfl, hi⟩
    have plain : (∀ n u, i.desc ≠ .named n u) → (Extern.Rtype.under t).run P w = .ok (t, i) w := run_under_plain hi
    split at h
    · rename_i hd; exact fin i t (plain fun n u e => by rw [hd] at e; cases e) (.inl hd)
    · rename_i hd; exact fin i t (plain fun n u e => by rw [hd] at e; cases e) (.inr (.inl hd))
    · rename_i hd; exact fin i t (plain fun n u e => by rw [hd] at e; cases e) (.inr (.inr (.inl ⟨_, hd⟩)))
    · rename_i hd; exact fin i t (plain fun n u e => by rw [hd] at e; cases e) (.inr (.inr (.inr (.inl ⟨_, hd⟩))))
    · rename_i hd; exact fin i t (plain fun n u e => by rw [hd] at e; cases e) (.inr (.inr (.inr (.inr (.inl ⟨_, _, hd⟩)))))
    · rename_i hd; exact fin i t (plain fun n u e => by rw [hd] at e; cases e) (.inr (.inr (.inr (.inr (.inr ⟨_, hd⟩)))))
    · rename_i n u hd
      split at h
      · rename_i j hj
        have hu : (Extern.Rtype.under t).run P w = .ok (u, j) w := by
          unfold Extern.Rtype.under
          simp only [Sem.run_bind, run_info w hi, Result.andThen_ok, hd, run_info w hj]
          rfl
        split at h
        · rename_i hd; exact fin j u hu (.inl hd)
        · rename_i hd; exact fin j u hu (.inr (.inl hd))
        · rename_i hd; exact fin j u hu (.inr (.inr (.inl ⟨_, hd⟩)))
        · rename_i hd; exact fin j u hu (.inr (.inr (.inr (.inl ⟨_, hd⟩))))
        · rename_i hd; exact fin j u hu (.inr (.inr (.inr (.inr (.inl ⟨_, _, hd⟩)))))
        · rename_i hd; exact fin j u hu (.inr (.inr (.inr (.inr (.inr ⟨_, hd⟩)))))
        · cases h
      · cases h
    · cases h
  · cases h

theorem run_elem {P : Program} {w : World} {t e : TypeId} {i : TypeInfo} (hi : P.info? t = some i) (hd : i.desc = .slice e) : (Extern.Rtype.elem? t).run P w = .ok (some e) w := by
  unfold Extern.Rtype.elem?
  simp only [Sem.run_bind, run_under_plain hi (fun n u h => by rw [hd] at h; cases h), Result.andThen_ok, hd]
  rfl

theorem run_partsAny {P : Program} {w : World} {t : Nat} {x : Addr} : (Extern.ReflectliteValue.partsAny (.agg #[.pointer (some ⟨P.globals.size, t, none⟩), .pointer (some x), .int .u64 (.ofNat 151)])).run P w = .ok (some (t, x, 151)) w := by
  have h1 : Extern.ReflectliteValue.partsAny (.agg #[.pointer (some ⟨P.globals.size, t, none⟩), .pointer (some x), .int .u64 (.ofNat 151)]) =
      (do pure (some (← Extern.Rtype.ofHandle (.pointer (some ⟨P.globals.size, t, none⟩)), x, 151))) := rfl
  have hh : handleType P (.pointer (some ⟨P.globals.size, t, none⟩)) = some t := by simp [handleType]
  have h2 : (Extern.Rtype.ofHandle (.pointer (some ⟨P.globals.size, t, none⟩))).run P w = .ok t w := by
    unfold Extern.Rtype.ofHandle
    simp only [Sem.run_bind, run_program, Result.andThen_ok, hh]
    rfl
  rw [h1]
  simp only [Sem.run_bind, h2, Result.andThen_ok, Sem.run_pure]

theorem run_parts {P : Program} {w : World} {t : Nat} {x : Addr} (hp : P.packed t = false) : (Extern.ReflectliteValue.parts (.agg #[.pointer (some ⟨P.globals.size, t, none⟩), .pointer (some x), .int .u64 (.ofNat 151)])).run P w = .ok (some (t, x, 151)) w := by
  unfold Extern.ReflectliteValue.parts
  have hn : (Extern.Rtype.noPack "a Value asked or handed on" t).run P w = .ok () w := by
    unfold Extern.Rtype.noPack
    simp only [Sem.run_bind, run_program, Result.andThen_ok, hp]
    rfl
  simp only [Sem.run_bind, run_partsAny, Result.andThen_ok, hn, Sem.run_pure]

theorem run_len_slice {P : Program} {w : World} {t e' : Nat} (hu : P.underlying t = some (.slice e')) {sa : Option Addr} {m cap : Nat} : (Builtin.len_ #[t] 0 #[.slice sa m cap]).run P w = .ok (.int .i64 (.ofNat m)) w := by
  unfold Builtin.len_
  have hu' : (underlying t).run P w = .ok (.slice e') w := run_underlying hu w
  show Sem.run P (underlying t >>= _) w = _
  simp only [Sem.run_bind, hu', Result.andThen_ok]
  rfl

theorem run_rvLen {P : Program} {w : World} {t e e' : Nat} {i : TypeInfo} (hi : P.info? t = some i) (hd : i.desc = .slice e) (hu : P.underlying t = some (.slice e')) (hp : P.packed t = false) {x : Addr} {sa : Option Addr} {m cap : Nat}
    (hl : (loadVar t x).run P w = .ok (.slice sa m cap) w) :
    (Extern.ReflectliteValue.method (Extern.ReflectliteValue.valueError "reflectlite.Value.Len" 0) Extern.ReflectliteValue.len #[.agg #[.pointer (some ⟨P.globals.size, t, none⟩), .pointer (some x), .int .u64 (.ofNat 151)]]).run P w = .ok (.int .i64 (.ofNat m)) w := by
  have h0 : ∀ (z : Sem Value) (g : TypeId → Addr → Nat → Nat → Sem Value) (u : Value), Extern.ReflectliteValue.method z g #[u] = (do
      match ← Extern.ReflectliteValue.parts u with
      | none => z
      | some (t, a, fl) => g t a fl (fl % 32)) := fun _ _ _ => rfl
  rw [h0]
  simp only [Sem.run_bind, run_parts hp, Result.andThen_ok]
  have hlen : (Extern.ReflectliteValue.len t x 151 (151 % 32)).run P w = .ok (.int .i64 (.ofNat m)) w := by
    unfold Extern.ReflectliteValue.len
    have hc : ([17, 18, 21, 23, 24].contains (151 % 32)) = true := by decide
    simp only [hc, Bool.not_true, Bool.false_eq_true, if_false]
    simp only [Sem.run_bind, run_under_plain hi (fun n u h => by rw [hd] at h; cases h), Result.andThen_ok, hd, Sem.run_pure, hl]
    exact run_len_slice hu
  exact hlen

theorem run_swapper {P : Program} {w : World} {t e : Nat} {i : TypeInfo} (hi : P.info? t = some i) (hd : i.desc = .slice e) (hel : elemOk P e = true) {sa : Option Addr} {n cap k f : Nat} (hn : (n = 0 ∧ k = 1) ∨ (n = 1 ∧ k = 2))
    (hf : P.funcs.findIdx? (·.name == "internal/reflectlite" ++ ".Swapper$" ++ toString k) = some f) :
    (Extern.ReflectliteSwapper.swapper "internal/reflectlite" (Extern.ReflectliteValue.valueError "Swapper") #[.iface t (.slice sa n cap)]).run P w = .ok (.func (.func f) #[] #[]) w := by
  obtain ⟨ke, ie, hke, hie⟩ := run_kind_elem (w := w) hel
  have hlit : (Extern.ReflectliteSwapper.literal "internal/reflectlite" k #[]).run P w = .ok (.func (.func f) #[] #[]) w := by
    unfold Extern.ReflectliteSwapper.literal
    simp only [Sem.run_bind, run_program, Result.andThen_ok, hf]
    rfl
  show Sem.run P (Extern.Rtype.elem? t >>= _) w = _
  simp only [Sem.run_bind, run_elem hi hd, Result.andThen_ok]
  simp only [Sem.run_bind, run_info w hie, hke, Result.andThen_ok, Extern.Rtype.handle, run_program, Sem.run_pure]
  rcases hn with ⟨rfl, rfl⟩ | ⟨rfl, rfl⟩
  · exact hlit
  · exact hlit

theorem xkOf_some {P : Program} {n : String} {k : XK} (h : xkOf P n = some k) :
    (n = "internal/bytealg.IndexByteString" ∧ k = .idxByte) ∨ (n = "internal/reflectlite.ValueOf" ∧ k = .valueOf (slTypes P)) ∨ (n = "(internal/reflectlite.Value).Len" ∧ k = .rvLen (slTypes P)) ∨
    (n = "internal/reflectlite.Swapper" ∧ ∃ f1 f2, k = .swapper f1 f2 (slTypes P) ∧ P.funcs.findIdx? (·.name == "internal/reflectlite.Swapper$1") = some f1 ∧ P.funcs.findIdx? (·.name == "internal/reflectlite.Swapper$2") = some f2) ∨ (n = "sync/atomic.AddInt64" ∧ k = .addI64) := by
  unfold xkOf at h
  by_cases h1 : n = "internal/bytealg.IndexByteString"
  · rw [if_pos h1] at h; cases h; exact .inl ⟨h1, rfl⟩
  · rw [if_neg h1] at h
    by_cases h2 : n = "internal/reflectlite.ValueOf"
    · rw [if_pos h2] at h; cases h; exact .inr (.inl ⟨h2, rfl⟩)
    · rw [if_neg h2] at h
      by_cases h3 : n = "(internal/reflectlite.Value).Len"
      · rw [if_pos h3] at h; cases h; exact .inr (.inr (.inl ⟨h3, rfl⟩))
      · rw [if_neg h3] at h
        by_cases h4 : n = "internal/reflectlite.Swapper"
        · rw [if_pos h4] at h
          split at h
          · rename_i f1 f2 e1 e2; cases h; exact .inr (.inr (.inr (.inl ⟨h4, f1, f2, rfl, e1, e2⟩)))
          · cases h
        · rw [if_neg h4] at h
          by_cases h5 : n = "sync/atomic.AddInt64"
          · rw [if_pos h5] at h; cases h; exact .inr (.inr (.inr (.inr ⟨h5, rfl⟩)))
          · rw [if_neg h5] at h; cases h

section ops
variable {S : Sta} {w0 : World} {ρ : Ren} {h : AH} {w : World}

theorem args1 {vs : List AV} {x : AV} {cargs : Array Value} (e : vs = [x]) (hv : VRs S ρ vs cargs.toList) : ∃ c, cargs = #[c] ∧ VR S ρ x c := by
  subst e
  have hl := hv.length
  match hc : cargs.toList, hl with
  | [c], _ => exact ⟨c, by apply Array.ext'; simpa using hc, by rw [hc] at hv; exact hv.1⟩

theorem args2 {vs : List AV} {x y : AV} {cargs : Array Value} (e : vs = [x, y]) (hv : VRs S ρ vs cargs.toList) : ∃ c d, cargs = #[c, d] ∧ VR S ρ x c ∧ VR S ρ y d := by
  subst e
  have hl := hv.length
  match hc : cargs.toList, hl with
  | [c, d], _ => exact ⟨c, d, by apply Array.ext'; simpa using hc, by rw [hc] at hv; exact ⟨hv.1, hv.2.1⟩⟩
theorem addI64_sound (ro : RoOk S w0) (r : Rel S w0 ρ h w) {vs : List AV} {cargs : Array Value} (hv : VRs S ρ vs cargs.toList) {v : AV} {h' : AH} (he : aExt S.B .addI64 vs h = .val v h') {res : Result Next}
    (hres : ∀ c w', (Extern.Atomic.update (Op.intArith .add) .i64 true cargs).run S.P w = .ok c w' → res = .ok (.value c) w') : OpRes S w0 ρ h w res v h' := by
  unfold aExt at he
  simp only at he
  split at he
  case h_2 => cases he
  rename_i p d
  split at he
  case h_2 => cases he
  rename_i x hld
  split at he
  case h_2 => cases he
  rename_i y
  split at he
  case h_2 => cases he
  rename_i u h1 hst
  cases he
  obtain ⟨c1, c2, rfl, hp, rfl⟩ := args2 rfl hv
  unfold aStore at hst
  split at hst
  case h_2 => cases hst
  rename_i q
  split at hst
  · cases hst
  rename_i hro
  split at hst
  case h_2 => cases hst
  rename_i cs hg
  split at hst
  · cases hst
  split at hst
  · cases hst
  rename_i hall
  split at hst
  · cases hst
  rename_i cs' hput
  simp only [forceL_eq, VO.val.injEq] at hst
  obtain ⟨_, rfl⟩ := hst
  obtain ⟨a, rfl, ha⟩ := hp
  have ha2 := ha
  unfold AddrR at ha2
  rw [hro] at ha2
  obtain ⟨l, hl, rfl⟩ := ha2
  obtain ⟨w', q1, q2⟩ := put_stp r hg hl hput ((allCell_iff _).1 hall) (ccs := [.int .i64 (IntKind.i64.wrap (x + y))]) ⟨rfl, trivial⟩
  -- the cell that is read
  unfold ldVar at hld
  simp only at hld
  split at hld
  case h_2 => cases hld
  rename_i lc hlc
  have hone : lc = [.int .i64 x] := by
    unfold one at hld
    simp only at hld
    split at hld
    · cases hld; rfl
    · cases hld
  subst hone
  obtain ⟨_, ccs, k1, k2, _⟩ := ld_cells ro r hlc ha
  obtain ⟨c0, rfl⟩ : ∃ c0, ccs = [c0] := by
    cases ccs with
    | nil => exact k1.elim
    | cons c0 t => cases t with
      | nil => exact ⟨c0, rfl⟩
      | cons _ _ => exact k1.2.elim
  have hc0 : c0 = .int .i64 x := k1.1
  subst hc0
  have hcell : w.cell? ⟨l.b, l.base + q.off, none⟩ = some (.int .i64 x) := by
    have := k2 0 _ rfl
    simpa [Addr.add] using this
  have hsp := run_store S.P w ⟨l.b, l.base + q.off, none⟩ (.int .i64 (IntKind.i64.wrap (x + y))) .plain rfl
  have hsa := run_store S.P w ⟨l.b, l.base + q.off, none⟩ (.int .i64 (IntKind.i64.wrap (x + y))) .atomic rfl
  rw [hcell] at hsp hsa
  simp only at hsp hsa
  have hq : (store ⟨l.b, l.base + q.off, none⟩ (.int .i64 (IntKind.i64.wrap (x + y))) .plain).run S.P w = .ok () w' := by
    simp only [storeCells, Sem.run_bind, addr_add, Nat.add_zero] at q1
    cases hr : (store ⟨l.b, l.base + q.off, none⟩ (.int .i64 (IntKind.i64.wrap (x + y))) .plain).run S.P w with
    | ok u w2 => rw [hr] at q1; simpa using q1
    | halt hh w2 => rw [hr] at q1; cases q1
  rw [hsp, ← hsa] at hq
  refine ⟨ρ, w', .int .i64 (IntKind.i64.wrap (x + y)), q2, rfl, .inl (hres _ _ ?_)⟩
  have hrd : (load ⟨l.b, l.base + q.off, none⟩ .atomic).run S.P w = .ok (.int .i64 x) w := by
    simp [load, Sem.run, hcell]
  have hu : ∀ A C : Value, Extern.Atomic.update (Op.intArith .add) .i64 true #[A, C] = (do
      let a ← asAddr A
      let old ← Extern.Atomic.read (.int .i64) a
      let new ← Op.intArith .add .i64 (← asInt old) (← asInt C)
      store a new .atomic
      pure (if true then new else old)) := fun _ _ => rfl
  rw [hu]
  simp [Extern.Atomic.read, asAddr, asInt, asIntOf, hrd, Op.intArith, hq]
theorem ext_sound (ro : RoOk S w0) (r : Rel S w0 ρ h w) {f : FuncId} {k : XK} (hk : xkFn S.P f = some k) {vs : List AV} {cargs : Array Value} (hv : VRs S ρ vs cargs.toList) {v : AV} {h' : AH} (he : aExt S.B k vs h = .val v h') (hf : Free ρ h.next h'.next) :
    OpRes S w0 ρ h w ((callFunc f cargs).run S.P w) v h' := by
  obtain ⟨fn, hfn, hb, ho, hx⟩ := xkFn_some hk
  rcases xkOf_some hx with ⟨hname, rfl⟩ | ⟨hname, rfl⟩ | ⟨hname, rfl⟩ | ⟨hname, f1, f2, rfl, hf1, hf2⟩ | ⟨hname, rfl⟩
  case inr.inr.inr.inr =>
    obtain ⟨e1, e2⟩ := find_addI64 hname ho
    rw [run_callFunc_extern hfn hb (by rw [hname]; decide) e1 e2]
    exact addI64_sound ro r hv he fun c w' e => by rw [e]; rfl
  · obtain ⟨e1, e2⟩ := find_idx hname ho
    rw [run_callFunc_extern hfn hb (by rw [hname]; decide) e1 e2]
    unfold aExt at he
    simp only at he
    split at he
    · rename_i s n
      split at he
      · rename_i bn
        split at he
        · rename_i hlt
          have hlt' : bn < 256 := by simpa using hlt
          obtain ⟨c1, c2, hcs⟩ : ∃ c1 c2, cargs = #[c1, c2] := by
            have hl := hv.length
            match hc : cargs.toList, hl with
            | [c1, c2], _ => exact ⟨c1, c2, by apply Array.ext'; simpa using hc⟩
          subst hcs
          obtain ⟨⟨b, rfl, rfl⟩, rfl, _⟩ := hv
          have hrun : (Extern.BytealgIndexByte.indexByte #[.string b, .int .u8 (.ofNat bn)]).run S.P w =
              (match (List.range b.size).find? fun i => b[i]! == bn.toUInt8 with | some i => (pure (goInt i) : Sem Value) | none => pure (goInt (-1))).run S.P w := rfl
          rw [hrun, find_range]
          have hbn : bn.toUInt8.toNat = bn := by
            rw [Nat.toUInt8, UInt8.toNat_ofNat']
            exact Nat.mod_eq_of_lt hlt'
          rw [hbn]
          split at he
          · rename_i i hi
            cases he
            rw [hi]
            exact OpRes.val r (v := .int .i64 (.ofNat i)) (c := .int .i64 (Int.ofNat i)) (by simp only [VR]) rfl
          · rename_i hi
            cases he
            rw [hi]
            exact OpRes.val r (v := .int .i64 (.negSucc 0)) (c := .int .i64 (-1)) (by simp only [VR]; rfl) rfl
        · cases he
      · cases he
    · cases he
  · obtain ⟨e1, e2⟩ := find_valueOf hname ho
    rw [run_callFunc_extern hfn hb (by rw [hname]; decide) e1 e2]
    have key : ∀ (t : Nat) (x : AV), vs = [.iface t x] → memN t (slTypes S.P) = true → x.cells = [x] → (∀ c, VR S ρ x c → c.cells = #[c]) →
        newRow h [x] (fun id => .agg [.ptr ⟨true, handleRow, t⟩, .ptr ⟨false, id, 0⟩, .int .u64 (.ofNat 151)]) = .val v h' → OpRes S w0 ρ h w
          ((Sem.run S.P ((fun args => Extern.ReflectliteValue.unpack (args.getD 0 (.tuple #[]))) cargs) w).andThen fun c w' => .ok (.value c) w') v h' := by
      intro t x hvs hm hxc hcc hn
      obtain ⟨i, e, e', hi, hd, hu, htv, hp, hel⟩ := slOk_some (slTypes_mem (memN_iff hm))
      obtain ⟨c, rfl, y, rfl, hy⟩ := args1 hvs hv
      obtain ⟨hcell, rfl, rfl⟩ := newRow_val hn
      have hyc := hcc y hy
      have hst := newRow_stp (w := w) r (e := t) (cells := #[y]) hcell ⟨hy, trivial⟩ (hf _ (Nat.le_refl _) (by simp))
      refine ⟨_, _, .agg #[typeHandle S.P t, .pointer (some ⟨w.heap.size, 0, none⟩), .int .u64 151], hst, ?_, .inl ?_⟩
      · refine ⟨_, rfl, ⟨⟨S.P.globals.size, t, none⟩, rfl, ?_⟩, ⟨⟨w.heap.size, 0, none⟩, rfl, ⟨_, Ren.put_same _ _ _, rfl⟩⟩, rfl, trivial⟩
        simp only [AddrR, ro.hnd, Nat.zero_add]
      · have hk := run_kind_slice (P := S.P) (w := w.alloc (.cells #[y] t)) hi hd
        have h0 : (fun args : Array Value => Extern.ReflectliteValue.unpack (args.getD 0 (.tuple #[]))) #[.iface t y] = (do Extern.ReflectliteValue.mk t (← newVar t y) 0) := rfl
        rw [h0]
        have h1 : (newVar t y).run S.P w = .ok ⟨w.heap.size, 0, none⟩ (w.alloc (.cells #[y] t)) := by simp [newVar, Go.newRow, hyc]
        simp only [Sem.run_bind, h1, Result.andThen_ok, Extern.ReflectliteValue.mk, Extern.Rtype.handle, run_program, Sem.run_pure, hk]
        rfl
    unfold aExt at he
    simp only at he
    split at he
    · rename_i t x
      split at he
      · rename_i hm
        split at he
        · exact key t _ rfl hm rfl (fun c hc => by simp only [VR] at hc; subst hc; rfl) he
        · exact key t _ rfl hm rfl (fun c hc => by obtain ⟨_, _, rfl, _⟩ := hc; rfl) he
        · cases he
      · cases he
    · cases he
  · obtain ⟨e1, e2⟩ := find_rvLen hname ho
    rw [run_callFunc_extern hfn hb (by rw [hname]; decide) e1 e2]
    unfold aExt at he
    simp only at he
    split at he
    · rename_i a b n
      split at he
      · rename_i hc
        simp only [Bool.and_eq_true, decide_eq_true_eq] at hc
        obtain ⟨c1, c2, c3, rfl⟩ := hc
        obtain ⟨i, e, e', hi, hd, hu, htv, hp, hel⟩ := slOk_some (slTypes_mem (memN_iff c3))
        obtain ⟨c, rfl, y, rfl, hy⟩ := args1 rfl hv
        obtain ⟨aro, aid, aoff⟩ := a
        simp only at c1 c2 c3 hi hd hu htv hp
        subst c1
        have c2 := Nat.eq_of_beq_eq_true c2
        subst c2
        obtain ⟨y1, y2, y3, hys⟩ : ∃ y1 y2 y3, y = #[y1, y2, y3] := by
          have hl := hy.length
          match hc : y.toList, hl with
          | [y1, y2, y3], _ => exact ⟨y1, y2, y3, by apply Array.ext'; simpa using hc⟩
        subst hys
        obtain ⟨⟨x1, rfl, hx1⟩, hx2, rfl, _⟩ := hy
        have hx1' : x1 = ⟨S.P.globals.size, aoff, none⟩ := by
          simp only [AddrR, ro.hnd, Nat.zero_add] at hx1; exact hx1
        subst hx1'
        have fin : ∀ (m : Nat) (u : AV) (cu : Value → Prop), ldCells S.B h b 1 = some [u] → (∀ c, VR S ρ u c → ∃ a cap, c = .slice a m cap) → OpRes S w0 ρ h w
            ((Sem.run S.P (Extern.ReflectliteValue.method (Extern.ReflectliteValue.valueError "reflectlite.Value.Len" 0) Extern.ReflectliteValue.len #[.agg #[.pointer (some ⟨S.P.globals.size, aoff, none⟩), y2, .int .u64 (.ofNat 151)]]) w).andThen fun c w' => .ok (.value c) w')
              (.int .i64 (.ofNat m)) h := by
          intro m u _ hl hsl
          have hl' : ldVar S.B false 1 (.ptr b) h = some u := by simp [ldVar, hl, one]
          obtain ⟨x, z, e1, e2, e3⟩ := run_ldVar ro r htv hl' hx2
          subst e1
          obtain ⟨sa, cap, rfl⟩ := hsl z e3
          have hrun : (Extern.ReflectliteValue.method (Extern.ReflectliteValue.valueError "reflectlite.Value.Len" 0) Extern.ReflectliteValue.len #[.agg #[.pointer (some ⟨S.P.globals.size, aoff, none⟩), .pointer (some x), .int .u64 (.ofNat 151)]]).run S.P w = .ok (.int .i64 (.ofNat m)) w := by
            exact run_rvLen hi hd hu hp e2
          rw [hrun]
          exact OpRes.val r (by simp only [VR]) rfl
        split at he
        · rename_i hl; cases he; exact fin 0 _ (fun _ => True) hl (fun c hc => by simp only [VR] at hc; exact ⟨_, _, hc⟩)
        · rename_i hl; cases he; exact fin _ _ (fun _ => True) hl (fun c hc => by obtain ⟨x, cap, rfl, _⟩ := hc; exact ⟨_, _, rfl⟩)
        · cases he
      · cases he
    · cases he
  · obtain ⟨e1, e2⟩ := find_swapper hname ho
    rw [run_callFunc_extern hfn hb (by rw [hname]; decide) e1 e2]
    have key : ∀ (t : Nat) (x : AV) (f n k : Nat), vs = [.iface t x] → memN t (slTypes S.P) = true → (∀ c, VR S ρ x c → ∃ a cap, c = .slice a n cap) → ((n = 0 ∧ k = 1) ∨ (n = 1 ∧ k = 2)) →
        S.P.funcs.findIdx? (·.name == "internal/reflectlite" ++ ".Swapper$" ++ toString k) = some f → OpRes S w0 ρ h w
          ((Sem.run S.P (Extern.ReflectliteSwapper.swapper "internal/reflectlite" (Extern.ReflectliteValue.valueError "Swapper") cargs) w).andThen fun c w' => .ok (.value c) w') (.fn (.func f) [] []) h := by
      intro t x f n k hvs hm hx hn hfx
      obtain ⟨i, e, e', hi, hd, hu, htv, hp, hel⟩ := slOk_some (slTypes_mem (memN_iff hm))
      obtain ⟨c, rfl, y, rfl, hy⟩ := args1 hvs hv
      obtain ⟨a, cap, rfl⟩ := hx y hy
      rw [run_swapper hi hd hel hn hfx]
      exact OpRes.val r (v := .fn (.func f) [] []) (c := .func (.func f) #[] #[]) ⟨_, _, _, rfl, rfl, trivial, trivial⟩ rfl
    unfold aExt at he
    simp only at he
    split at he
    · rename_i t x
      split at he
      · rename_i hm
        split at he
        · cases he; exact key t _ f1 0 1 rfl hm (fun c hc => by simp only [VR] at hc; exact ⟨_, _, hc⟩) (.inl ⟨rfl, rfl⟩) hf1
        · split at he
          · cases he; exact key t _ f1 0 1 rfl hm (fun c hc => by obtain ⟨_, _, rfl, _⟩ := hc; exact ⟨_, _, rfl⟩) (.inl ⟨rfl, rfl⟩) hf1
          · split at he
            · cases he; exact key t _ f2 1 2 rfl hm (fun c hc => by obtain ⟨_, _, rfl, _⟩ := hc; exact ⟨_, _, rfl⟩) (.inr ⟨rfl, rfl⟩) hf2
            · cases he
        · cases he
      · cases he
    · cases he
end ops
end Go.Proofs.YtkahmlbhgahbbaaGreat.Abs
