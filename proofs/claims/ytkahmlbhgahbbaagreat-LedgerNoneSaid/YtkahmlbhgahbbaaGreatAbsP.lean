/- Comparisons, maps, slices, appends. -/
import Derived.Test.YtkahmlbhgahbbaaGreatAbsO
set_option linter.unusedSimpArgs false
set_option linter.unusedVariables false
set_option linter.unusedSectionVars false
set_option linter.constructorNameAsVariable false
namespace Go.Proofs.YtkahmlbhgahbbaaGreat.Abs
section ops
variable {S : Sta} {w0 : World} {ρ : Ren} {h : AH} {w : World}

/-! ### Comparisons -/
def arrEq (P : Program) (d : Nat) (elem : TypeId) (n : Nat) (xs ys : Array Value) : Nat → Nat → Sem Bool
  | 0, _ => pure true
  | len + 1, i => do
    let a ← part elem xs (i * n)
    let b ← part elem ys (i * n)
    let r ← Op.equalIn d elem a b
    if (!r) = true then pure false else arrEq P d elem n xs ys len (i + 1)

theorem run_equalIn_arr {P : Program} (w : World) (d : Nat) (t elem : TypeId) (len n : Nat) (xs ys : Array Value) (ht : P.underlying t = some (.array len elem)) (hn : tsize P elem = some n) :
    (Op.equalIn (d + 1) t (.agg xs) (.agg ys)).run P w = (arrEq P d elem n xs ys len 0).run P w := by
  simp only [Op.equalIn, Sem.run_bind, run_under w ht, Result.andThen_ok, run_size w hn]
  rw [Std.Legacy.Range.forIn_eq_forIn_range']
  have hsz : ([:len] : Std.Legacy.Range).size = len := by simp [Std.Legacy.Range.size]
  rw [hsz]
  clear hsz
  simp only
  generalize 0 = i
  clear ht
  induction len generalizing w i with
  | zero => simp [arrEq]
  | succ len ih =>
    simp only [List.range'_succ, List.forIn_cons, arrEq, Sem.run_bind]
    generalize (part elem xs (i * n)).run P w = r1
    cases r1 with
    | halt x w1 => simp [Result.andThen]
    | ok a w1 =>
      simp only [Result.andThen_ok]
      generalize (part elem ys (i * n)).run P w1 = r2
      cases r2 with
      | halt x w2 => simp [Result.andThen]
      | ok b w2 =>
        simp only [Result.andThen_ok]
        generalize (Op.equalIn d elem a b).run P w2 = r3
        cases r3 with
        | halt x w3 => simp [Result.andThen]
        | ok r w3 =>
          cases r
          · simp
          · simp only [Result.andThen_ok, Bool.not_true, Bool.false_eq_true, if_false, Sem.run_pure, Sem.run_ite]
            exact ih w3 (i + 1)

theorem two_some {α : Type} {x y : AV} {f : List AV → List AV → Option α} {r : α} (hr : (match two x y with | some (x, y) => f x y | none => none) = some r) : ∃ a b, x = .agg a ∧ y = .agg b ∧ f a b = some r := by
  unfold two at hr
  split at hr
  · rename_i a b heq
    split at heq <;> cases heq
    exact ⟨_, _, rfl, rfl, hr⟩
  · cases hr

theorem aEq_sound : ∀ (d : Nat) (t : TypeId) (p : EqP), eqPlan S.P d t = some p → ∀ (x y : AV) (r : Bool), aEq p x y = some r → ∀ (cx cy : Value), VR S ρ x cx → VR S ρ y cy → ∀ D, d ≤ D →
    (Op.equalIn D t cx cy).run S.P w = .ok r w := by
  intro d
  induction d with
  | zero => intro t p hp; simp [eqPlan] at hp
  | succ d ih =>
    intro t p hp x y r hr cx cy hx hy D hD
    obtain ⟨D, rfl⟩ : ∃ k, D = k + 1 := ⟨D - 1, by omega⟩
    have hD' : d ≤ D := by omega
    simp only [eqPlan] at hp
    cases hu : S.P.underlying t with
    | none => simp [hu] at hp
    | some desc =>
      cases desc <;> simp only [hu] at hp <;> try (cases hp; done)
      case bool =>
        cases hp
        simp only [aEq] at hr
        unfold eqBool at hr
        split at hr <;> cases hr
        simp only [VR] at hx hy; subst hx; subst hy
        simp [Op.equalIn, run_under w hu]
      case int =>
        cases hp
        simp only [aEq] at hr
        unfold eqInt at hr
        split at hr
        · split at hr <;> cases hr
          rename_i hk; subst hk
          simp only [VR] at hx hy; subst hx; subst hy
          simp [Op.equalIn, run_under w hu]
        · cases hr
      case string =>
        cases hp
        simp only [aEq] at hr
        unfold eqStr at hr
        split at hr <;> cases hr
        obtain ⟨sa, rfl, rfl⟩ := hx
        obtain ⟨sb, rfl, rfl⟩ := hy
        simp only [Op.equalIn, Sem.run_bind, run_under w hu, Result.andThen_ok, Sem.run_pure, strEq_bytes, beq_toListBytes]
      case pointer elem =>
        split at hp
        · cases hp
          rename_i n hn
          simp only [aEq] at hr
          unfold eqPtr at hr
          split at hr
          · cases hr; simp only [VR] at hx hy; subst hx; subst hy; simp [Op.equalIn, run_under w hu]
          · cases hr; simp only [VR] at hx hy; obtain ⟨b, rfl, _⟩ := hy; subst hx; simp [Op.equalIn, run_under w hu]
          · cases hr; simp only [VR] at hx hy; obtain ⟨b, rfl, _⟩ := hx; subst hy; simp [Op.equalIn, run_under w hu]
          · rename_i a b
            obtain ⟨xa, rfl, ha⟩ := hx
            obtain ⟨xb, rfl, hb⟩ := hy
            cases hra : a.ro with
            | true => simp [hra] at hr
            | false =>
              cases hrb : b.ro with
              | true => simp [hra, hrb] at hr
              | false =>
                simp only [hra, hrb] at hr
                split at hr <;> cases hr
                rename_i hid
                unfold AddrR at ha hb
                rw [hra] at ha
                rw [hrb] at hb
                try simp only at ha hb
                obtain ⟨la, h1, rfl⟩ := ha
                obtain ⟨lb, h2, rfl⟩ := hb
                rw [hid, h2] at h1; cases h1
                simp only [Op.equalIn, Sem.run_bind, run_under w hu, Result.andThen_ok, run_size w hn, sameAddr]
                simp only [ne_eq, Nat.add_one_ne_zero, not_false_eq_true, if_true, beq_self_eq_true, Sem.run_pure, Sem.run_ite]
                congr 1
                rw [Bool.eq_iff_iff, beq_iff_eq, beq_iff_eq]
                constructor
                · intro e; injection e with _ e2 _; omega
                · intro e; rw [e]
          · cases hr
        · cases hp
      case slice elem =>
        cases hp
        simp only [aEq] at hr
        unfold eqSl at hr
        split at hr <;> cases hr <;> simp only [VR] at hx hy
        · subst hx; subst hy; simp [Op.equalIn, run_under w hu]
        · obtain ⟨b, cap, rfl, _⟩ := hy; subst hx; simp [Op.equalIn, run_under w hu]
        · obtain ⟨b, cap, rfl, _⟩ := hx; subst hy; simp [Op.equalIn, run_under w hu]
      case map kt et =>
        cases hp
        simp only [aEq] at hr
        unfold eqMap at hr
        split at hr <;> cases hr <;> simp only [VR] at hx hy
        · subst hx; subst hy; simp [Op.equalIn, run_under w hu]
        · obtain ⟨b, _, rfl⟩ := hy; subst hx; simp [Op.equalIn, run_under w hu]
        · obtain ⟨b, _, rfl⟩ := hx; subst hy; simp [Op.equalIn, run_under w hu]
      case func a b c =>
        cases hp
        simp only [aEq] at hr
        unfold eqFn at hr
        split at hr <;> cases hr <;> simp only [VR] at hx hy
        · subst hx; subst hy; simp [Op.equalIn, run_under w hu]
        · obtain ⟨_, _, _, rfl, _⟩ := hy; subst hx; simp [Op.equalIn, run_under w hu]
        · obtain ⟨_, _, _, rfl, _⟩ := hx; subst hy; simp [Op.equalIn, run_under w hu]
      case struct fs =>
        split at hp
        · cases hp
        · rename_i hst
          split at hp
          · cases hp
          · rename_i pl hpl
            split at hp
            · cases hp
            · rename_i ps hps
              cases hp
              simp only [aEq] at hr
              obtain ⟨ax, ay, rfl, rfl, hr2⟩ := two_some hr
              replace hr := hr2; clear hr2
              obtain ⟨vx, rfl, hvx⟩ := hx
              obtain ⟨vy, rfl, hvy⟩ := hy
              have hf : S.P.fieldsOf t = fs := by simp [Program.fieldsOf, hu]
              rw [run_equalIn_struct w D t vx vy (by rw [hf]; exact hu) hst, hf]
              generalize fs.toList = fl at hpl hps
              clear hu hst hf
              induction fl generalizing pl ps with
              | nil =>
                simp [mapO] at hpl hps; subst hpl; subst hps
                simp only [aEqs, Option.some.injEq] at hr; subst hr
                simp [Op.eqFields]
              | cons f fl ihf =>
                by_cases hname : f.name ≠ "_"
                · have hfil : (f :: fl).filter (fun f => f.name != "_") = f :: fl.filter (fun f => f.name != "_") := by simp [hname]
                  rw [hfil] at hpl hps
                  obtain ⟨q0, pl', hq0, hm, rfl⟩ := mapO_cons hpl
                  obtain ⟨p1, ps', hp1, hm2, rfl⟩ := mapO_cons hps
                  unfold fPlace at hq0
                  cases htv : tvar S.P f.type with
                  | none => simp [htv] at hq0
                  | some an =>
                    obtain ⟨agg, n⟩ := an
                    simp only [htv, Option.some.injEq] at hq0
                    subst hq0
                    simp only [aEqs] at hr
                    cases ha : partOf agg f.offset n ax with
                    | none => simp [ha] at hr
                    | some a =>
                      cases hb : partOf agg f.offset n ay with
                      | none => simp [ha, hb] at hr
                      | some b =>
                        simp only [ha, hb] at hr
                        obtain ⟨ca, r1, v1⟩ := part_sound (w := w) ha htv hvx
                        obtain ⟨cb, r2, v2⟩ := part_sound (w := w) hb htv hvy
                        cases hq : aEq p1 a b with
                        | none => simp [hq] at hr
                        | some q =>
                          have he := ih f.type p1 hp1 a b q hq ca cb v1 v2 D hD'
                          simp only [Op.eqFields, if_pos hname, Sem.run_bind, r1, r2, Result.andThen_ok, he]
                          cases q with
                          | true =>
                            simp only [hq] at hr
                            simp only [Bool.not_true, Bool.false_eq_true, if_false]
                            exact ihf pl' ps' hr hm hm2
                          | false =>
                            simp only [hq] at hr
                            cases hr
                            simp
                · have hfil : (f :: fl).filter (fun f => f.name != "_") = fl.filter (fun f => f.name != "_") := by simp at hname; simp [hname]
                  rw [hfil] at hpl hps
                  simp only [Op.eqFields, if_neg hname]
                  exact ihf pl ps hr hpl hps
      case array len elem =>
        split at hp
        · rename_i agg n htv
          split at hp
          · rename_i p1 hp1
            cases hp
            simp only [aEq] at hr
            obtain ⟨ax, ay, rfl, rfl, hr2⟩ := two_some hr
            replace hr := hr2; clear hr2
            obtain ⟨vx, rfl, hvx⟩ := hx
            obtain ⟨vy, rfl, hvy⟩ := hy
            rw [run_equalIn_arr w D t elem len n vx vy hu (tvar_size htv)]
            clear hu
            generalize 0 = i at hr ⊢
            induction len generalizing i with
            | zero => simp only [eqArr, Option.some.injEq] at hr; subst hr; simp [arrEq]
            | succ len ihl =>
              simp only [eqArr] at hr
              cases ha : partOf agg (i * n) n ax with
              | none => simp [ha] at hr
              | some a =>
                cases hb : partOf agg (i * n) n ay with
                | none => simp [ha, hb] at hr
                | some b =>
                  simp only [ha, hb] at hr
                  obtain ⟨ca, r1, v1⟩ := part_sound (w := w) ha htv hvx
                  obtain ⟨cb, r2, v2⟩ := part_sound (w := w) hb htv hvy
                  cases hq : aEq p1 a b with
                  | none => simp [hq] at hr
                  | some q =>
                    have he := ih elem p1 hp1 a b q hq ca cb v1 v2 D hD'
                    simp only [arrEq, Sem.run_bind, r1, r2, Result.andThen_ok, he]
                    cases q with
                    | true =>
                      simp only [hq] at hr
                      simp only [Bool.not_true, Bool.false_eq_true, if_false]
                      exact ihl (i + 1) hr
                    | false =>
                      simp only [hq] at hr
                      cases hr
                      simp
          · cases hp
        · cases hp

/-! ### Maps -/
def kkIs (kk : KK) (d : TypeDesc) : Prop :=
  match kk with
  | .int => ∃ k, d = .int k
  | .str => d = .string
  | .bool => d = .bool

theorem keyOk_some {P : Program} {t : TypeId} {kk : KK} (hk : keyOk P t = some kk) : ∃ d, P.underlying t = some d ∧ kkIs kk d := by
  unfold keyOk at hk
  split at hk
  · rename_i k hu; cases hk; exact ⟨_, hu, _, rfl⟩
  · rename_i hu; cases hk; exact ⟨_, hu, rfl⟩
  · rename_i hu; cases hk; exact ⟨_, hu, rfl⟩
  · cases hk

theorem run_checkKey {P : Program} {t : TypeId} {kk : KK} (hk : keyOk P t = some kk) (e : Bool) (v : Value) (w : World) : (Instr.checkKey e 10000 t v).run P w = .ok () w := by
  obtain ⟨d, hu, hd⟩ := keyOk_some hk
  have key : ∀ n, (Instr.checkKey e (n + 1) t v).run P w = .ok () w := by
    intro n
    unfold Instr.checkKey
    simp only [Sem.run_bind, run_under w hu, Result.andThen_ok]
    cases kk
    · obtain ⟨k, rfl⟩ := hd; simp
    · cases hd; simp
    · cases hd; simp
  exact key 9999

theorem keq_sound {kk : KK} {a b : AV} {r : Bool} (hq : keq kk a b = some r) {ca cb : Value} (ha : VR S ρ a ca) (hb : VR S ρ b cb) {d : TypeDesc} (hd : kkIs kk d) : Instr.sameNow d ca cb = some r ∧ (r = true → Instr.sameBits 10000 cb ca = true) := by
  cases kk <;> cases a <;> cases b <;> simp only [keq] at hq <;> try (cases hq; done)
  · obtain ⟨k, rfl⟩ := hd
    split at hq <;> cases hq
    rename_i hk; subst hk
    simp only [VR] at ha hb; subst ha; subst hb
    refine ⟨by simp [Instr.sameNow], fun hr => ?_⟩
    have := eq_of_beq hr
    subst this
    simp [Instr.sameBits]
  · cases hd
    cases hq
    obtain ⟨sa, rfl, rfl⟩ := ha
    obtain ⟨sb, rfl, rfl⟩ := hb
    refine ⟨by simp only [Instr.sameNow, strEq_bytes, beq_toListBytes], fun hr => ?_⟩
    rw [strEq_bytes] at hr
    have := eq_of_beq hr
    show (sb == sa) = true
    rw [beq_toListBytes, this]
    simp
  · cases hd
    cases hq
    simp only [VR] at ha hb; subst ha; subst hb
    refine ⟨by simp [Instr.sameNow], fun hr => ?_⟩
    have := eq_of_beq hr
    subst this
    simp [Instr.sameBits]

theorem findK_sound {kk : KK} {k : AV} {ck : Value} (hk : VR S ρ k ck) {d : TypeDesc} (hd : kkIs kk d) : ∀ (es : List (AV × AV × Nat)) (ces : List MapEntry), EntRs S ρ es ces → ∀ (i : Nat) (r : Option (Nat × AV)), findK kk k es i = some r →
    match r with
    | none => Instr.findNow d ck ces i = some none
    | some (j, v) => ∃ cv, Instr.findNow d ck ces i = some (some (j, cv)) ∧ VR S ρ v cv ∧ i ≤ j ∧ ∃ e ce, es[j - i]? = some e ∧ ces[j - i]? = some ce ∧ Instr.sameBits 10000 ce.key ck = true := by
  intro es
  induction es with
  | nil =>
    intro ces he i r hr
    cases ces with
    | cons _ _ => exact he.elim
    | nil =>
      simp only [findK] at hr
      split at hr <;> cases hr
      rfl
  | cons e es ih =>
    intro ces he i r hr
    cases ces with
    | nil => exact he.elim
    | cons ce ces =>
      obtain ⟨⟨h1, h2, h3⟩, h4⟩ := he
      obtain ⟨k', v', b'⟩ := e
      simp only [findK] at hr
      cases hq : keq kk k k' with
      | none => simp [hq] at hr
      | some q =>
        obtain ⟨q1, q2⟩ := keq_sound hq hk h1 hd
        cases q with
        | true =>
          simp only [hq, Option.some.injEq] at hr
          subst hr
          refine ⟨ce.val, by simp [Instr.findNow, q1], h2, Nat.le_refl _, (k', v', b'), ce, by simp, by simp, q2 rfl⟩
        | false =>
          simp only [hq] at hr
          have := ih ces h4 (i + 1) r hr
          cases r with
          | none => simpa [Instr.findNow, q1] using this
          | some jv =>
            obtain ⟨j, v⟩ := jv
            obtain ⟨cv, a1, a2, a3, e, ce', a4, a5, a6⟩ := this
            refine ⟨cv, by simpa [Instr.findNow, q1] using a1, a2, by omega, e, ce', ?_, ?_, a6⟩
            · rw [show j - i = (j - (i + 1)) + 1 by omega]; simpa using a4
            · rw [show j - i = (j - (i + 1)) + 1 by omega]; simpa using a5

theorem run_findKey {P : Program} {t : TypeId} {d : TypeDesc} (hu : P.underlying t = some d) {k : Value} {es : List MapEntry} {r : Option (Nat × Value)} (hf : Instr.findNow d k es 0 = some r) (w : World) :
    (Instr.findKey t k es).run P w = .ok r w := by
  simp [Instr.findKey, run_under w hu, hf]

theorem EntRs.setVal {k v : AV} {ck cv : Value} (hk : VR S ρ k ck) (hv : VR S ρ v cv) : ∀ (es : List (AV × AV × Nat)) (ces : List MapEntry), EntRs S ρ es ces → ∀ i, EntRs S ρ (Abs.setVal k v es i) (ces.modify i fun e => { e with key := ck, val := cv }) := by
  intro es
  induction es with
  | nil => intro ces he i; cases ces with
    | nil => simp [Abs.setVal, EntRs]
    | cons _ _ => exact he.elim
  | cons e es ih =>
    intro ces he i
    cases ces with
    | nil => exact he.elim
    | cons ce ces =>
      cases i with
      | zero => exact ⟨⟨hk, hv, he.1.2.2⟩, he.2⟩
      | succ i => rw [List.modify_succ_cons]; exact ⟨he.1, ih ces he.2 i⟩

theorem EntRs.push {es : List (AV × AV × Nat)} {ces : List MapEntry} (he : EntRs S ρ es ces) {e : AV × AV × Nat} {ce : MapEntry} (h1 : EntR S ρ e ce) : EntRs S ρ (es ++ [e]) (ces ++ [ce]) := by
  induction es generalizing ces with
  | nil => cases ces with
    | nil => exact ⟨h1, trivial⟩
    | cons _ _ => exact he.elim
  | cons x es ih => cases ces with
    | nil => exact he.elim
    | cons y ces => exact ⟨he.1, ih he.2⟩

theorem EntRs.erase : ∀ (es : List (AV × AV × Nat)) (ces : List MapEntry), EntRs S ρ es ces → ∀ i, EntRs S ρ (eraseAt es i) (ces.eraseIdx i) := by
  intro es
  induction es with
  | nil => intro ces he i; cases ces with
    | nil => simp [eraseAt, EntRs]
    | cons _ _ => exact he.elim
  | cons e es ih =>
    intro ces he i
    cases ces with
    | nil => exact he.elim
    | cons ce ces =>
      cases i with
      | zero => exact he.2
      | succ i => exact ⟨he.1, by simpa using ih ces he.2 i⟩

theorem EntRs.length {es : List (AV × AV × Nat)} {ces : List MapEntry} (he : EntRs S ρ es ces) : es.length = ces.length := by
  induction es generalizing ces with
  | nil => cases ces with
    | nil => rfl
    | cons _ _ => exact he.elim
  | cons x es ih => cases ces with
    | nil => exact he.elim
    | cons y ces => simp [ih he.2]

/-- The map of a value. -/
theorem run_mapOf (r : Rel S w0 ρ h w) {m : AV} {es : List (AV × AV × Nat)} (hm : mapOf h m = some es) {cm : Value} (hc : VR S ρ m cm) :
    (cm = .map none ∧ es = []) ∨ (∃ id clock l ces, m = .map id ∧ cm = .map (some l.b) ∧ h.get id = some (.map es clock) ∧ ρ id = some l ∧ w.heap[l.b]? = some (.map ces clock) ∧ EntRs S ρ es ces.toList) := by
  cases m <;> simp only [mapOf] at hm <;> try (cases hm; done)
  case nilmap => cases hm; exact .inl ⟨hc, rfl⟩
  case map id =>
    obtain ⟨l, h1, rfl⟩ := hc
    cases hg : h.get id with
    | none => simp [hg] at hm
    | some o =>
      cases o <;> simp only [hg] at hm <;> try (cases hm; done)
      rename_i es' clock
      cases hm
      obtain ⟨l', e1, _, ces, e2, e3⟩ := r.obj _ _ hg rfl
      rw [h1] at e1; cases e1
      exact .inr ⟨id, clock, l, ces, rfl, rfl, hg, h1, e2, e3⟩

/-- An object that is no cells, set. -/
theorem run_setObj {P : Program} {b : Nat} {o o' : Obj} {w : World} (hb : w.heap[b]? = some o) (ho : ∀ c e f, o ≠ .cells c e f) : (setObj b o').run P w = .ok () { w with heap := w.heap.setIfInBounds b o' } := by
  cases o <;> simp [setObj, Sem.run, hb] at * 
theorem run_getObj {P : Program} {b : Nat} {o : Obj} {w : World} (hb : w.heap[b]? = some o) (ho : ∀ c e f, o ≠ .cells c e f) : (getObj b).run P w = .ok o w := by
  cases o <;> simp [getObj, Sem.run, hb] at * 

/-- An object of the heap that is no row, set. -/
theorem setObj_stp (r : Rel S w0 ρ h w) {id : Nat} {o o' : AObj} {ob : Obj} {l : Loc} (hg : h.get id = some o) (hlive : o.live = true) (hl : ρ id = some l) (hlt : l.b < w.heap.size)
    (hr : o'.live = true → ObjR S ρ o' (w.heap.setIfInBounds l.b ob) l) : Stp S w0 ρ h w ρ (h.put id o') { w with heap := w.heap.setIfInBounds l.b ob } :=
  Stp.put r hg hlive hl (fun b hb => by simp [Array.getElem?_setIfInBounds_ne (Ne.symm hb)]) (by simp) rfl rfl hr
end ops
end Go.Proofs.YtkahmlbhgahbbaaGreat.Abs
