/- The logic: ranges over functions, regions whose order is open. -/
import Derived.Test.YtdcbglljljfleaaAbsL
set_option linter.unusedSimpArgs false
set_option linter.unusedVariables false
set_option linter.unusedSectionVars false
set_option linter.constructorNameAsVariable false
namespace Go.Proofs.Ytdcbglljljfleaa.Abs
section logic
variable {B : Nat → List AV} {T : Tr FnI}
def setPsL : List Nat → List AV → Nat → EL → Option EL
 | [], [], _, l => some l
 | p :: ps, v :: vs, nt, l => match Nat.blt p nt with
  | true => setPsL ps vs nt ((p, v) :: l)
  | false => none
 | _, _, _, _ => none
theorem setPs_mono {nt : Nat} : ∀ {ps : List Nat} {vs : List AV} {t t1 : EL} {env : Tr AV}, Le t env → setPsL ps vs nt t = some t1 → ∃ env1, setPs ps vs nt env = some env1 ∧ Le t1 env1 := by
 intro ps
 induction ps with
 | nil => intro vs t t1 env le h; cases vs with
  | nil => cases h; exact ⟨env, rfl, le⟩
  | cons _ _ => cases h
 | cons p ps ih => intro vs t t1 env le h; cases vs with
  | nil => cases h
  | cons v vs =>
   simp only [setPsL, setPs] at h ⊢
   cases hp : Nat.blt p nt with
   | false => simp [hp] at h
   | true => simp only [hp] at h ⊢; exact ih (le.set p v) h
theorem WF.yield {l nt d : Nat} {ps : List Nat} {asg body : AC} {env : Tr AV} {t t1 : EL} {args : List AV} {H : HL} {Q : AV → HL → Prop} (le : Le t env) (hp : setPsL ps args nt t = some t1)
  (w : WC B T nt (some l) asg t1 ((l, .loop .ready none env nt ps asg body d) :: H) fun ex t2 H2 => ex = .normal ∧ ∃ R, Tk H2 l (.loop .ready none env nt ps asg body d) R ∧
   WC B T nt (some l) body t2 ((l, .loop .busy none env nt ps asg body d) :: R) fun ex t3 H3 => ∃ R, Tk H3 l (.loop .busy none env nt ps asg body d) R ∧ match ex with
    | .normal => Q (.bool true) ((l, .loop .ready none env nt ps asg body d) :: R)
    | .jump j => Q (.bool false) ((l, .loop .done (some j) env nt ps asg body d) :: R)) :
  WF B T (.yield l) args ((l, .loop .ready none env nt ps asg body d) :: H) Q := fun h F s => by
 have hg := s.at_ (l, .loop .ready none env nt ps asg body d) (by simp)
 obtain ⟨env1, p1, le1⟩ := setPs_mono le hp
 obtain ⟨ex, t2, H2, env2, new2, h2, ⟨rfl, R, k2, w2⟩, le2, s2, e2⟩ := w env1 [] h F le1 s
 have s2' := s2.perm k2.app
 have hg2 := s2'.at_ (l, .loop .ready none env nt ps asg body d) (by simp)
 obtain ⟨ex3, t3, H3, env3, new3, h3, ⟨R3, k3, q3⟩, le3, s3, e3⟩ := w2 env2 new2 (h2.put l (.loop .busy none env nt ps asg body d)) _ le2 s2'.put
 have s3' := s3.perm k3.app
 have hg3 := s3'.at_ (l, .loop .busy none env nt ps asg body d) (by simp)
 have clean : ∀ {x : Nat × AObj} {h : AH}, Sep h (x :: (R3 ++ (dfs new3 ++ (dfs new2 ++ F)))) → Sep h ((x :: R3) ++ F) := fun s => by
  refine s.sub ?_
  simp only [List.cons_append]
  refine List.Sublist.cons_cons _ (List.Sublist.append_left ?_ _)
  exact (List.sublist_append_right _ _).trans (List.sublist_append_right _ _)
 cases ex3 with
 | normal =>
  refine ⟨_, h3.put l (.loop .ready none env nt ps asg body d), _, q3, clean s3'.put, Ev.succ ((e2.and e3).diag.mono fun n ⟨e2, e3⟩ => ?_)⟩
  simp only [run, callYield, hg, p1, e2, List.append_nil]
  simp only [hg2, e3]
  simp only [endRound, hg3]
 | jump j =>
  refine ⟨_, h3.put l (.loop .done (some j) env nt ps asg body d), _, q3, clean s3'.put, Ev.succ ((e2.and e3).diag.mono fun n ⟨e2, e3⟩ => ?_)⟩
  simp only [run, callYield, hg, p1, e2, List.append_nil]
  simp only [hg2, e3]
  simp only [endRound, hg3]
theorem endRange_of {l nt d : Nat} {st : LoopState} {pend : Option AJump} {ps : List Nat} {asg body : AC} {env0 env : Tr AV} {ds : List Nat} {h : AH} {R F : HL} (hst : st ≠ .busy) (s : Sep h ((l, .loop st pend env0 nt ps asg body d) :: (R ++ F))) :
  ∃ h', endRange l env ds h = .out (match pend with | none => .normal | some j => .jump j) env ds h' ∧ Sep h' (R ++ F) := by
 have hg := s.at_ (l, .loop st pend env0 nt ps asg body d) (by simp)
 refine ⟨h.put l (.loop .exhausted pend env0 nt ps asg body d), ?_, (s.put (o' := .loop .exhausted pend env0 nt ps asg body d)).tail⟩
 unfold endRange
 rw [hg]
 cases st <;> first | exact absurd rfl hst | skip
 all_goals cases pend <;> rfl
theorem WC.rangef {nt : Nat} {f : AO} {ps : List Nat} {asg body : AC} {g : Nat} {first cap : List AV} {t : EL} {H : HL} {Q : AExit → EL → HL → Prop} (hf : gl t f = some (.fn (.func g) first cap))
  (w : ∀ l env d, Le t env → WF B T (.func g) (first ++ (.fn (.yield l) [] [] :: cap)) ((l, .loop .ready none env nt ps asg body d) :: H) fun _ H' => ∃ st pend R, Tk H' l (.loop st pend env nt ps asg body d) R ∧ st ≠ .busy ∧
   Q (match pend with | none => .normal | some j => .jump j) t R) :
  WC B T nt none (.rangef f ps asg body) t H Q := fun env ds h F le s => by
 have s1 : Sep (h.new .defd) ((h.next, .defd) :: (H ++ F)) := s.new .defd
 have s2 := s1.new (.loop .ready none env nt ps asg body h.next)
 obtain ⟨v, h3, H', ⟨st, pend, R, k, hst, q⟩, s3, e⟩ := w (h.new .defd).next env h.next le _ ((h.next, .defd) :: F) (by
  refine s2.perm ?_
  simp only [List.cons_append]
  exact List.Perm.cons _ (List.perm_middle.symm))
 obtain ⟨h4, e4, s4⟩ := endRange_of (env := env) (ds := h.next :: ds) hst (s3.perm k.app)
 refine ⟨_, t, R, env, [h.next], h4, q, le, by simpa [dfs] using s4, Ev2.of1 (e.mono fun n e L => ?_)⟩
 simp only [evC, rd_mono le hf, defOf, e]
 exact e4
/-! ### Regions whose order is open -/
mutual
theorem AV.beq_refl : ∀ v : AV, v.beq v = true
 | .bool _ | .int _ _ | .str _ | .ptr _ | .nilp | .sl _ _ _ | .nilsl | .map _ | .nilmap | .nilfn | .nilif | .opq _ => by simp [AV.beq]
 | .fn _ a b => by simp [AV.beq, beqs_refl a, beqs_refl b]
 | .iface _ v => by simp [AV.beq, AV.beq_refl v]
 | .agg l => by simp [AV.beq, beqs_refl l]
 | .tup l => by simp [AV.beq, beqs_refl l]
theorem beqs_refl : ∀ l : List AV, beqs l l = true
 | [] => by simp [beqs]
 | a :: l => by simp [beqs, AV.beq_refl a, beqs_refl l]
end
def Rd (B : Nat → List AV) (op : AOp) (t : EL) (H : HL) (v : AV) : Prop := ∀ env h F, Le t env → Sep h (H ++ F) → ∃ h', aop B op env h = .val v h'
def Same (B : Nat → List AV) (op : AOp) (t : EL) (v : AV) (bs : Nat) : List (Nat × HL) → Prop
 | [] => True
 | (j, H) :: r => Rd B op t H v ∧ match Nat.testBit bs j with
  | true => True
  | false => Same B op t v bs r
def At (B : Nat → List AV) (op : AOp) (t : EL) (v : AV) (bs : Nat) : List (Nat × HL) → Prop
 | [] => False
 | (j, H) :: r => Rd B op t H v ∧ match Nat.testBit bs j with
  | true => True
  | false => Same B op t v bs r
def Hist (F : HL) : List (Nat × AH) → List (Nat × HL) → Prop
 | [], [] => True
 | (j, h) :: r, (i, H) :: s => j = i ∧ Sep h (H ++ F) ∧ Hist F r s
 | _, _ => False
theorem sameAt_of {op : AOp} {t : EL} {env : Tr AV} {v : AV} {bs : Nat} {F : HL} (le : Le t env) : ∀ {hist : List (Nat × AH)} {HH : List (Nat × HL)}, Hist F hist HH → Same B op t v bs HH → sameAt B op env v bs hist = true := by
 intro hist
 induction hist with
 | nil => intro HH _ _; rfl
 | cons p r ih =>
  obtain ⟨j, h⟩ := p
  intro HH hh a
  cases HH with
  | nil => cases hh
  | cons q s =>
   obtain ⟨i, H⟩ := q
   obtain ⟨rfl, h1, h2⟩ := hh
   obtain ⟨a1, a2⟩ := a
   obtain ⟨h', e⟩ := a1 env h F le h1
   simp only [sameAt, e, AV.beq_refl]
   cases hb : Nat.testBit bs j with
   | true => rfl
   | false => simp only [hb] at a2; exact ih h2 a2
theorem loadAt_of {op : AOp} {t : EL} {env : Tr AV} {v : AV} {bs : Nat} {F : HL} (le : Le t env) {hist : List (Nat × AH)} {HH : List (Nat × HL)} (hh : Hist F hist HH) (a : At B op t v bs HH) : loadAt B op env bs hist = some v := by
 cases hist with
 | nil => cases HH with
  | nil => cases a
  | cons _ _ => cases hh
 | cons p r => cases HH with
  | nil => cases hh
  | cons q s =>
   obtain ⟨j, h⟩ := p
   obtain ⟨i, H⟩ := q
   obtain ⟨rfl, h1, h2⟩ := hh
   obtain ⟨a1, a2⟩ := a
   obtain ⟨h', e⟩ := a1 env h F le h1
   simp only [loadAt, e]
   cases hb : Nat.testBit bs j with
   | true => rfl
   | false => simp only [hb] at a2; simp only [sameAt_of le h2 a2]
def WD (B : Nat → List AV) (T : Tr FnI) (ops : List DOper) (t : EL) (H : HL) (HH : List (Nat × HL)) (Q : EL → HL → Prop) : Prop :=
 ∀ env h F hist, Le t env → Sep h (H ++ F) → Hist F hist HH → ∃ t' H' env' h', Q t' H' ∧ Le t' env' ∧ Sep h' (H' ++ F) ∧ Ev fun n => evD B (run B T n) ops env h hist = .ok env' h'
section D
variable {t : EL} {H : HL} {HH : List (Nat × HL)} {Q : EL → HL → Prop}
theorem WD.nil (q : Q t H) : WD B T [] t H HH Q := fun env h F hist le s _ => ⟨t, H, env, h, q, le, s, Ev.of fun _ => rfl⟩
theorem WD.quiet {d : Option Nat} {op : AOp} {g : Option (Nat × Bool)} {i bs : Nat} {os : List DOper} (hw : wantedL g t = some true) (h1 : ∀ f a, op ≠ .call f a) (h2 : ∀ f a, op ≠ .callv f a)
  (w : WOp B T op t H fun v H' => WD B T os (setL t d v) H' HH Q) : WD B T (⟨⟨d, op, g⟩, .quiet, i, bs⟩ :: os) t H HH Q := fun env h F hist le s hh => by
 obtain ⟨v, h', H', q, s', e⟩ := w env h F le s
 obtain ⟨t2, H2, env2, h2', q2, le2, s2, e2⟩ := q _ h' F hist (le.setD d v) s' hh
 refine ⟨t2, H2, env2, h2', q2, le2, s2, (e.and e2).mono fun n ⟨e, e2⟩ => ?_⟩
 rw [evOp_aop h1 h2] at e
 simp only [evD, wanted_mono le hw, e, forceV_eq]; exact e2
theorem WD.loud {d : Option Nat} {op : AOp} {g : Option (Nat × Bool)} {i bs : Nat} {os : List DOper} (hw : wantedL g t = some true)
  (w : WOp B T op t H fun v H' => WD B T os (setL t d v) H' ((i, H') :: HH) Q) : WD B T (⟨⟨d, op, g⟩, .loud, i, bs⟩ :: os) t H HH Q := fun env h F hist le s hh => by
 obtain ⟨v, h', H', q, s', e⟩ := w env h F le s
 obtain ⟨t2, H2, env2, h2', q2, le2, s2, e2⟩ := q _ h' F ((i, h') :: hist) (le.setD d v) s' ⟨rfl, s', hh⟩
 refine ⟨t2, H2, env2, h2', q2, le2, s2, (e.and e2).mono fun n ⟨e, e2⟩ => ?_⟩
 simp only [evD, wanted_mono le hw, e, forceV_eq]; exact e2
theorem WD.load {d : Option Nat} {op : AOp} {g : Option (Nat × Bool)} {i bs : Nat} {os : List DOper} {v : AV} (hw : wantedL g t = some true) (a : At B op t v bs HH)
  (w : WD B T os (setL t d v) H HH Q) : WD B T (⟨⟨d, op, g⟩, .load, i, bs⟩ :: os) t H HH Q := fun env h F hist le s hh => by
 obtain ⟨t2, H2, env2, h2', q2, le2, s2, e2⟩ := w _ h F hist (le.setD d v) s hh
 refine ⟨t2, H2, env2, h2', q2, le2, s2, e2.mono fun n e2 => ?_⟩
 simp only [evD, wanted_mono le hw, loadAt_of le hh a, forceV_eq]; exact e2
theorem WD.skip {d : Option Nat} {op : AOp} {g : Option (Nat × Bool)} {i bs : Nat} {os : List DOper} (hw : wantedL g t = some false)
  (w : WD B T os (setL t d .undef) H HH Q) : WD B T (⟨⟨d, op, g⟩, .quiet, i, bs⟩ :: os) t H HH Q := fun env h F hist le s hh => by
 obtain ⟨t2, H2, env2, h2', q2, le2, s2, e2⟩ := w _ h F hist (le.setD d .undef) s hh
 refine ⟨t2, H2, env2, h2', q2, le2, s2, e2.mono fun n e2 => ?_⟩
 simp only [evD, wanted_mono le hw]; exact e2
theorem WC.dreg2 {nt : Nat} {rdn : Option Nat} {pre : List DOper} {k esz : Nat} {x i : AO} {n1 : Nat} {v1 : AO} {n2 : Nat} {a2 v2 : AO} {Q : AExit → EL → HL → Prop}
  (w : WD B T pre t H [(pre.length + 3, H)] fun t1 H1 => WOps B T (twoSt k esz x i n1 v1 n2 a2 v2) t1 H1 fun t2 H2 => (∃ (p q : AA) (o1 o2 : AObj) (R : HL), gl t2 (.t k) = some (.ptr p) ∧ gl t2 a2 = some (.ptr q) ∧ H2.Perm ((p.id, o1) :: (q.id, o2) :: R)) ∧ Q .normal t2 H2) :
  WC B T nt rdn (.dreg2 pre k esz x i n1 v1 n2 a2 v2) t H Q := fun env ds h F le s => by
 obtain ⟨t1, H1, env1, h1, q1, le1, s1, e1⟩ := w env h F [(pre.length + 3, h)] le s ⟨rfl, s, trivial⟩
 obtain ⟨t2, H2, env2, h2, ⟨⟨p, q, o1, o2, R, g1, g2, hp⟩, q2⟩, le2, s2, e2⟩ := q1 env1 h1 F le1 s1
 refine ⟨_, t2, H2, env2, [], h2, q2, le2, by simpa using s2, Ev2.of1 ((e1.and e2).mono fun n e L => ?_)⟩
 have a1 : env2.get k = some (.ptr p) := rd_mono le2 g1
 have a2' := rd_mono le2 g2
 have hne : p.id ≠ q.id := by
  have := (s2.perm (hp.append_right F)).nd
  simp only [List.cons_append, List.map_cons, List.nodup_cons, List.mem_cons, not_or] at this
  exact this.1.1
 have hb : Nat.beq p.id q.id = false := by cases hh : Nat.beq p.id q.id with
  | false => rfl
  | true => exact absurd (Nat.eq_of_beq_eq_true hh) hne
 simp only [evC, e.1, e.2, List.nil_append, a1, a2', apartP, hb]
theorem WC.dreg {nt : Nat} {rdn : Option Nat} {os : List DOper} {Q : AExit → EL → HL → Prop} (w : WD B T os t H [(os.length, H)] (Q .normal)) : WC B T nt rdn (.dreg os) t H Q := fun env ds h F le s => by
 obtain ⟨t', H', env', h', q, le', s', e⟩ := w env h F [(os.length, h)] le s ⟨rfl, s, trivial⟩
 refine ⟨_, t', H', env', [], h', q, le', by simpa using s', Ev2.of1 (e.mono fun n e L => ?_)⟩
 simp only [evC, e, List.nil_append]
end D
end logic
end Go.Proofs.Ytdcbglljljfleaa.Abs
