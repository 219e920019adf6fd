/- What the functions do, shown by the logic. -/
import Derived.Test.YtfahfccbiolheaaDBTab
import Derived.Test.YtfahfccbiolheaaAbsN6
import Derived.Test.YtfahfccbiolheaaAbsN2
set_option linter.unusedSimpArgs false
set_option linter.unusedVariables false
set_option maxRecDepth 20000
namespace Go.Proofs.Ytfahfccbiolheaa.DB
open Go.Proofs.Ytfahfccbiolheaa.Abs
variable {B : Nat → List AV}
theorem eq_of_ff {p : Prop} (h : false = true ↔ p) : ¬ p := fun k => by have := h.2 k; cases this
def strC (k : List Nat) : List AV := [.str k]
theorem strs_T {l : List (List Nat)} : ∀ (i : Nat) c, (l.map strC)[i]? = some c → AllT [CT.str] c := by
  intro i c h
  rw [List.getElem?_map] at h
  cases hx : l[i]? with
  | none => rw [hx] at h; cases h
  | some e => rw [hx] at h; cases h; exact ⟨_, _, rfl, ⟨_, rfl⟩, rfl⟩
theorem strs_inj {a b : List (List Nat)} : a.map strC = b.map strC ↔ a = b := by
  constructor
  · intro h
    have h2 : ∀ (a b : List (List Nat)), a.map strC = b.map strC → a = b := by
      intro a
      induction a with
      | nil => intro b h; cases b with
        | nil => rfl
        | cons _ _ => simp at h
      | cons x a ih => intro b h; cases b with
        | nil => simp at h
        | cons y b =>
          simp only [List.map_cons, List.cons.injEq, strC, AV.str.injEq, and_true] at h
          rw [h.1, ih b h.2]
    exact h2 a b h
  · rintro rfl; rfl
theorem same13_ok {H : HL} {v w : AV} {xs ys : List (List AV)} (hv : SlIs B H v 1 xs) (hw : SlIs B H w 1 ys) (tx : ∀ (i : Nat) c, xs[i]? = some c → AllT [CT.str] c) (ty : ∀ (i : Nat) c, ys[i]? = some c → AllT [CT.str] c) (lx : xs.length ≤ 9223372036854775807) :
    WF B tab (.func 16) [v, w] H fun r H' => H' = H ∧ ∃ b : Bool, r = .bool b ∧ (b = true ↔ xs = ys) := by
  refine WF.fnR g16 rfl ?_
  repeat' (first
    | apply WOps.nil | apply WC.seq | apply WC.reg | apply WC.skip | apply WC.ret | apply WC.exit | (apply WC.condT; rfl) | (apply WC.condF; rfl) | apply WC.block | apply WC.dreg | apply WD.nil | (apply WOps.ldG; rfl; rfl; (first | exact ld0 rfl | exact ld1 rfl | exact ld2 rfl); rfl) | (apply WOps.lenS; rfl; rfl; exact hv) | (apply WOps.lenS; rfl; rfl; exact hw) | (apply WOps.cmp; rfl; rfl; rfl; rfl; intro _ _) | (apply WOps.cmpT; rfl; rfl; rfl; rfl; intro _ _) | (apply WOps.purG; rfl; (intro _; rfl)) | (apply WD.load; rfl; (first | (apply at1; (first | exact rd0 rfl rfl rfl | exact rd1 rfl rfl rfl | exact rd2 rfl rfl rfl); rfl) | (apply at2; (first | exact rd0 rfl rfl rfl | exact rd1 rfl rfl rfl | exact rd2 rfl rfl rfl); repeat' (first | exact same0 | (apply same1; (first | exact rd0 rfl rfl rfl | exact rd1 rfl rfl rfl | exact rd2 rfl rfl rfl); rfl) | (apply same2; (first | exact rd0 rfl rfl rfl | exact rd1 rfl rfl rfl | exact rd2 rfl rfl rfl)))))) | (apply WD.cmp; rfl; rfl; rfl; rfl; intro _ _) | (apply WD.cmpT; rfl; rfl; rfl; rfl; intro _ _) | (apply WD.pur; rfl; (intro _; rfl)) | (apply WC.condA; rfl; all_goals (intro hb; try subst hb)))
  · rename_i h
    simp [cmpP] at h
    refine ⟨trivial, List.Sublist.refl _, [_], ⟨_, [], rfl, rfl, rfl⟩, false, rfl, ?_⟩
    simp only [Bool.false_eq_true, false_iff]
    exact fun e => h (by rw [e])
  · rename_i h
    have hl : xs.length = ys.length := by have h0 := h; simp [cmpP] at h0; omega
    refine WC.loop ?_
    obtain ⟨i, hi⟩ : ∃ i : Nat, i = 0 := ⟨0, rfl⟩
    refine WL.le (t' := [(0, v), (1, w), (5, .int .i64 (.ofNat i))]) (by subst hi; exact Sub1.cons rfl (Sub1.cons rfl (Sub1.cons rfl Sub1.nil))) ?_
    have hle : i ≤ xs.length := by omega
    have hpre : ∀ (j : Nat), j < i → xs[j]? = ys[j]? := by intro j hj; omega
    clear hi
    induction hk : xs.length - i using Nat.strongRecOn generalizing i with | _ k ih => ?_
    apply WL.step
    repeat' (first
      | apply WOps.nil | apply WC.seq | apply WC.reg | apply WC.skip | apply WC.ret | apply WC.exit | (apply WC.condT; rfl) | (apply WC.condF; rfl) | apply WC.block | apply WC.dreg | apply WD.nil | (apply WOps.ldG; rfl; rfl; (first | exact ld0 rfl | exact ld1 rfl | exact ld2 rfl); rfl) | (apply WOps.lenS; rfl; rfl; exact hv) | (apply WOps.lenS; rfl; rfl; exact hw) | (apply WOps.cmp; rfl; rfl; rfl; rfl; intro _ _) | (apply WOps.cmpT; rfl; rfl; rfl; rfl; intro _ _) | (apply WOps.purG; rfl; (intro _; rfl)) | (apply WD.load; rfl; (first | (apply at1; (first | exact rd0 rfl rfl rfl | exact rd1 rfl rfl rfl | exact rd2 rfl rfl rfl); rfl) | (apply at2; (first | exact rd0 rfl rfl rfl | exact rd1 rfl rfl rfl | exact rd2 rfl rfl rfl); repeat' (first | exact same0 | (apply same1; (first | exact rd0 rfl rfl rfl | exact rd1 rfl rfl rfl | exact rd2 rfl rfl rfl); rfl) | (apply same2; (first | exact rd0 rfl rfl rfl | exact rd1 rfl rfl rfl | exact rd2 rfl rfl rfl)))))) | (apply WD.cmp; rfl; rfl; rfl; rfl; intro _ _) | (apply WD.cmpT; rfl; rfl; rfl; rfl; intro _ _) | (apply WD.pur; rfl; (intro _; rfl)) | (apply WC.condA; rfl; all_goals (intro hb; try subst hb)))
    · rename_i hlt
      have hlt : i < xs.length := by have h0 := hlt; simp [cmpP] at h0; omega
      obtain ⟨c, hc⟩ : ∃ c, xs[i]? = some c := ⟨xs[i], List.getElem?_eq_getElem hlt⟩
      obtain ⟨d, hd⟩ : ∃ d, ys[i]? = some d := ⟨ys[i]'(by omega), List.getElem?_eq_getElem _⟩
      obtain ⟨_, _, rfl, ⟨s1, rfl⟩, rfl⟩ := tx i c hc
      obtain ⟨_, _, rfl, ⟨s2, rfl⟩, rfl⟩ := ty i d hd
      repeat' (first
        | apply WOps.nil | apply WC.seq | apply WC.reg | apply WC.skip | apply WC.ret | apply WC.exit | (apply WC.condT; rfl) | (apply WC.condF; rfl) | apply WC.block | apply WC.dreg | apply WD.nil | (apply WOps.ldG; rfl; rfl; (first | exact ld0 rfl | exact ld1 rfl | exact ld2 rfl); rfl) | (apply WD.ixSl; rfl; rfl; rfl; exact hv; exact hc; intro a1 l1) | (apply WD.ixSl; rfl; rfl; rfl; exact hw; exact hd; intro a2 l2) | (apply WD.load; rfl; (first | (apply at1; exact rd_ld rfl (l1 _ hv) rfl; rfl) | (apply at2; exact rd_ld rfl (l1 _ hv) rfl; repeat' (first | exact same0 | (apply same1; exact rd_ld rfl (l1 _ hv) rfl; rfl) | (apply same2; exact rd_ld rfl (l1 _ hv) rfl))))) | (apply WD.load; rfl; (first | (apply at1; exact rd_ld rfl (l2 _ hw) rfl; rfl) | (apply at2; exact rd_ld rfl (l2 _ hw) rfl; repeat' (first | exact same0 | (apply same1; exact rd_ld rfl (l2 _ hw) rfl; rfl) | (apply same2; exact rd_ld rfl (l2 _ hw) rfl))))) | (apply WOps.addN; rfl; rfl; rfl; omega) | (apply WOps.cmp; rfl; rfl; rfl; rfl; intro _ _) | (apply WOps.cmpT; rfl; rfl; rfl; rfl; intro _ _) | (apply WOps.purG; rfl; (intro _; rfl)) | (apply WD.load; rfl; (first | (apply at1; (first | exact rd0 rfl rfl rfl | exact rd1 rfl rfl rfl | exact rd2 rfl rfl rfl); rfl) | (apply at2; (first | exact rd0 rfl rfl rfl | exact rd1 rfl rfl rfl | exact rd2 rfl rfl rfl); repeat' (first | exact same0 | (apply same1; (first | exact rd0 rfl rfl rfl | exact rd1 rfl rfl rfl | exact rd2 rfl rfl rfl); rfl) | (apply same2; (first | exact rd0 rfl rfl rfl | exact rd1 rfl rfl rfl | exact rd2 rfl rfl rfl)))))) | (apply WD.cmp; rfl; rfl; rfl; rfl; intro _ _) | (apply WD.cmpT; rfl; rfl; rfl; rfl; intro _ _) | (apply WD.pur; rfl; (intro _; rfl)) | (apply WC.condA; rfl; all_goals (intro hb; try subst hb)))
      · rename_i hb
        refine ⟨trivial, List.Sublist.refl _, [_], ⟨_, [], rfl, rfl, rfl⟩, false, rfl, ?_⟩
        simp only [Bool.false_eq_true, false_iff]
        refine ne_of hc hd ?_
        simpa [cmpS] using hb
      · rename_i hb
        have hcd : xs[i]? = ys[i]? := by
          rw [hc, hd]
          simpa [cmpS] using hb
        refine WL.le (t' := [(0, v), (1, w), (5, .int .i64 (.ofNat (i + 1)))]) (Sub1.cons rfl (Sub1.cons rfl (Sub1.cons rfl Sub1.nil))) (ih _ (by omega) (i + 1) (by omega) ?_ rfl)
        intro j hj
        rcases Nat.lt_or_ge j i with h1 | h1
        · exact hpre j h1
        · obtain rfl : j = i := by omega
          exact hcd
    · rename_i hge
      have hge : xs.length ≤ i := by have h0 := hge; simp [cmpP] at h0; omega
      exact ⟨trivial, List.Sublist.refl _, [_], ⟨_, [], rfl, rfl, rfl⟩, true, rfl, by simp [ext_of hl hge hpre]⟩
theorem takeN_iff : ∀ {l c : List AV} {n : Nat}, takeN l n = some c → n ≤ l.length ∧ c = l.take n := by
  intro l c n h
  by_cases hn : n ≤ l.length
  · rw [takeN_of hn] at h
    cases h
    exact ⟨hn, rfl⟩
  · exfalso
    have key : ∀ (l : List AV) (n : Nat), ¬ n ≤ l.length → takeN l n = none := by
      intro l
      induction l with
      | nil => intro n hn; cases n with
        | zero => exact absurd (Nat.zero_le _) hn
        | succ n => rfl
      | cons x l ih => intro n hn; cases n with
        | zero => exact absurd (Nat.zero_le _) hn
        | succ n => simp only [takeN, ih n (by simpa using hn)]
    rw [key l n hn] at h
    cases h
theorem src_of {v : AV} {esz : Nat} {xs : List (List AV)} (h : SlIs B [] v esz xs) : ∀ {H : HL}, SrcIs B H v esz xs.length xs.flatten := by
  intro H
  rcases h with ⟨rfl, rfl⟩ | ⟨a, rfl, h⟩
  · exact .inl ⟨rfl, rfl, rfl⟩
  · refine .inr ⟨a, rfl, ?_⟩
    cases xs with
    | nil => exact .inl ⟨rfl, rfl⟩
    | cons x0 xs0 =>
      right
      have hro : a.ro = true := by
        rcases h 0 x0 rfl with ⟨h1, _⟩ | ⟨_, cs, R, tk, _⟩
        · exact h1
        · have := tk.length_eq
          simp at this
      left
      refine ⟨hro, ?_⟩
      have key : ∀ (ys : List (List AV)) (off : Nat), (∀ i c, ys[i]? = some c → takeN ((B a.id).drop (off + i * esz)) esz = some c) → takeN ((B a.id).drop off) (ys.length * esz) = some ys.flatten := by
        intro ys
        induction ys with
        | nil => intro off _; simp [takeN_of]
        | cons y ys ih =>
          intro off hh
          have h0 := takeN_iff (hh 0 y rfl)
          rw [Nat.zero_mul, Nat.add_zero] at h0
          have h1 := takeN_iff (ih (off + esz) fun i c hc => by
            have := hh (i + 1) c (by simpa using hc)
            rw [Nat.succ_mul] at this
            rw [show off + esz + i * esz = off + (i * esz + esz) by omega]
            exact this)
          rw [List.length_drop] at h0 h1
          rw [takeN_of (by rw [List.length_drop, List.length_cons, Nat.succ_mul]; omega), List.length_cons, Nat.succ_mul, Nat.add_comm (ys.length * esz) esz, List.take_add, List.flatten_cons, h1.2, h0.2, List.drop_drop]
      refine key (x0 :: xs0) a.off fun i c hc => ?_
      rcases h i c hc with ⟨_, h2⟩ | ⟨_, cs, R, tk, _⟩
      · exact h2
      · have := tk.length_eq
        simp at this
theorem strs_len : ∀ (l : List (List Nat)), (l.map strC).flatten.length = l.length * 1 := by
  intro l
  induction l with
  | nil => rfl
  | cons x l ih => rw [List.map_cons, List.flatten_cons, List.length_append, ih]; simp [strC]; omega
theorem strs_cell : ∀ (l : List (List Nat)), allCell (l.map strC).flatten = true := by
  intro l
  rw [allCell_iff]
  intro v hv
  simp only [List.mem_flatten, List.mem_map] at hv
  obtain ⟨_, ⟨e, _, rfl⟩, hv⟩ := hv
  simp only [strC, List.mem_singleton] at hv
  subst hv; rfl
theorem strs_sl {v : AV} {l : List (List Nat)} {h : HL} (o : OwnSl v (l.map strC).flatten l.length 1 h) : SlIs B h v 1 (l.map strC) := by
  have o2 : OwnSl v (l.map strC).flatten (l.map strC).length 1 h := by simpa using o
  exact OwnSl.sl o2 (by intro c hc; simp only [List.mem_map] at hc; obtain ⟨e, _, rfl⟩ := hc; rfl)
/-- The same number twice. -/
theorem WOps.neqS {T : Tr FnI} {t : EL} {H : HL} {Q : EL → HL → Prop} {os : List AOper} {k : Nat} {g : Option (Nat × Bool)} {x y : AO} {ki : IntKind} {a : Int} (hg : wantedL g t = some true) (hx : gl t x = some (.int ki a)) (hy : gl t y = some (.int ki a))
    (w : WOps B T os ((k, .bool false) :: t) H Q) : WOps B T (⟨some k, .bin .neq x y, g⟩ :: os) t H Q := by
  refine WOps.cmp (op := .neq) rfl hg hx hy fun v hv => ?_
  have : v = false := by rw [Bool.eq_false_iff]; intro h; have := hv.1 h; simp [cmpP] at this
  rw [this]; exact w
theorem WD.neqS {T : Tr FnI} {t : EL} {H : HL} {HH : List (Nat × HL)} {Q : EL → HL → Prop} {os : List DOper} {k i bs : Nat} {g : Option (Nat × Bool)} {x y : AO} {ki : IntKind} {a : Int} (hg : wantedL g t = some true) (hx : gl t x = some (.int ki a)) (hy : gl t y = some (.int ki a))
    (w : WD B T os ((k, .bool false) :: t) H HH Q) : WD B T (⟨⟨some k, .bin .neq x y, g⟩, .quiet, i, bs⟩ :: os) t H HH Q := by
  refine WD.cmp (op := .neq) rfl hg hx hy fun v hv => ?_
  have : v = false := by rw [Bool.eq_false_iff]; intro h; have := hv.1 h; simp [cmpP] at this
  rw [this]; exact w
theorem WOps.eqBS {T : Tr FnI} {t : EL} {H : HL} {Q : EL → HL → Prop} {os : List AOper} {k : Nat} {g : Option (Nat × Bool)} {x y : AO} {a : Bool} (hg : wantedL g t = some true) (hx : gl t x = some (.bool a)) (hy : gl t y = some (.bool a))
    (w : WOps B T os ((k, .bool false) :: t) H Q) : WOps B T (⟨some k, .eq true .bool x y, g⟩ :: os) t H Q := by
  refine WOps.eqB hg hx hy fun v hv => ?_
  have : v = false := by rw [Bool.eq_false_iff]; intro h; have := hv.1 h; simp at this
  rw [this]; exact w
theorem minE {a b : Nat} : (if (Int.ofNat b) < (Int.ofNat a) then Int.ofNat b else Int.ofNat a) = Int.ofNat (min a b) := by
  simp only [Int.ofNat_eq_natCast]
  split <;> omega
theorem WD.minN {T : Tr FnI} {t : EL} {H : HL} {HH : List (Nat × HL)} {Q : EL → HL → Prop} {os : List DOper} {k i bs : Nat} {g : Option (Nat × Bool)} {x y : AO} {ki : IntKind} {a b : Nat} (hg : wantedL g t = some true) (hx : gl t x = some (.int ki (.ofNat a))) (hy : gl t y = some (.int ki (.ofNat b)))
    (w : WD B T os ((k, .int ki (.ofNat (min a b))) :: t) H HH Q) : WD B T (⟨⟨some k, .mm false x [y], g⟩, .quiet, i, bs⟩ :: os) t H HH Q :=
  WD.pur hg (fun h => by simp only [aopL, gls, hx, hy, aMax, if_true, minE, pure1]) w
/-- A part of a slice. -/
theorem sub_of {H : HL} {a : AA} {esz : Nat} {xs : List (List AV)} (h : ∀ i c, xs[i]? = some c → Ld B H ⟨a.ro, a.id, a.off + i * esz⟩ esz c) {m k : Nat} (hk : k ≤ xs.length) (hm : m ≤ k) :
    SlIs B H (.sl ⟨a.ro, a.id, a.off + m * esz⟩ (k - m) esz) esz ((xs.drop m).take (k - m)) := by
  refine .inr ⟨_, by rw [List.length_take, List.length_drop]; congr 1; omega, fun i c hc => ?_⟩
  have hi : i < k - m := by
    have := (List.getElem?_eq_some_iff.1 hc).1
    rw [List.length_take] at this; omega
  rw [List.getElem?_take_of_lt hi, List.getElem?_drop] at hc
  have := h _ _ hc
  simp only
  rw [Nat.add_assoc, ← Nat.add_mul]
  exact this
theorem WOps.slP {T : Tr FnI} {t : EL} {H : HL} {Q : EL → HL → Prop} {os : List AOper} {k : Nat} {g : Option (Nat × Bool)} {esz n l h m : Nat} {a : AA} {x : AO} {lo hi mx : Option AO} {lo' hi' mx' : Option AV} (hg : wantedL g t = some true) (hx : gl t x = some (.sl a n esz)) (h1 : glo t lo = some lo') (h2 : glo t hi = some hi') (h3 : glo t mx = some mx')
    (hb : bounds n lo' hi' mx' = some (l, h, m)) (w : WOps B T os ((k, .sl ⟨a.ro, a.id, a.off + l * esz⟩ (h - l) esz) :: t) H Q) : WOps B T (⟨some k, .slS esz x lo hi mx, g⟩ :: os) t H Q :=
  WOps.purG hg (fun h' => by simp only [aopL, hx, h1, h2, h3, Nat.beq_refl, hb]) w
theorem WD.slP {T : Tr FnI} {t : EL} {H : HL} {HH : List (Nat × HL)} {Q : EL → HL → Prop} {os : List DOper} {k i bs : Nat} {g : Option (Nat × Bool)} {esz n l h m : Nat} {a : AA} {x : AO} {lo hi mx : Option AO} {lo' hi' mx' : Option AV} (hg : wantedL g t = some true) (hx : gl t x = some (.sl a n esz)) (h1 : glo t lo = some lo') (h2 : glo t hi = some hi') (h3 : glo t mx = some mx')
    (hb : bounds n lo' hi' mx' = some (l, h, m)) (w : WD B T os ((k, .sl ⟨a.ro, a.id, a.off + l * esz⟩ (h - l) esz) :: t) H HH Q) : WD B T (⟨⟨some k, .slS esz x lo hi mx, g⟩, .quiet, i, bs⟩ :: os) t H HH Q :=
  WD.pur hg (fun h' => by simp only [aopL, hx, h1, h2, h3, Nat.beq_refl, hb]) w
theorem bounds_3 {n m l : Nat} {ki kj kk : IntKind} (h : m ≤ n) (hl : l ≤ m) : bounds n (some (.int kj (.ofNat l))) (some (.int ki (.ofNat m))) (some (.int kk (.ofNat m))) = some (l, m, m) := by
  unfold bounds; simp only [asBound_of h, asBound_of hl, asBound_of (Nat.le_refl m)]
/-- A command, but for its tags and its parts. -/
structure Cx where
  k : Int
  n : Int
  p : Int
  s : Int
  t1 : List Nat
  t2 : List Nat
  t3 : List Nat
  t4 : List Nat
  t5 : List Nat
  t6 : List Nat
  t7 : List Nat
  t8 : List Nat
  fl : Bool
  u1 : Int
  u2 : Int
def cmC (x : Cx) (tg sb : AV) : List AV := [.int .i64 x.k, .int .i64 x.n, .int .i64 x.p, .int .i64 x.s, .str x.t1, .str x.t2, .str x.t3, .str x.t4, .str x.t5, .str x.t6, .str x.t7, .str x.t8, tg, .bool x.fl, .int .u64 x.u1, .int .u64 x.u2, sb]
def txtL (x : Cx) : List (List Nat) := [x.t1, x.t2, x.t3, x.t4, x.t5, x.t6, x.t7, x.t8]
theorem texts26_ok {H : HL} {x : Cx} {ta sa : AV} (ca : ta.isCell = true) (cs : sa.isCell = true) : WF B tab (.func 26) [.agg (cmC x ta sa)] H fun r H' => ∃ id, r = .sl ⟨false, id, 0⟩ 8 1 ∧ H' = (id, .row ((txtL x).map strC).flatten) :: H := by
  refine WF.lessP ?_
  refine WF.fn g26 rfl ?_
  repeat' (first
    | apply WOps.nil | apply WC.seq | apply WC.reg | apply WC.skip | apply WC.ret | (apply WOps.ldG; rfl; rfl; (first | exact ld0 rfl | exact ld1 rfl | exact ld2 rfl); rfl) | (apply WOps.bx; rfl; rfl; (first | rfl | ((repeat' (first | exact ac0 | apply ac1)) <;> (first | rfl | assumption))); intro _) | (apply WOps.bsl; rfl; (first | rfl | ((repeat' (first | exact ac0 | apply ac1)) <;> (first | rfl | assumption))); intro _) | (apply WOps.purG; rfl; (intro _; rfl)))
  exact ⟨trivial, [_], ⟨_, [], rfl, rfl, rfl⟩, _, ⟨_, rfl, rfl⟩, SubP.of (List.Sublist.cons_cons _ (List.sublist_cons_self _ _))⟩
theorem txt_sl {x : Cx} {id : Nat} {H : HL} : SlIs B ((id, .row ((txtL x).map strC).flatten) :: H) (.sl ⟨false, id, 0⟩ 8 1) 1 ((txtL x).map strC) := by
  have o : OwnSl (.sl ⟨false, id, 0⟩ 8 1) ((txtL x).map strC).flatten (txtL x).length 1 [(id, .row ((txtL x).map strC).flatten)] := .inr ⟨id, rfl, rfl, rfl⟩
  exact SlIs.left (R := H) (strs_sl o)
set_option maxHeartbeats 4000000 in
theorem same17_step {H : HL} {x : Cx} {ta tb sa sb : AV} {tags : List (List Nat)} {xs : List (List AV)} (ha : SlIs B H ta 1 (tags.map strC)) (hb : SlIs B H tb 1 (tags.map strC)) (lt : tags.length ≤ 9223372036854775807)
    (xa : SlIs B H sa 17 xs) (xb : SlIs B H sb 17 xs) (lx : xs.length ≤ 9223372036854775807) (hx : ∀ c, c ∈ xs → ∀ H', WF B tab (.func 17) [.agg c, .agg c] H' fun r H2 => r = .bool true ∧ H2 = H') :
    WF B tab (.func 17) [.agg (cmC x ta sa), .agg (cmC x tb sb)] H fun r H' => r = .bool true ∧ H' = H := by
  refine WF.lessP ?_
  refine WF.fn g17 rfl ?_
  have ca := ha.cell
  have cb := hb.cell
  have da := xa.cell
  have db := xb.cell
  repeat' (first
    | apply WOps.nil | apply WC.seq | apply WC.reg | apply WC.skip | apply WC.ret | apply WC.exit | (apply WC.condT; rfl) | (apply WC.condF; rfl) | apply WC.block | apply WC.dreg | apply WD.nil | (apply WOps.ldG; rfl; rfl; (first | exact ld0 rfl | exact ld1 rfl | exact ld2 rfl); rfl) | (apply WOps.bx; rfl; rfl; (first | rfl | ((repeat' (first | exact ac0 | apply ac1)) <;> (first | rfl | assumption))); intro _) | (apply WOps.neqS; rfl; rfl; rfl) | (apply WD.neqS; rfl; rfl; rfl) | (apply WOps.eqBS; rfl; rfl; rfl) | (apply WD.clA; rfl; rfl; exact texts26_ok ‹_› ‹_›; rintro _ _ ⟨i1, rfl, rfl⟩) | (apply WD.clR; rfl; rfl; exact same13_ok txt_sl.cons txt_sl strs_T strs_T (by simp [txtL]); rintro _ ⟨b1, rfl, h1⟩; rw [h1.2 rfl]) | (apply WD.load; rfl; (first | (apply at1; (first | exact rd0 rfl rfl rfl | exact rd1 rfl rfl rfl | exact rd2 rfl rfl rfl | exact rd_ld rfl (ld2 rfl).cons rfl | exact rd_ld rfl (ld2 rfl).cons.cons rfl | exact rd_ld rfl (ld2 rfl).cons.cons.cons rfl); rfl) | (apply at2; (first | exact rd0 rfl rfl rfl | exact rd1 rfl rfl rfl | exact rd2 rfl rfl rfl | exact rd_ld rfl (ld2 rfl).cons rfl | exact rd_ld rfl (ld2 rfl).cons.cons rfl | exact rd_ld rfl (ld2 rfl).cons.cons.cons rfl); repeat' (first | exact same0 | (apply same1; (first | exact rd0 rfl rfl rfl | exact rd1 rfl rfl rfl | exact rd2 rfl rfl rfl | exact rd_ld rfl (ld2 rfl).cons rfl | exact rd_ld rfl (ld2 rfl).cons.cons rfl | exact rd_ld rfl (ld2 rfl).cons.cons.cons rfl); rfl) | (apply same2; (first | exact rd0 rfl rfl rfl | exact rd1 rfl rfl rfl | exact rd2 rfl rfl rfl | exact rd_ld rfl (ld2 rfl).cons rfl | exact rd_ld rfl (ld2 rfl).cons.cons rfl | exact rd_ld rfl (ld2 rfl).cons.cons.cons rfl)))))) | (apply WD.clR; rfl; rfl; exact same13_ok ha.cons.cons.cons.cons hb.cons.cons.cons.cons strs_T strs_T (by simp; omega); rintro _ ⟨b1, rfl, h2⟩; rw [h2.2 rfl]) | (apply WD.lenS; rfl; rfl; exact xa.cons.cons.cons.cons) | (apply WD.lenS; rfl; rfl; exact xb.cons.cons.cons.cons) | (apply WOps.neqF; rfl; rfl; rfl; decide) | (apply WOps.neqT; rfl; rfl; rfl; decide) | (apply WOps.eqlF; rfl; rfl; rfl; decide) | (apply WOps.eqlT; rfl; rfl; rfl; decide) | (apply WD.neqF; rfl; rfl; rfl; decide) | (apply WD.neqT; rfl; rfl; rfl; decide) | (apply WD.eqlF; rfl; rfl; rfl; decide) | (apply WD.eqlT; rfl; rfl; rfl; decide) | (apply WOps.cmp; rfl; rfl; rfl; rfl; intro _ _) | (apply WOps.cmpT; rfl; rfl; rfl; rfl; intro _ _) | (apply WOps.eqB; rfl; rfl; rfl; intro _ _) | (apply WOps.purG; rfl; (intro _; rfl)) | (apply WOps.skp; rfl) | (apply WD.load; rfl; (first | (apply at1; (first | exact rd0 rfl rfl rfl | exact rd1 rfl rfl rfl | exact rd2 rfl rfl rfl); rfl) | (apply at2; (first | exact rd0 rfl rfl rfl | exact rd1 rfl rfl rfl | exact rd2 rfl rfl rfl); repeat' (first | exact same0 | (apply same1; (first | exact rd0 rfl rfl rfl | exact rd1 rfl rfl rfl | exact rd2 rfl rfl rfl); rfl) | (apply same2; (first | exact rd0 rfl rfl rfl | exact rd1 rfl rfl rfl | exact rd2 rfl rfl rfl)))))) | (apply WD.cmp; rfl; rfl; rfl; rfl; intro _ _) | (apply WD.cmpT; rfl; rfl; rfl; rfl; intro _ _) | (apply WD.eqB; rfl; rfl; rfl; intro _ _) | (apply WD.pur; rfl; (intro _; rfl)) | (apply WD.skp; rfl) | (apply WD.skpL; rfl) | (apply WD.skpX; rfl) | (apply WOps.ask; rfl; all_goals (intro hb; first | subst hb | fail_if_success (cases hb))) | (apply WC.condA; rfl; all_goals (intro hb; try subst hb)) | (apply WD.ask; rfl; all_goals (intro hb; first | subst hb | fail_if_success (cases hb))))
  rename_i p2 p3 j1 b0
  refine WC.loop ?_
  obtain ⟨i, hi⟩ : ∃ i : Nat, i = 0 := ⟨0, rfl⟩
  refine WL.le (t' := [(2, .ptr ⟨false, p2, 0⟩), (3, .ptr ⟨false, p3, 0⟩), (5, .int .i64 (.ofNat i))]) (by subst hi; exact Sub1.cons rfl (Sub1.cons rfl (Sub1.cons rfl Sub1.nil))) ?_
  refine WL.lessP (H1 := (p3, .row (cmC x tb sb)) :: (p2, .row (cmC x ta sa)) :: H) (subF (by intro f; simp only [AV.cells, List.append_eq, List.map_cons, List.map_nil, List.sum_nil, List.map_append, List.sum_cons, List.sum_append, List.cons_append, List.nil_append, List.append_assoc, List.append_nil]; omega)) ?_
  have hle : i ≤ xs.length := by omega
  clear hi
  induction hk : xs.length - i using Nat.strongRecOn generalizing i with | _ k ih => ?_
  apply WL.step
  repeat' (first
    | apply WOps.nil | apply WC.seq | apply WC.reg | apply WC.skip | apply WC.ret | apply WC.exit | (apply WC.condT; rfl) | (apply WC.condF; rfl) | apply WC.block | apply WC.dreg | apply WD.nil | (apply WOps.ldG; rfl; rfl; (first | exact ld0 rfl | exact ld1 rfl | exact ld2 rfl); rfl) | (apply WOps.bx; rfl; rfl; (first | rfl | ((repeat' (first | exact ac0 | apply ac1)) <;> (first | rfl | assumption))); intro _) | (apply WOps.lenS; rfl; rfl; exact xa.cons.cons) | (apply WOps.cmp; rfl; rfl; rfl; rfl; intro _ _) | (apply WOps.cmpT; rfl; rfl; rfl; rfl; intro _ _) | (apply WOps.eqB; rfl; rfl; rfl; intro _ _) | (apply WOps.purG; rfl; (intro _; rfl)) | (apply WOps.skp; rfl) | (apply WD.load; rfl; (first | (apply at1; (first | exact rd0 rfl rfl rfl | exact rd1 rfl rfl rfl | exact rd2 rfl rfl rfl); rfl) | (apply at2; (first | exact rd0 rfl rfl rfl | exact rd1 rfl rfl rfl | exact rd2 rfl rfl rfl); repeat' (first | exact same0 | (apply same1; (first | exact rd0 rfl rfl rfl | exact rd1 rfl rfl rfl | exact rd2 rfl rfl rfl); rfl) | (apply same2; (first | exact rd0 rfl rfl rfl | exact rd1 rfl rfl rfl | exact rd2 rfl rfl rfl)))))) | (apply WD.cmp; rfl; rfl; rfl; rfl; intro _ _) | (apply WD.cmpT; rfl; rfl; rfl; rfl; intro _ _) | (apply WD.eqB; rfl; rfl; rfl; intro _ _) | (apply WD.pur; rfl; (intro _; rfl)) | (apply WD.skp; rfl) | (apply WD.skpL; rfl) | (apply WD.skpX; rfl) | (apply WOps.ask; rfl; all_goals (intro hb; first | subst hb | fail_if_success (cases hb))) | (apply WC.condA; rfl; all_goals (intro hb; try subst hb)) | (apply WD.ask; rfl; all_goals (intro hb; first | subst hb | fail_if_success (cases hb))))
  · have hlt : i < xs.length := by
      have h0 := ‹true = true ↔ cmpP BinOp.lss (Int.ofNat i) (Int.ofNat xs.length)›.1 rfl
      simp [cmpP] at h0; omega
    have hc : xs[i]? = some xs[i] := List.getElem?_eq_getElem hlt
    repeat' (first
      | apply WOps.nil | apply WC.seq | apply WC.reg | apply WC.skip | apply WC.ret | apply WC.exit | (apply WC.condT; rfl) | (apply WC.condF; rfl) | apply WC.block | apply WC.dreg | apply WD.nil | (apply WOps.ldG; rfl; rfl; (first | exact ld0 rfl | exact ld1 rfl | exact ld2 rfl); rfl) | (apply WOps.bx; rfl; rfl; (first | rfl | ((repeat' (first | exact ac0 | apply ac1)) <;> (first | rfl | assumption))); intro _) | (apply WD.ixSl; rfl; rfl; rfl; exact xa.cons.cons; exact hc; intro a1 l1) | (apply WD.ixSl; rfl; rfl; rfl; exact xb.cons.cons; exact hc; intro a2 l2) | (apply WD.load; rfl; (first | (apply at1; exact rd_ld rfl (l1 _ xa.cons.cons) rfl; rfl) | (apply at2; exact rd_ld rfl (l1 _ xa.cons.cons) rfl; repeat' (first | exact same0 | (apply same1; exact rd_ld rfl (l1 _ xa.cons.cons) rfl; rfl) | (apply same2; exact rd_ld rfl (l1 _ xa.cons.cons) rfl))))) | (apply WD.load; rfl; (first | (apply at1; exact rd_ld rfl (l2 _ xb.cons.cons) rfl; rfl) | (apply at2; exact rd_ld rfl (l2 _ xb.cons.cons) rfl; repeat' (first | exact same0 | (apply same1; exact rd_ld rfl (l2 _ xb.cons.cons) rfl; rfl) | (apply same2; exact rd_ld rfl (l2 _ xb.cons.cons) rfl))))) | (apply WD.clA; rfl; rfl; exact hx _ (List.getElem_mem hlt) _; rintro _ _ ⟨rfl, rfl⟩) | (apply WOps.addN; rfl; rfl; rfl; omega) | (apply WOps.cmp; rfl; rfl; rfl; rfl; intro _ _) | (apply WOps.cmpT; rfl; rfl; rfl; rfl; intro _ _) | (apply WOps.eqB; rfl; rfl; rfl; intro _ _) | (apply WOps.purG; rfl; (intro _; rfl)) | (apply WOps.skp; rfl) | (apply WD.load; rfl; (first | (apply at1; (first | exact rd0 rfl rfl rfl | exact rd1 rfl rfl rfl | exact rd2 rfl rfl rfl); rfl) | (apply at2; (first | exact rd0 rfl rfl rfl | exact rd1 rfl rfl rfl | exact rd2 rfl rfl rfl); repeat' (first | exact same0 | (apply same1; (first | exact rd0 rfl rfl rfl | exact rd1 rfl rfl rfl | exact rd2 rfl rfl rfl); rfl) | (apply same2; (first | exact rd0 rfl rfl rfl | exact rd1 rfl rfl rfl | exact rd2 rfl rfl rfl)))))) | (apply WD.cmp; rfl; rfl; rfl; rfl; intro _ _) | (apply WD.cmpT; rfl; rfl; rfl; rfl; intro _ _) | (apply WD.eqB; rfl; rfl; rfl; intro _ _) | (apply WD.pur; rfl; (intro _; rfl)) | (apply WD.skp; rfl) | (apply WD.skpL; rfl) | (apply WD.skpX; rfl) | (apply WOps.ask; rfl; all_goals (intro hb; first | subst hb | fail_if_success (cases hb))) | (apply WC.condA; rfl; all_goals (intro hb; try subst hb)) | (apply WD.ask; rfl; all_goals (intro hb; first | subst hb | fail_if_success (cases hb))))
    refine WL.le (t' := [(2, .ptr ⟨false, p2, 0⟩), (3, .ptr ⟨false, p3, 0⟩), (5, .int .i64 (.ofNat (i + 1)))]) (Sub1.cons rfl (Sub1.cons rfl (Sub1.cons rfl Sub1.nil))) (ih _ (by omega) (i + 1) (by omega) rfl)
  · exact ⟨trivial, [_], ⟨_, [], rfl, rfl, rfl⟩, _, ⟨rfl, rfl⟩, subF (by intro f; simp only [AV.cells, List.append_eq, List.map_cons, List.map_nil, List.sum_nil, List.map_append, List.sum_cons, List.sum_append, List.cons_append, List.nil_append, List.append_assoc, List.append_nil]; omega)⟩
/-- A command of which all can be read, so deep. -/
def Gd (B : Nat → List AV) : Nat → List AV → Prop
  | 0, _ => False
  | d + 1, c => ∃ (x : Cx) (ta sa : AV) (tags : List (List Nat)) (xs : List (List AV)), c = cmC x ta sa ∧ SlIs B [] ta 1 (tags.map strC) ∧ tags.length ≤ 9223372036854775807 ∧ SlIs B [] sa 17 xs ∧ xs.length ≤ 9223372036854775807 ∧ ∀ y, y ∈ xs → Gd B d y
theorem same17_refl : ∀ {d : Nat} {c : List AV}, Gd B d c → ∀ H, WF B tab (.func 17) [.agg c, .agg c] H fun r H' => r = .bool true ∧ H' = H := by
  intro d
  induction d with
  | zero => intro c h; cases h
  | succ d ih =>
    rintro c ⟨x, ta, sa, tags, xs, rfl, h1, h2, h3, h4, h5⟩ H
    exact same17_step h1.any h1.any h2 h3.any h3.any h4 fun y hy H' => ih (h5 y hy) H'
theorem gd_len {d : Nat} {c : List AV} (h : Gd B d c) : c.length = 17 := by
  cases d with
  | zero => cases h
  | succ d => obtain ⟨x, ta, sa, tags, xs, rfl, _⟩ := h; rfl
theorem gd_cell {d : Nat} {c : List AV} (h : Gd B d c) : allCell c = true := by
  cases d with
  | zero => cases h
  | succ d =>
    obtain ⟨x, ta, sa, tags, xs, rfl, h1, _, h3, _⟩ := h
    rw [allCell_iff]
    intro v hv
    simp only [cmC, List.mem_cons, List.not_mem_nil, or_false] at hv
    rcases hv with rfl | rfl | rfl | rfl | rfl | rfl | rfl | rfl | rfl | rfl | rfl | rfl | rfl | rfl | rfl | rfl | rfl
    all_goals first | rfl | exact h1.cell | exact h3.cell
/-- Cells that make commands. -/
def Fit (cs : List (List AV)) : Prop := ∀ c, c ∈ cs → c.length = 17 ∧ allCell c = true
theorem fit_len : ∀ {cs : List (List AV)}, Fit cs → cs.flatten.length = cs.length * 17 := by
  intro cs
  induction cs with
  | nil => intro _; rfl
  | cons c cs ih => intro h; rw [List.flatten_cons, List.length_append, ih (fun c hc => h c (by simp [hc])), (h c (by simp)).1, List.length_cons]; omega
theorem fit_cell {cs : List (List AV)} (h : Fit cs) : allCell cs.flatten = true := by
  rw [allCell_iff]
  intro v hv
  simp only [List.mem_flatten] at hv
  obtain ⟨c, hc, hv⟩ := hv
  exact (allCell_iff _).1 (h c hc).2 v hv
theorem sl_len {H : HL} {a : AA} {m esz e2 : Nat} {xs : List (List AV)} (h : SlIs B H (.sl a m esz) e2 xs) : m = xs.length ∧ esz = e2 := by
  rcases h with ⟨h, _⟩ | ⟨a, h, _⟩
  · cases h
  · cases h; exact ⟨rfl, rfl⟩
theorem clone25_ok {H : HL} {a : AA} {m : Nat} {xs : List (List AV)} (hs : SlIs B [] (.sl a m 17) 17 xs) (hf : Fit xs) (lx : xs.length ≤ 64) :
    WF B tab (.func 25) [.sl a m 17] H fun r H' => ∃ hc, OwnSl r xs.flatten xs.length 17 hc ∧ H' = hc ++ H := by
  refine WF.fn g25 rfl ?_
  obtain ⟨rfl, _⟩ := sl_len hs
  repeat' (first
    | apply WOps.nil | apply WC.seq | apply WC.reg | apply WC.skip | apply WC.ret | (apply WC.condT; rfl) | (apply WC.condF; rfl) | (apply WOps.bsl; rfl; (first | rfl | ((repeat' (first | exact ac0 | apply ac1)) <;> (first | rfl | assumption))); intro _) | (apply WOps.eqB; rfl; rfl; rfl; intro _ _) | (apply WOps.purG; rfl; (intro _; rfl)) | (apply WC.condA; rfl; all_goals (intro hb; try subst hb)))
  rename_i q
  refine WOps.app (h := [(q, .row [])]) (cells := []) (n := 0) rfl rfl rfl (.inr ⟨q, rfl, rfl, rfl⟩) (List.Perm.refl _) (src_of hs) rfl (fit_cell hf) (fit_len hf) (by omega) ?_
  intro v2 h2 o2
  repeat' (first
    | apply WOps.nil | apply WC.seq | apply WC.reg | apply WC.skip | apply WC.ret | (apply WC.condT; rfl) | (apply WC.condF; rfl) | (apply WOps.bsl; rfl; (first | rfl | ((repeat' (first | exact ac0 | apply ac1)) <;> (first | rfl | assumption))); intro _) | (apply WOps.eqB; rfl; rfl; rfl; intro _ _) | (apply WOps.purG; rfl; (intro _; rfl)) | (apply WC.condA; rfl; all_goals (intro hb; try subst hb)))
  refine ⟨trivial, [_], ⟨_, [], rfl, rfl, rfl⟩, h2, ?_, rfl⟩
  have o3 : OwnSl v2 xs.flatten xs.length 17 h2 := by simpa using o2
  exact o3
theorem chunk24_ok {H : HL} {v : AV} {M : Nat} {xs : List (List AV)} (hs : SlIs B [] v 17 xs) (hM : 1 ≤ M) :
    WF B tab (.func 24) [v, .int .i64 (.ofNat M)] H fun r H' => ∃ c2 c3, r = .fn (.func 39) [] [.ptr ⟨false, c2, 0⟩, .ptr ⟨false, c3, 0⟩] ∧ H' = (c3, .row [.int .i64 (.ofNat M)]) :: (c2, .row [v]) :: H := by
  refine WF.fn g24 rfl ?_
  rcases hs with ⟨rfl, _⟩ | ⟨a, rfl, _⟩
  all_goals
    repeat' (first
      | apply WOps.nil | apply WC.seq | apply WC.reg | apply WC.skip | apply WC.ret | (apply WC.condT; rfl) | (apply WC.condF; rfl) | (apply WOps.ldG; rfl; rfl; (first | exact ld0 rfl | exact ld1 rfl | exact ld2 rfl); rfl) | (apply WOps.bx; rfl; rfl; (first | rfl | ((repeat' (first | exact ac0 | apply ac1)) <;> (first | rfl | assumption))); intro _) | (apply WOps.cmp; rfl; rfl; rfl; rfl; intro _ _) | (apply WOps.cmpT; rfl; rfl; rfl; rfl; intro _ _) | (apply WOps.purG; rfl; (intro _; rfl)) | (apply WC.condA; rfl; all_goals (intro hb; try subst hb)))
    · have h0 := ‹true = true ↔ cmpP BinOp.lss (Int.ofNat M) (Int.ofNat 1)›.1 rfl
      simp [cmpP] at h0; omega
    · exact ⟨trivial, [_], ⟨_, [], rfl, rfl, rfl⟩, _, _, rfl, rfl⟩
theorem WL.heq {T : Tr FnI} {nt : Nat} {rdn : Option Nat} {c : AC} {t : EL} {H H' : HL} {Q : AExit → EL → HL → Prop} (e : H = H') (w : WL B T nt rdn c t H' Q) : WL B T nt rdn c t H Q := e ▸ w
def part (xs : List (List AV)) (M k : Nat) : List (List AV) := (xs.drop (k * M)).take M
theorem iter39_ok {l c2 c3 M : Nat} {v : AV} {xs : List (List AV)} {H0 : HL} (hs : SlIs B [] v 17 xs) (hn : xs.length ≤ 60) (hM : 1 ≤ M) (hM2 : M ≤ 8) (I : Nat → HL → Prop) (h0 : I 0 H0)
    (hc : ∀ k H, I k H → Ld B H ⟨false, c2, 0⟩ 1 [v] ∧ Ld B H ⟨false, c3, 0⟩ 1 [.int .i64 (.ofNat M)])
    (hy : ∀ k H, k * M < xs.length → I k H → ∀ a m, SlIs B [] (.sl a m 17) 17 (part xs M k) → WF B tab (.yield l) [.sl a m 17] H fun r H2 => r = .bool true ∧ ∃ H3, I (k + 1) H3 ∧ SubP H3 H2) :
    WF B tab (.func 39) [.fn (.yield l) [] [], .ptr ⟨false, c2, 0⟩, .ptr ⟨false, c3, 0⟩] H0 fun _ H' => ∃ H3, (∃ k, xs.length ≤ k * M ∧ (∀ j, j < k → j * M < xs.length) ∧ I k H3) ∧ SubP H3 H' := by
  refine WF.fn g39 rfl ?_
  repeat' (first
    | apply WOps.nil | apply WC.seq | apply WC.reg | apply WC.skip | apply WC.ret | apply WC.exit | (apply WC.condT; rfl) | (apply WC.condF; rfl) | apply WC.block | apply WC.dreg | apply WD.nil | (apply WOps.ldG; rfl; rfl; (first | exact ld0 rfl | exact ld1 rfl | exact ld2 rfl); rfl) | (apply WOps.cmp; rfl; rfl; rfl; rfl; intro _ _) | (apply WOps.cmpT; rfl; rfl; rfl; rfl; intro _ _) | (apply WOps.purG; rfl; (intro _; rfl)) | (apply WD.load; rfl; (first | (apply at1; (first | exact rd0 rfl rfl rfl | exact rd1 rfl rfl rfl | exact rd2 rfl rfl rfl); rfl) | (apply at2; (first | exact rd0 rfl rfl rfl | exact rd1 rfl rfl rfl | exact rd2 rfl rfl rfl); repeat' (first | exact same0 | (apply same1; (first | exact rd0 rfl rfl rfl | exact rd1 rfl rfl rfl | exact rd2 rfl rfl rfl); rfl) | (apply same2; (first | exact rd0 rfl rfl rfl | exact rd1 rfl rfl rfl | exact rd2 rfl rfl rfl)))))) | (apply WD.cmp; rfl; rfl; rfl; rfl; intro _ _) | (apply WD.cmpT; rfl; rfl; rfl; rfl; intro _ _) | (apply WD.pur; rfl; (intro _; rfl)) | (apply WC.condA; rfl; all_goals (intro hb; try subst hb)))
  refine WC.loop ?_
  obtain ⟨k, hk0⟩ : ∃ k : Nat, k = 0 := ⟨0, rfl⟩
  obtain ⟨H, hH⟩ : ∃ H, H = H0 := ⟨H0, rfl⟩
  refine WL.le (t' := [(0, .fn (.yield l) [] []), (1, .ptr ⟨false, c2, 0⟩), (2, .ptr ⟨false, c3, 0⟩), (4, .int .i64 (.ofNat (k * M)))]) (by subst hk0; rw [Nat.zero_mul]; exact Sub1.cons rfl (Sub1.cons rfl (Sub1.cons rfl (Sub1.cons rfl Sub1.nil)))) ?_
  refine WL.heq (H' := H) hH.symm ?_
  have hI : I k H := by rw [hk0, hH]; exact h0
  have hle : k * M ≤ xs.length + 8 := by rw [hk0]; omega
  have hpre : ∀ j, j < k → j * M < xs.length := by rw [hk0]; omega
  clear hk0 hH h0
  induction hm : xs.length + 8 - k * M using Nat.strongRecOn generalizing k H with | _ q ih => ?_
  obtain ⟨hc1, hc2⟩ := hc k H hI
  have hsH : ∀ {H : HL}, SlIs B H v 17 xs := hs.any
  apply WL.step
  repeat' (first
    | apply WOps.nil | apply WC.seq | apply WC.reg | apply WC.skip | apply WC.ret | apply WC.exit | (apply WC.condT; rfl) | (apply WC.condF; rfl) | apply WC.block | apply WC.dreg | apply WD.nil | (apply WOps.ldG; rfl; rfl; (first | exact ld0 rfl | exact ld1 rfl | exact ld2 rfl); rfl) | (apply WOps.ldG; rfl; rfl; exact hc1; rfl) | (apply WOps.lenS; rfl; rfl; exact hsH) | (apply WOps.cmp; rfl; rfl; rfl; rfl; intro _ _) | (apply WOps.cmpT; rfl; rfl; rfl; rfl; intro _ _) | (apply WOps.purG; rfl; (intro _; rfl)) | (apply WD.load; rfl; (first | (apply at1; (first | exact rd0 rfl rfl rfl | exact rd1 rfl rfl rfl | exact rd2 rfl rfl rfl); rfl) | (apply at2; (first | exact rd0 rfl rfl rfl | exact rd1 rfl rfl rfl | exact rd2 rfl rfl rfl); repeat' (first | exact same0 | (apply same1; (first | exact rd0 rfl rfl rfl | exact rd1 rfl rfl rfl | exact rd2 rfl rfl rfl); rfl) | (apply same2; (first | exact rd0 rfl rfl rfl | exact rd1 rfl rfl rfl | exact rd2 rfl rfl rfl)))))) | (apply WD.cmp; rfl; rfl; rfl; rfl; intro _ _) | (apply WD.cmpT; rfl; rfl; rfl; rfl; intro _ _) | (apply WD.pur; rfl; (intro _; rfl)) | (apply WC.condA; rfl; all_goals (intro hb; try subst hb)))
  · have hlt : k * M < xs.length := by
      have h0 := ‹true = true ↔ cmpP BinOp.lss _ _›.1 rfl
      simp [cmpP] at h0; omega
    rcases id hs with ⟨_, h1⟩ | ⟨a, rfl, hh⟩
    · rw [h1] at hlt; simp at hlt
    · have hsub := sub_of hh (m := k * M) (k := k * M + min M (xs.length - k * M)) (by omega) (by omega)
      have he : (xs.drop (k * M)).take (k * M + min M (xs.length - k * M) - k * M) = part xs M k := by
        unfold part
        rw [show k * M + min M (xs.length - k * M) - k * M = min M (xs.length - k * M) by omega]
        rcases Nat.le_total M (xs.length - k * M) with h | h
        · rw [Nat.min_eq_left h]
        · rw [Nat.min_eq_right h, List.take_of_length_le (by rw [List.length_drop]; omega), List.take_of_length_le (by rw [List.length_drop]; omega)]
      rw [he] at hsub
      repeat' (first
        | apply WOps.nil | apply WC.seq | apply WC.reg | apply WC.skip | apply WC.ret | apply WC.exit | (apply WC.condT; rfl) | (apply WC.condF; rfl) | apply WC.block | apply WC.dreg | apply WD.nil | (apply WOps.ldG; rfl; rfl; (first | exact ld0 rfl | exact ld1 rfl | exact ld2 rfl); rfl) | (apply WD.load; rfl; (first | (apply at1; exact rd_ld rfl (hc1) rfl; rfl) | (apply at2; exact rd_ld rfl (hc1) rfl; repeat' (first | exact same0 | (apply same1; exact rd_ld rfl (hc1) rfl; rfl) | (apply same2; exact rd_ld rfl (hc1) rfl))))) | (apply WD.load; rfl; (first | (apply at1; exact rd_ld rfl (hc2) rfl; rfl) | (apply at2; exact rd_ld rfl (hc2) rfl; repeat' (first | exact same0 | (apply same1; exact rd_ld rfl (hc2) rfl; rfl) | (apply same2; exact rd_ld rfl (hc2) rfl))))) | (apply WOps.ldG; rfl; rfl; exact hc1; rfl) | (apply WOps.ldG; rfl; rfl; exact hc2; rfl) | (apply WD.slP; rfl; rfl; rfl; rfl; rfl; exact bounds_lo (by omega)) | (apply WD.minN; rfl; rfl; rfl) | (apply WOps.addN; rfl; rfl; rfl; omega) | (apply WOps.slP; rfl; rfl; rfl; rfl; rfl; exact bounds_3 (by omega) (by omega)) | (apply WOps.cyA; rfl; rfl; rfl; exact hy k H hlt hI _ _ hsub; rintro _ H2 ⟨rfl, H3, hI3, hs3⟩) | (apply WOps.cmp; rfl; rfl; rfl; rfl; intro _ _) | (apply WOps.cmpT; rfl; rfl; rfl; rfl; intro _ _) | (apply WOps.purG; rfl; (intro _; rfl)) | (apply WD.load; rfl; (first | (apply at1; (first | exact rd0 rfl rfl rfl | exact rd1 rfl rfl rfl | exact rd2 rfl rfl rfl); rfl) | (apply at2; (first | exact rd0 rfl rfl rfl | exact rd1 rfl rfl rfl | exact rd2 rfl rfl rfl); repeat' (first | exact same0 | (apply same1; (first | exact rd0 rfl rfl rfl | exact rd1 rfl rfl rfl | exact rd2 rfl rfl rfl); rfl) | (apply same2; (first | exact rd0 rfl rfl rfl | exact rd1 rfl rfl rfl | exact rd2 rfl rfl rfl)))))) | (apply WD.cmp; rfl; rfl; rfl; rfl; intro _ _) | (apply WD.cmpT; rfl; rfl; rfl; rfl; intro _ _) | (apply WD.pur; rfl; (intro _; rfl)) | (apply WC.condA; rfl; all_goals (intro hb; try subst hb)))
      obtain ⟨G3, pG⟩ := id hs3
      have hc3 : Ld B H2 ⟨false, c3, 0⟩ 1 [.int .i64 (.ofNat M)] := Ld.perm pG (Ld.left (hc _ _ hI3).2)
      repeat' (first
        | apply WOps.nil | apply WC.seq | apply WC.reg | apply WC.skip | apply WC.ret | apply WC.exit | (apply WC.condT; rfl) | (apply WC.condF; rfl) | apply WC.block | apply WC.dreg | apply WD.nil | (apply WOps.ldG; rfl; rfl; (first | exact ld0 rfl | exact ld1 rfl | exact ld2 rfl); rfl) | (apply WOps.ldG; rfl; rfl; exact hc3; rfl) | (apply WOps.addN; rfl; rfl; rfl; omega) | (apply WOps.cmp; rfl; rfl; rfl; rfl; intro _ _) | (apply WOps.cmpT; rfl; rfl; rfl; rfl; intro _ _) | (apply WOps.purG; rfl; (intro _; rfl)) | (apply WD.load; rfl; (first | (apply at1; (first | exact rd0 rfl rfl rfl | exact rd1 rfl rfl rfl | exact rd2 rfl rfl rfl); rfl) | (apply at2; (first | exact rd0 rfl rfl rfl | exact rd1 rfl rfl rfl | exact rd2 rfl rfl rfl); repeat' (first | exact same0 | (apply same1; (first | exact rd0 rfl rfl rfl | exact rd1 rfl rfl rfl | exact rd2 rfl rfl rfl); rfl) | (apply same2; (first | exact rd0 rfl rfl rfl | exact rd1 rfl rfl rfl | exact rd2 rfl rfl rfl)))))) | (apply WD.cmp; rfl; rfl; rfl; rfl; intro _ _) | (apply WD.cmpT; rfl; rfl; rfl; rfl; intro _ _) | (apply WD.pur; rfl; (intro _; rfl)) | (apply WC.condA; rfl; all_goals (intro hb; try subst hb)))
      refine WL.le (t' := [(0, .fn (.yield l) [] []), (1, .ptr ⟨false, c2, 0⟩), (2, .ptr ⟨false, c3, 0⟩), (4, .int .i64 (.ofNat ((k + 1) * M)))]) (by rw [Nat.succ_mul]; exact Sub1.cons rfl (Sub1.cons rfl (Sub1.cons rfl (Sub1.cons rfl Sub1.nil)))) ?_
      refine WL.lessP hs3 (ih _ ?_ (k + 1) H3 hI3 ?_ ?_ rfl)
      · rw [Nat.succ_mul]; omega
      · rw [Nat.succ_mul]; omega
      · intro j hj
        rcases Nat.lt_or_ge j k with h | h
        · exact hpre j h
        · obtain rfl : j = k := by omega
          exact hlt
  · have hge : xs.length ≤ k * M := by
      have h0 := eq_of_ff ‹false = true ↔ cmpP BinOp.lss _ _›
      simp [cmpP] at h0; omega
    exact ⟨trivial, [], rfl, H, ⟨k, hge, hpre, hI⟩, SubP.refl⟩
/-- A range over the parts: S k is what is so of the rest of the heap ahead of round k. -/
theorem range39 {nt : Nat} {f : AO} {ps : List Nat} {asg body : AC} {c2 c3 M : Nat} {v : AV} {xs : List (List AV)} {t : EL} {H R0 : HL} {Q : AExit → EL → HL → Prop} (hf : gl t f = some (.fn (.func 39) [] [.ptr ⟨false, c2, 0⟩, .ptr ⟨false, c3, 0⟩])) (hs : SlIs B [] v 17 xs) (hn : xs.length ≤ 60) (hM : 1 ≤ M) (hM2 : M ≤ 8) (S : Nat → HL → Prop) (p0 : H.Perm R0) (h0 : S 0 R0)
    (hc : ∀ k R, S k R → Ld B R ⟨false, c2, 0⟩ 1 [v] ∧ Ld B R ⟨false, c3, 0⟩ 1 [.int .i64 (.ofNat M)])
    (hy : ∀ (l k : Nat) (R : HL), k * M < xs.length → S k R → ∀ a m, SlIs B [] (.sl a m 17) 17 (part xs M k) → ∃ t1, setPsL ps [.sl a m 17] nt t = some t1 ∧ ∀ o, WC B tab nt (some l) asg t1 ((l, o) :: R) fun ex t2 H2 => ex = .normal ∧ ∃ R2, Tk H2 l o R2 ∧
      ∀ o2, WC B tab nt (some l) body t2 ((l, o2) :: R2) fun ex3 t3 H3 => ex3 = .normal ∧ ∃ R3 R4, Tk H3 l o2 R3 ∧ S (k + 1) R4 ∧ SubP R4 R3)
    (he : ∀ k R, xs.length ≤ k * M → (∀ j, j < k → j * M < xs.length) → S k R → Q .normal t R) : WC B tab nt none (.rangef f ps asg body) t H Q := by
  refine WC.perm p0 (WC.rangef hf ?_)
  intro l env d le
  refine WF.mono (Q := fun _ H => ∃ k R, (xs.length ≤ k * M ∧ ∀ j, j < k → j * M < xs.length) ∧ S k R ∧ H = (l, .loop .ready none env nt ps asg body d) :: R) ?_ ?_
  · refine WF.lessP ?_
    refine WF.mono (iter39_ok (v := v) (xs := xs) hs hn hM hM2 (fun i H => ∃ R, S i R ∧ H = (l, .loop .ready none env nt ps asg body d) :: R) ⟨R0, h0, rfl⟩ ?_ ?_) ?_
    · rintro i _ ⟨R, hs, rfl⟩
      obtain ⟨h1, h2⟩ := hc i R hs
      exact ⟨h1.cons, h2.cons⟩
    · rintro i _ hi ⟨R, hs, rfl⟩ a m hsl
      obtain ⟨t1, ht1, w⟩ := hy l i R hi hs a m hsl
      refine WF.yield le ht1 ((w _).mono ?_)
      rintro ex t2 H2 ⟨rfl, R2, k2, w2⟩
      refine ⟨rfl, R2, k2, (w2 _).mono ?_⟩
      rintro ex3 t3 H3 ⟨rfl, R3, R4, k3, s4, p4⟩
      refine ⟨R3, k3, rfl, ?_⟩
      exact ⟨_, ⟨R4, s4, rfl⟩, p4.cons⟩
    · rintro _ _ ⟨H3, ⟨k, h1, h2, R, hs, rfl⟩, sb⟩
      exact ⟨_, ⟨k, R, ⟨h1, h2⟩, hs, rfl⟩, sb⟩
  · rintro _ _ ⟨k, R, ⟨h1, h2⟩, hs, rfl⟩
    exact ⟨.ready, none, _, Tk.head, by simp, he k R h1 h2 hs⟩
def clampM (m : Int) : Nat := if m < 1 then 1 else if 8 < m then 8 else m.toNat
theorem clamp_ge (m : Int) : 1 ≤ clampM m := by unfold clampM; split <;> (try split) <;> omega
theorem clamp_le (m : Int) : clampM m ≤ 8 := by unfold clampM; split <;> (try split) <;> omega
theorem clamp_eq (m : Int) : (if Int.ofNat 8 < (if Int.ofNat 1 > m then Int.ofNat 1 else m) then Int.ofNat 8 else (if Int.ofNat 1 > m then Int.ofNat 1 else m)) = Int.ofNat (clampM m) := by
  unfold clampM
  simp only [Int.ofNat_eq_natCast, gt_iff_lt]
  split <;> split <;> (try split) <;> (try split) <;> omega
theorem WOps.clamp {T : Tr FnI} {t : EL} {H : HL} {Q : EL → HL → Prop} {os : List AOper} {k : Nat} {g : Option (Nat × Bool)} {x y : AO} {m : Int} (hg : wantedL g t = some true) (hx : gl t x = some (.int .i64 (if Int.ofNat 1 > m then Int.ofNat 1 else m))) (hy : gl t y = some (.int .i64 (.ofNat 8)))
    (w : WOps B T os ((k, .int .i64 (.ofNat (clampM m))) :: t) H Q) : WOps B T (⟨some k, .mm false x [y], g⟩ :: os) t H Q :=
  WOps.purG hg (fun h => by
    have e := clamp_eq m
    simp only [aopL, gls, hx, hy, aMax, if_true, pure1]
    have e2 : (if Int.ofNat 8 < (if Int.ofNat 1 > m then Int.ofNat 1 else m) then Int.ofNat 8 else (if Int.ofNat 1 > m then Int.ofNat 1 else m)) = Int.ofNat (clampM m) := e
    rw [e2]) w
def g18 : Cx := ⟨.ofNat 18, .ofNat 0, .ofNat 0, .ofNat 0, [], [], [], [], [], [], [], [], false, .ofNat 0, .ofNat 0⟩
/-- What is put for a part. -/
def OutR (B : Nat → List AV) (G : HL) (c : List AV) (p : List (List AV)) : Prop := (∃ x, p = [x] ∧ c = x) ∨ (p.length ≠ 1 ∧ ∃ a m, c = cmC g18 .nilsl (.sl a m 17) ∧ SlIs B G (.sl a m 17) 17 p)
def OutL (B : Nat → List AV) (G : HL) (cs : List (List AV)) (xs : List (List AV)) (M : Nat) : Prop := ∀ j (h : j < cs.length), OutR B G cs[j] (part xs M j)
theorem OutR.right {G G2 : HL} {c : List AV} {p : List (List AV)} (h : OutR B G c p) : OutR B (G2 ++ G) c p := by
  rcases h with h | ⟨h, a, m, h1, h2⟩
  · exact .inl h
  · exact .inr ⟨h, a, m, h1, SlIs.right h2⟩
theorem OutL.snoc {G G2 : HL} {cs xs : List (List AV)} {M : Nat} {c : List AV} (h : OutL B G cs xs M) (hc : OutR B (G2 ++ G) c (part xs M cs.length)) : OutL B (G2 ++ G) (cs ++ [c]) xs M := by
  intro j hj
  rw [List.length_append, List.length_singleton] at hj
  rcases Nat.lt_or_ge j cs.length with h1 | h1
  · rw [List.getElem_append_left h1]; exact (h j h1).right
  · obtain rfl : j = cs.length := by omega
    rw [List.getElem_append_right (Nat.le_refl _)]
    simpa using hc
theorem part_len {xs : List (List AV)} {M k : Nat} : (part xs M k).length ≤ M := by unfold part; rw [List.length_take]; omega
theorem part_mem {xs : List (List AV)} {M k : Nat} {c : List AV} (h : c ∈ part xs M k) : c ∈ xs := List.mem_of_mem_drop (List.mem_of_mem_take h)
theorem fit_snoc {cs : List (List AV)} {c : List AV} (h : Fit cs) (h1 : c.length = 17) (h2 : allCell c = true) : Fit (cs ++ [c]) := by
  intro d hd
  rcases List.mem_append.1 hd with hd | hd
  · exact h d hd
  · simp at hd; subst hd; exact ⟨h1, h2⟩
theorem put_last {cs : List (List AV)} {z c : List AV} (hf : Fit cs) (hz : z.length = 17) (hc : c.length = 17) : putN (cs.flatten ++ z) (0 + cs.length * 17) c = some (cs.flatten ++ c) := by
  have hl := fit_len hf
  unfold putN
  rw [putAt_of (by rw [List.length_append]; omega)]
  simp only [forceL_eq]
  rw [Nat.zero_add, ← hl, List.take_left, List.drop_append, List.drop_eq_nil_of_le (by omega), List.drop_eq_nil_of_le (by omega)]
  simp
theorem own_pos {v : AV} {cells : List AV} {n esz : Nat} {h : HL} (o : OwnSl v cells n esz h) (hn : 0 < n) : ∃ id, v = .sl ⟨false, id, 0⟩ n esz ∧ h = [(id, .row cells)] ∧ cells.length = n * esz := by
  rcases o with ⟨_, h0, _⟩ | h
  · omega
  · exact h
set_option maxHeartbeats 4000000 in
theorem batches12_ok {H0 : HL} {v : AV} {xs : List (List AV)} {most : Int} (hs : SlIs B [] v 17 xs) (hn : xs.length ≤ 60) (hf : Fit xs) :
    WF B tab (.func 12) [v, .int .i64 most] H0 fun r H' => ∃ hw G cs, OwnSl r cs.flatten cs.length 17 hw ∧ Fit cs ∧ OutL B G cs xs (clampM most) ∧ xs.length ≤ cs.length * clampM most ∧ (∀ j, j < cs.length → j * clampM most < xs.length) ∧ H' = hw ++ (G ++ H0) := by
  refine WF.lessP ?_
  refine WF.fn g12 rfl ?_
  have hM1 := clamp_ge most
  have hM2 := clamp_le most
  have hcell := hs.cell
  repeat' (first
    | apply WOps.nil | apply WC.seq | apply WC.reg | apply WC.skip | apply WC.ret | apply WC.exit | (apply WC.condT; rfl) | (apply WC.condF; rfl) | apply WC.block | apply WC.dreg2 | apply WC.dreg | apply WD.nil | (apply WOps.ldG; rfl; rfl; (first | exact ld0 rfl | exact ld1 rfl | exact ld2 rfl); rfl) | (apply WOps.alc; rfl; intro _) | (apply WOps.bsl; rfl; (first | rfl | ((repeat' (first | exact ac0 | apply ac1)) <;> (first | rfl | assumption))); intro _) | (apply WD.alc; rfl; rfl; intro _) | (apply WD.bsl; rfl; rfl; (first | rfl | ((repeat' (first | exact ac0 | apply ac1)) <;> (first | rfl | assumption))); intro _) | (apply WOps.clamp; rfl; rfl; rfl) | (apply WOps.clA; rfl; rfl; exact chunk24_ok hs hM1; rintro _ _ ⟨c2, c3, rfl, rfl⟩) | (apply WOps.cmp; rfl; rfl; rfl; rfl; intro _ _) | (apply WOps.cmpT; rfl; rfl; rfl; rfl; intro _ _) | (apply WOps.purG; rfl; (intro _; rfl)) | (apply WD.load; rfl; (first | (apply at1; (first | exact rd0 rfl rfl rfl | exact rd1 rfl rfl rfl | exact rd2 rfl rfl rfl); rfl) | (apply at2; (first | exact rd0 rfl rfl rfl | exact rd1 rfl rfl rfl | exact rd2 rfl rfl rfl); repeat' (first | exact same0 | (apply same1; (first | exact rd0 rfl rfl rfl | exact rd1 rfl rfl rfl | exact rd2 rfl rfl rfl); rfl) | (apply same2; (first | exact rd0 rfl rfl rfl | exact rd1 rfl rfl rfl | exact rd2 rfl rfl rfl)))))) | (apply WD.cmp; rfl; rfl; rfl; rfl; intro _ _) | (apply WD.cmpT; rfl; rfl; rfl; rfl; intro _ _) | (apply WD.pur; rfl; (intro _; rfl)) | (apply WC.condA; rfl; all_goals (intro hb; try subst hb)))
  rename_i p5
  generalize clampM most = M at *
  refine range39 (v := v) (xs := xs) (M := M) (R0 := (p5, .row [.nilsl]) :: (c3, .row [.int .i64 (.ofNat M)]) :: (c2, .row [v]) :: ([] ++ ([] ++ H0))) rfl hs hn hM1 hM2 (fun k R => ∃ (w5 : AV) (hw G : HL) (cs : List (List AV)), OwnSl w5 cs.flatten cs.length 17 hw ∧ cs.length = k ∧ Fit cs ∧ OutL B G cs xs M ∧ R = (p5, .row [w5]) :: (c3, .row [.int .i64 (.ofNat M)]) :: (c2, .row [v]) :: (hw ++ (G ++ H0))) ?_ ⟨_, [], [], [], .inl ⟨rfl, rfl, rfl, rfl⟩, rfl, (by intro c hc; cases hc), (by intro j hj; exact absurd hj (Nat.not_lt_zero _)), rfl⟩ ?_ ?_ ?_
  · exact permF (by intro f; simp only [AV.cells, List.append_eq, List.map_cons, List.map_nil, List.sum_nil, List.map_append, List.sum_cons, List.sum_append, List.cons_append, List.nil_append, List.append_assoc, List.append_nil]; omega)
  · rintro i _ ⟨w5, hw, G, cs, o5, hcl, hfc, hout, rfl⟩
    exact ⟨Ld.own (Tk.tail (Tk.tail Tk.head)) rfl, Ld.own (Tk.tail Tk.head) rfl⟩
  · rintro l k _ hk ⟨w5, hw, G, cs, o5, rfl, hfc, hout, rfl⟩ a m hsl
    refine ⟨_, rfl, ?_⟩
    intro o
    repeat' (first
      | apply WOps.nil | apply WC.seq | apply WC.reg | apply WC.skip | apply WC.ret | apply WC.exit | (apply WC.condT; rfl) | (apply WC.condF; rfl) | apply WC.block | apply WC.dreg2 | apply WC.dreg | apply WD.nil | (apply WOps.ldG; rfl; rfl; (first | exact ld0 rfl | exact ld1 rfl | exact ld2 rfl); rfl) | (apply WOps.alc; rfl; intro _) | (apply WOps.bsl; rfl; (first | rfl | ((repeat' (first | exact ac0 | apply ac1)) <;> (first | rfl | assumption))); intro _) | (apply WD.alc; rfl; rfl; intro _) | (apply WD.bsl; rfl; rfl; (first | rfl | ((repeat' (first | exact ac0 | apply ac1)) <;> (first | rfl | assumption))); intro _) | (apply WOps.cmp; rfl; rfl; rfl; rfl; intro _ _) | (apply WOps.cmpT; rfl; rfl; rfl; rfl; intro _ _) | (apply WOps.purG; rfl; (intro _; rfl)) | (apply WD.load; rfl; (first | (apply at1; (first | exact rd0 rfl rfl rfl | exact rd1 rfl rfl rfl | exact rd2 rfl rfl rfl); rfl) | (apply at2; (first | exact rd0 rfl rfl rfl | exact rd1 rfl rfl rfl | exact rd2 rfl rfl rfl); repeat' (first | exact same0 | (apply same1; (first | exact rd0 rfl rfl rfl | exact rd1 rfl rfl rfl | exact rd2 rfl rfl rfl); rfl) | (apply same2; (first | exact rd0 rfl rfl rfl | exact rd1 rfl rfl rfl | exact rd2 rfl rfl rfl)))))) | (apply WD.cmp; rfl; rfl; rfl; rfl; intro _ _) | (apply WD.cmpT; rfl; rfl; rfl; rfl; intro _ _) | (apply WD.pur; rfl; (intro _; rfl)) | (apply WC.condA; rfl; all_goals (intro hb; try subst hb)))
    refine ⟨rfl, _, Tk.head, ?_⟩
    intro o2
    obtain ⟨rfl, _⟩ := sl_len hsl
    have hck : cs.length ≤ 60 := by
      have : cs.length * 1 ≤ cs.length * M := Nat.mul_le_mul_left _ hM1
      omega
    repeat' (first
      | apply WOps.nil | apply WC.seq | apply WC.reg | apply WC.skip | apply WC.ret | apply WC.exit | (apply WC.condT; rfl) | (apply WC.condF; rfl) | apply WC.block | apply WC.dreg2 | apply WC.dreg | apply WD.nil | (apply WOps.ldG; rfl; rfl; (first | exact ld0 rfl | exact ld1 rfl | exact ld2 rfl); rfl) | (apply WOps.alc; rfl; intro _) | (apply WOps.bsl; rfl; (first | rfl | ((repeat' (first | exact ac0 | apply ac1)) <;> (first | rfl | assumption))); intro _) | (apply WD.alc; rfl; rfl; intro _) | (apply WD.bsl; rfl; rfl; (first | rfl | ((repeat' (first | exact ac0 | apply ac1)) <;> (first | rfl | assumption))); intro _) | (apply WD.lenO; rfl; rfl; exact o5) | (apply WOps.cmp; rfl; rfl; rfl; rfl; intro _ _) | (apply WOps.cmpT; rfl; rfl; rfl; rfl; intro _ _) | (apply WOps.purG; rfl; (intro _; rfl)) | (apply WD.load; rfl; (first | (apply at1; (first | exact rd0 rfl rfl rfl | exact rd1 rfl rfl rfl | exact rd2 rfl rfl rfl); rfl) | (apply at2; (first | exact rd0 rfl rfl rfl | exact rd1 rfl rfl rfl | exact rd2 rfl rfl rfl); repeat' (first | exact same0 | (apply same1; (first | exact rd0 rfl rfl rfl | exact rd1 rfl rfl rfl | exact rd2 rfl rfl rfl); rfl) | (apply same2; (first | exact rd0 rfl rfl rfl | exact rd1 rfl rfl rfl | exact rd2 rfl rfl rfl)))))) | (apply WD.cmp; rfl; rfl; rfl; rfl; intro _ _) | (apply WD.cmpT; rfl; rfl; rfl; rfl; intro _ _) | (apply WD.pur; rfl; (intro _; rfl)) | (apply WC.condA; rfl; all_goals (intro hb; try subst hb)))
    · have hp1 : (part xs M cs.length).length = 1 := by
        have h0 := ‹true = true ↔ cmpP BinOp.eql _ _›.1 rfl
        simp [cmpP] at h0; omega
      obtain ⟨x, hx⟩ := List.length_eq_one_iff.1 hp1
      have hx0 : (part xs M cs.length)[0]? = some x := by rw [hx]; rfl
      obtain ⟨fx1, fx2⟩ := hf x (part_mem (by rw [hx]; simp))
      repeat' (first
        | apply WOps.nil | apply WC.seq | apply WC.reg | apply WC.skip | apply WC.ret | apply WC.exit | (apply WC.condT; rfl) | (apply WC.condF; rfl) | apply WC.block | apply WC.dreg2 | apply WC.dreg | apply WD.nil | (apply WOps.ldG; rfl; rfl; (first | exact ld0 rfl | exact ld1 rfl | exact ld2 rfl); rfl) | (apply WOps.alc; rfl; intro _) | (apply WOps.bsl; rfl; (first | rfl | ((repeat' (first | exact ac0 | apply ac1)) <;> (first | rfl | assumption))); intro _) | (apply WD.alc; rfl; rfl; intro _) | (apply WD.bsl; rfl; rfl; (first | rfl | ((repeat' (first | exact ac0 | apply ac1)) <;> (first | rfl | assumption))); intro _) | (apply WD.ixSl; rfl; rfl; rfl; exact hsl.any; exact hx0; intro a1 l1) | (apply WD.load; rfl; (first | (apply at1; exact rd_ld rfl (l1 _ hsl.any) rfl; rfl) | (apply at2; exact rd_ld rfl (l1 _ hsl.any) rfl; repeat' (first | exact same0 | (apply same1; exact rd_ld rfl (l1 _ hsl.any) rfl; rfl) | (apply same2; exact rd_ld rfl (l1 _ hsl.any) rfl))))) | (apply WD.lenO; rfl; rfl; exact o5) | (apply WOps.cmp; rfl; rfl; rfl; rfl; intro _ _) | (apply WOps.cmpT; rfl; rfl; rfl; rfl; intro _ _) | (apply WOps.purG; rfl; (intro _; rfl)) | (apply WD.load; rfl; (first | (apply at1; (first | exact rd0 rfl rfl rfl | exact rd1 rfl rfl rfl | exact rd2 rfl rfl rfl); rfl) | (apply at2; (first | exact rd0 rfl rfl rfl | exact rd1 rfl rfl rfl | exact rd2 rfl rfl rfl); repeat' (first | exact same0 | (apply same1; (first | exact rd0 rfl rfl rfl | exact rd1 rfl rfl rfl | exact rd2 rfl rfl rfl); rfl) | (apply same2; (first | exact rd0 rfl rfl rfl | exact rd1 rfl rfl rfl | exact rd2 rfl rfl rfl)))))) | (apply WD.cmp; rfl; rfl; rfl; rfl; intro _ _) | (apply WD.cmpT; rfl; rfl; rfl; rfl; intro _ _) | (apply WD.pur; rfl; (intro _; rfl)) | (apply WC.condA; rfl; all_goals (intro hb; try subst hb)))
      rename_i q
      refine WD.app (n := cs.length) rfl rfl rfl o5 (List.perm_append_comm_assoc [_, _, _, _, _] hw (G ++ H0)) (src_one Tk.head rfl) (fit_cell hfc) rfl rfl (by omega) ?_
      intro v2 h2 o2
      rcases o2 with ⟨_, h0, _⟩ | ⟨id2, rfl, rfl, hlen⟩
      · omega
      apply WD.nil
      refine WOps.ixO rfl rfl rfl (by omega) ?_
      refine WOps.st (cs' := cs.flatten ++ x) rfl rfl Tk.head fx1 fx2 (put_last hfc rfl fx1) ?_
      refine WOps.st (cs' := [.sl ⟨false, id2, 0⟩ (cs.length + 1) 17]) rfl rfl (Tk.tail (Tk.tail (Tk.tail Tk.head))) rfl rfl rfl ?_
      apply WOps.nil
      refine ⟨⟨⟨false, id2, 0 + cs.length * 17⟩, ⟨false, p5, 0⟩, _, _, _, rfl, rfl, List.Perm.swap _ _ _⟩, ?_⟩
      repeat' (first
        | apply WOps.nil | apply WC.seq | apply WC.reg | apply WC.skip | apply WC.ret | apply WC.exit | (apply WC.condT; rfl) | (apply WC.condF; rfl) | apply WC.block | apply WC.dreg2 | apply WC.dreg | apply WD.nil | (apply WOps.ldG; rfl; rfl; (first | exact ld0 rfl | exact ld1 rfl | exact ld2 rfl); rfl) | (apply WOps.alc; rfl; intro _) | (apply WOps.bsl; rfl; (first | rfl | ((repeat' (first | exact ac0 | apply ac1)) <;> (first | rfl | assumption))); intro _) | (apply WD.alc; rfl; rfl; intro _) | (apply WD.bsl; rfl; rfl; (first | rfl | ((repeat' (first | exact ac0 | apply ac1)) <;> (first | rfl | assumption))); intro _) | (apply WOps.cmp; rfl; rfl; rfl; rfl; intro _ _) | (apply WOps.cmpT; rfl; rfl; rfl; rfl; intro _ _) | (apply WOps.purG; rfl; (intro _; rfl)) | (apply WD.load; rfl; (first | (apply at1; (first | exact rd0 rfl rfl rfl | exact rd1 rfl rfl rfl | exact rd2 rfl rfl rfl); rfl) | (apply at2; (first | exact rd0 rfl rfl rfl | exact rd1 rfl rfl rfl | exact rd2 rfl rfl rfl); repeat' (first | exact same0 | (apply same1; (first | exact rd0 rfl rfl rfl | exact rd1 rfl rfl rfl | exact rd2 rfl rfl rfl); rfl) | (apply same2; (first | exact rd0 rfl rfl rfl | exact rd1 rfl rfl rfl | exact rd2 rfl rfl rfl)))))) | (apply WD.cmp; rfl; rfl; rfl; rfl; intro _ _) | (apply WD.cmpT; rfl; rfl; rfl; rfl; intro _ _) | (apply WD.pur; rfl; (intro _; rfl)) | (apply WC.condA; rfl; all_goals (intro hb; try subst hb)))
      have o6 : OwnSl (.sl ⟨false, id2, 0⟩ (cs.length + 1) 17) (cs ++ [x]).flatten (cs ++ [x]).length 17 [(id2, .row (cs.flatten ++ x))] := .inr ⟨id2, by simp, by simp, by simp [fx1, fit_len hfc]; omega⟩
      refine ⟨rfl, _, _, Tk.tail (Tk.tail (Tk.tail Tk.head)), ⟨_, _, [] ++ G, cs ++ [x], o6, by simp, fit_snoc hfc fx1 fx2, OutL.snoc hout (.inl ⟨x, hx, rfl⟩), rfl⟩, subF (by intro f; simp only [AV.cells, List.append_eq, List.map_cons, List.map_nil, List.sum_nil, List.map_append, List.sum_cons, List.sum_append, List.cons_append, List.nil_append, List.append_assoc, List.append_nil]; omega)⟩
    · have hp1 : (part xs M cs.length).length ≠ 1 := by
        intro e
        have h0 := eq_of_ff ‹false = true ↔ cmpP BinOp.eql _ _›
        simp [cmpP, e] at h0
      have hpp : 0 < (part xs M cs.length).length := by unfold part; rw [List.length_take, List.length_drop]; omega
      have hfp : Fit (part xs M cs.length) := fun c hc => hf c (part_mem hc)
      have hpl := part_len (xs := xs) (M := M) (k := cs.length)
      repeat' (first
        | apply WOps.nil | apply WC.seq | apply WC.reg | apply WC.skip | apply WC.ret | apply WC.exit | (apply WC.condT; rfl) | (apply WC.condF; rfl) | apply WC.block | apply WC.dreg2 | apply WC.dreg | apply WD.nil | (apply WOps.ldG; rfl; rfl; (first | exact ld0 rfl | exact ld1 rfl | exact ld2 rfl); rfl) | (apply WOps.alc; rfl; intro _) | (apply WOps.bsl; rfl; (first | rfl | ((repeat' (first | exact ac0 | apply ac1)) <;> (first | rfl | assumption))); intro _) | (apply WD.alc; rfl; rfl; intro _) | (apply WD.bsl; rfl; rfl; (first | rfl | ((repeat' (first | exact ac0 | apply ac1)) <;> (first | rfl | assumption))); intro _) | (apply WD.clA; rfl; rfl; exact clone25_ok hsl hfp (by omega); rintro _ _ ⟨hc, oc, rfl⟩; obtain ⟨idc, rfl, rfl, hlc⟩ := own_pos oc hpp) | (apply WD.load; rfl; (first | (apply at1; exact rd_ld rfl ((by first | exact ld2 rfl | exact ld1 rfl)) rfl; rfl) | (apply at2; exact rd_ld rfl ((by first | exact ld2 rfl | exact ld1 rfl)) rfl; repeat' (first | exact same0 | (apply same1; exact rd_ld rfl ((by first | exact ld2 rfl | exact ld1 rfl)) rfl; rfl) | (apply same2; exact rd_ld rfl ((by first | exact ld2 rfl | exact ld1 rfl)) rfl))))) | (apply WD.lenO; rfl; rfl; exact o5) | (apply WOps.cmp; rfl; rfl; rfl; rfl; intro _ _) | (apply WOps.cmpT; rfl; rfl; rfl; rfl; intro _ _) | (apply WOps.purG; rfl; (intro _; rfl)) | (apply WD.load; rfl; (first | (apply at1; (first | exact rd0 rfl rfl rfl | exact rd1 rfl rfl rfl | exact rd2 rfl rfl rfl); rfl) | (apply at2; (first | exact rd0 rfl rfl rfl | exact rd1 rfl rfl rfl | exact rd2 rfl rfl rfl); repeat' (first | exact same0 | (apply same1; (first | exact rd0 rfl rfl rfl | exact rd1 rfl rfl rfl | exact rd2 rfl rfl rfl); rfl) | (apply same2; (first | exact rd0 rfl rfl rfl | exact rd1 rfl rfl rfl | exact rd2 rfl rfl rfl)))))) | (apply WD.cmp; rfl; rfl; rfl; rfl; intro _ _) | (apply WD.cmpT; rfl; rfl; rfl; rfl; intro _ _) | (apply WD.pur; rfl; (intro _; rfl)) | (apply WC.condA; rfl; all_goals (intro hb; try subst hb)))
      rename_i q
      refine WD.app (n := cs.length) rfl rfl rfl o5 (List.perm_append_comm_assoc [_, _, _, _, _, _] hw (G ++ H0)) (src_one Tk.head rfl) (fit_cell hfc) rfl rfl (by omega) ?_
      intro v2 h2 o2
      rcases o2 with ⟨_, h0, _⟩ | ⟨id2, rfl, rfl, hlen⟩
      · omega
      apply WD.nil
      refine WOps.ixO rfl rfl rfl (by omega) ?_
      refine WOps.st (v := .agg (cmC g18 .nilsl (.sl ⟨false, idc, 0⟩ (part xs M cs.length).length 17))) (cs' := cs.flatten ++ cmC g18 .nilsl (.sl ⟨false, idc, 0⟩ (part xs M cs.length).length 17)) rfl rfl Tk.head rfl rfl (put_last hfc rfl rfl) ?_
      refine WOps.st (cs' := [.sl ⟨false, id2, 0⟩ (cs.length + 1) 17]) rfl rfl (Tk.tail (Tk.tail (Tk.tail (Tk.tail Tk.head)))) rfl rfl rfl ?_
      apply WOps.nil
      refine ⟨⟨⟨false, id2, 0 + cs.length * 17⟩, ⟨false, p5, 0⟩, _, _, _, rfl, rfl, List.Perm.swap _ _ _⟩, ?_⟩
      have o6 : OwnSl (.sl ⟨false, id2, 0⟩ (cs.length + 1) 17) (cs ++ [cmC g18 .nilsl (.sl ⟨false, idc, 0⟩ (part xs M cs.length).length 17)]).flatten (cs ++ [cmC g18 .nilsl (.sl ⟨false, idc, 0⟩ (part xs M cs.length).length 17)]).length 17 [(id2, .row (cs.flatten ++ cmC g18 .nilsl (.sl ⟨false, idc, 0⟩ (part xs M cs.length).length 17)))] := .inr ⟨id2, by simp, by simp, by simp [fit_len hfc]; simp [cmC]; omega⟩
      have hcl : SlIs B ([(idc, .row (part xs M cs.length).flatten)] ++ G) (.sl ⟨false, idc, 0⟩ (part xs M cs.length).length 17) 17 (part xs M cs.length) := SlIs.left (OwnSl.sl oc (fun c h => (hfp c h).1))
      refine ⟨rfl, _, _, Tk.tail (Tk.tail (Tk.tail (Tk.tail Tk.head))), ⟨_, _, [(idc, .row (part xs M cs.length).flatten)] ++ G, cs ++ [_], o6, by simp, fit_snoc hfc rfl rfl, OutL.snoc hout (.inr ⟨hp1, _, _, rfl, hcl⟩), rfl⟩, subF (by intro f; simp only [AV.cells, List.append_eq, List.map_cons, List.map_nil, List.sum_nil, List.map_append, List.sum_cons, List.sum_append, List.cons_append, List.nil_append, List.append_assoc, List.append_nil]; omega)⟩
  · rintro k _ h1 h2 ⟨w5, hw, G, cs, o5, rfl, hfc, hout, rfl⟩
    repeat' (first
      | apply WOps.nil | apply WC.seq | apply WC.reg | apply WC.skip | apply WC.ret | apply WC.exit | (apply WC.condT; rfl) | (apply WC.condF; rfl) | apply WC.block | apply WC.dreg2 | apply WC.dreg | apply WD.nil | (apply WOps.ldG; rfl; rfl; (first | exact ld0 rfl | exact ld1 rfl | exact ld2 rfl); rfl) | (apply WOps.alc; rfl; intro _) | (apply WOps.bsl; rfl; (first | rfl | ((repeat' (first | exact ac0 | apply ac1)) <;> (first | rfl | assumption))); intro _) | (apply WD.alc; rfl; rfl; intro _) | (apply WD.bsl; rfl; rfl; (first | rfl | ((repeat' (first | exact ac0 | apply ac1)) <;> (first | rfl | assumption))); intro _) | (apply WOps.cmp; rfl; rfl; rfl; rfl; intro _ _) | (apply WOps.cmpT; rfl; rfl; rfl; rfl; intro _ _) | (apply WOps.purG; rfl; (intro _; rfl)) | (apply WD.load; rfl; (first | (apply at1; (first | exact rd0 rfl rfl rfl | exact rd1 rfl rfl rfl | exact rd2 rfl rfl rfl); rfl) | (apply at2; (first | exact rd0 rfl rfl rfl | exact rd1 rfl rfl rfl | exact rd2 rfl rfl rfl); repeat' (first | exact same0 | (apply same1; (first | exact rd0 rfl rfl rfl | exact rd1 rfl rfl rfl | exact rd2 rfl rfl rfl); rfl) | (apply same2; (first | exact rd0 rfl rfl rfl | exact rd1 rfl rfl rfl | exact rd2 rfl rfl rfl)))))) | (apply WD.cmp; rfl; rfl; rfl; rfl; intro _ _) | (apply WD.cmpT; rfl; rfl; rfl; rfl; intro _ _) | (apply WD.pur; rfl; (intro _; rfl)) | (apply WC.condA; rfl; all_goals (intro hb; try subst hb)))
    exact ⟨trivial, [_], ⟨_, [], rfl, rfl, rfl⟩, _, ⟨hw, G, cs, o5, hfc, hout, h1, h2, rfl⟩, subF (by intro f; simp only [AV.cells, List.append_eq, List.map_cons, List.map_nil, List.sum_nil, List.map_append, List.sum_cons, List.sum_append, List.cons_append, List.nil_append, List.append_assoc, List.append_nil]; omega)⟩
end Go.Proofs.Ytfahfccbiolheaa.DB
