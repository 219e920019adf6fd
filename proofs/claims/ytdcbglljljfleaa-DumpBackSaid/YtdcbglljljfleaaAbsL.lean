/- A logic over the evaluator: what a piece of code does to what is known of the temporaries and of the heap. -/
import Derived.Test.YtdcbglljljfleaaAbsR
set_option linter.unusedSimpArgs false
set_option linter.unusedVariables false
set_option linter.unusedSectionVars false
set_option linter.constructorNameAsVariable false
namespace Go.Proofs.Ytdcbglljljfleaa.Abs
def Ev (p : Nat → Prop) : Prop := ∃ n0, ∀ n, n0 ≤ n → p n
theorem Ev.of {p : Nat → Prop} (h : ∀ n, p n) : Ev p := ⟨0, fun n _ => h n⟩
theorem Ev.mono {p q : Nat → Prop} (h : Ev p) (k : ∀ n, p n → q n) : Ev q := by
 obtain ⟨n0, h⟩ := h
 exact ⟨n0, fun n hn => k n (h n hn)⟩
theorem Ev.and {p q : Nat → Prop} (h : Ev p) (k : Ev q) : Ev fun n => p n ∧ q n := by
 obtain ⟨a, h⟩ := h; obtain ⟨b, k⟩ := k
 exact ⟨max a b, fun n hn => ⟨h n (by omega), k n (by omega)⟩⟩
theorem Ev.succ {p : Nat → Prop} (h : Ev fun n => p (n + 1)) : Ev p := by
 obtain ⟨a, h⟩ := h
 refine ⟨a + 1, fun n hn => ?_⟩
 obtain ⟨m, rfl⟩ : ∃ m, n = m + 1 := ⟨n - 1, by omega⟩
 exact h m (by omega)
def Ev2 (p : Nat → Nat → Prop) : Prop := ∃ n0, ∀ n L, n0 ≤ n → n0 ≤ L → p n L
theorem Ev2.of {p : Nat → Nat → Prop} (h : ∀ n L, p n L) : Ev2 p := ⟨0, fun n L _ _ => h n L⟩
theorem Ev2.of1 {p : Nat → Nat → Prop} (h : Ev fun n => ∀ L, p n L) : Ev2 p := by
 obtain ⟨a, h⟩ := h
 exact ⟨a, fun n L hn _ => h n hn L⟩
theorem Ev2.mono {p q : Nat → Nat → Prop} (h : Ev2 p) (k : ∀ n L, p n L → q n L) : Ev2 q := by
 obtain ⟨n0, h⟩ := h
 exact ⟨n0, fun n L hn hL => k n L (h n L hn hL)⟩
theorem Ev2.and {p q : Nat → Nat → Prop} (h : Ev2 p) (k : Ev2 q) : Ev2 fun n L => p n L ∧ q n L := by
 obtain ⟨a, h⟩ := h; obtain ⟨b, k⟩ := k
 exact ⟨max a b, fun n L hn hL => ⟨h n L (by omega) (by omega), k n L (by omega) (by omega)⟩⟩
theorem Ev2.diag {p : Nat → Nat → Prop} (h : Ev2 p) : Ev fun n => p n n := by
 obtain ⟨a, h⟩ := h
 exact ⟨a, fun n hn => h n n hn hn⟩
/-! ### What is known of the temporaries -/
abbrev EL := List (Nat × AV)
def look : EL → Nat → Option AV
 | [], _ => none
 | (k, v) :: r, n => match Nat.beq k n with
  | true => some v
  | false => look r n
def Le (l : EL) (env : Tr AV) : Prop := ∀ k v, look l k = some v → env.get k = some v
theorem Le.set {l : EL} {env : Tr AV} (h : Le l env) (k : Nat) (v : AV) : Le ((k, v) :: l) (env.set k v) := by
 intro j u hj
 simp only [look] at hj
 rw [Tr.get_set]
 cases hb : Nat.beq k j with
 | true => simp only [hb] at hj; rw [if_pos (Nat.eq_of_beq_eq_true hb).symm]; exact hj
 | false => simp only [hb] at hj; rw [if_neg (fun e => beq_f hb e.symm)]; exact h j u hj
def setL (l : EL) (d : Option Nat) (v : AV) : EL :=
 match d with
 | some k => (k, v) :: l
 | none => l
theorem Le.setD {l : EL} {env : Tr AV} (h : Le l env) (d : Option Nat) (v : AV) : Le (setL l d v) (setD env d v) := by
 cases d with
 | none => exact h
 | some d => exact h.set d v
def Sub1 (l' l : EL) : Prop := ∀ k v, look l' k = some v → look l k = some v
theorem Sub1.nil {l : EL} : Sub1 [] l := fun _ _ h => by cases h
theorem Sub1.cons {l' l : EL} {k : Nat} {v : AV} (h : look l k = some v) (r : Sub1 l' l) : Sub1 ((k, v) :: l') l := by
 intro j u hj
 simp only [look] at hj
 cases hb : Nat.beq k j with
 | true => simp only [hb] at hj; cases hj; rw [← Nat.eq_of_beq_eq_true hb]; exact h
 | false => simp only [hb] at hj; exact r j u hj
theorem Sub1.le {l' l : EL} {env : Tr AV} (s : Sub1 l' l) (h : Le l env) : Le l' env := fun k v e => h k v (s k v e)
def gl (l : EL) : AO → Option AV
 | .t n => look l n
 | .c v => some v
def gls (l : EL) : List AO → Option (List AV)
 | [] => some []
 | x :: r => match gl l x with
  | none => none
  | some v => match gls l r with
   | none => none
   | some vs => some (v :: vs)
def glo (l : EL) : Option AO → Option (Option AV)
 | none => some none
 | some x => match gl l x with
  | none => none
  | some v => some (some v)
def fillL (l : EL) (cs : List AV) : List (Nat × Nat × AO) → Option (List AV)
 | [] => some cs
 | (off, n, x) :: r => match gl l x with
  | none => none
  | some v => match Nat.beq v.cells.length n with
   | false => none
   | true => match putAt cs off v.cells with
    | none => none
    | some cs' => fillL l cs' r
def wantedL (g : Option (Nat × Bool)) (l : EL) : Option Bool :=
 match g with
 | none => some true
 | some (t, want) => match look l t with
  | some (.bool b) => some (b == want)
  | some (.tup []) => some false
  | _ => none
def aopL (B : Nat → List AV) (op : AOp) (l : EL) (h : AH) : VO :=
 match op with
 | .mov x => pure1 h (gl l x)
 | .pick c a b => match gl l c with
  | some (.bool true) => pure1 h (gl l a)
  | some (.bool false) => pure1 h (gl l b)
  | _ => .bad
 | .alloc z => newRow h z fun id => .ptr ⟨false, id, 0⟩
 | .box x => match gl l x with
  | some v => newRow h v.cells fun id => .ptr ⟨false, id, 0⟩
  | none => .bad
 | .build z ps => match fillL l z ps with
  | some cs => forceL cs fun cs => .val (.agg cs) h
  | none => .bad
 | .buildSl esz len z ps => match fillL l z ps with
  | some cs => newRow h cs fun id => .sl ⟨false, id, 0⟩ len esz
  | none => .bad
 | .load agg n x => match gl l x with
  | some v => pure1 h (ldVar B agg n v h)
  | none => .bad
 | .store n a v => match gl l a with
  | some p => match gl l v with
   | some v => aStore n p v h
   | none => .bad
  | none => .bad
 | .nilchk x => match gl l x with
  | some (.ptr a) => .val (.ptr a) h
  | some (.fn f a b) => .val (.fn f a b) h
  | _ => .bad
 | .bin op x y => match gl l x with
  | some a => match gl l y with
   | some b => pure1 h (aBin op a b)
   | none => .bad
  | none => .bad
 | .eq neg p x y => match gl l x with
  | some a => match gl l y with
   | some b => match aEq p a b with
    | some r => match neg with
     | true => .val (.bool !r) h
     | false => .val (.bool r) h
    | none => .bad
   | none => .bad
  | none => .bad
 | .un op x => match gl l x with
  | some a => pure1 h (aUn op a)
  | none => .bad
 | .cvInt k x => match gl l x with
  | some (.int _ n) => .val (.int k (k.wrap n)) h
  | _ => .bad
 | .cvStr x => match gl l x with
  | some .nilsl => .val (.str []) h
  | some (.sl a len e) => match Nat.beq e 1 with
   | false => .bad
   | true => match len with
    | 0 => .val (.str []) h
    | len + 1 => match ldCells B h a (len + 1) with
     | some cs => match bytesOf cs with
      | some s => .val (.str s) h
      | none => .bad
     | none => .bad
  | _ => .bad
 | .cvBytes x => match gl l x with
  | some (.str s) => newRow h (cellsOfStr s) fun id => .sl ⟨false, id, 0⟩ s.length 1
  | _ => .bad
 | .field agg off n x => match gl l x with
  | some (.agg cs) => pure1 h (partOf agg off n cs)
  | _ => .bad
 | .faddr off x => match gl l x with
  | some (.ptr a) => .val (.ptr ⟨a.ro, a.id, a.off + off⟩) h
  | _ => .bad
 | .idxV len esz agg x i => match gl l x with
  | some (.agg cs) => match gl l i with
   | some i => match asIdx i len with
    | some m => pure1 h (partOf agg (m * esz) esz cs)
    | none => .bad
   | none => .bad
  | _ => .bad
 | .idxStr x i => match gl l x with
  | some (.str s) => match gl l i with
   | some i => match asIdx i s.length with
    | some m => match s[m]? with
     | some b => .val (.int .u8 (.ofNat b)) h
     | none => .bad
    | none => .bad
   | none => .bad
  | _ => .bad
 | .idxA len esz x i => match gl l x with
  | some (.ptr a) => match gl l i with
   | some i => match asIdx i len with
    | some m => .val (.ptr ⟨a.ro, a.id, a.off + m * esz⟩) h
    | none => .bad
   | none => .bad
  | _ => .bad
 | .idxS esz x i => match gl l x with
  | some (.sl a len e) => match Nat.beq e esz with
   | false => .bad
   | true => match gl l i with
    | some i => match asIdx i len with
     | some m => .val (.ptr ⟨a.ro, a.id, a.off + m * esz⟩) h
     | none => .bad
    | none => .bad
  | _ => .bad
 | .slS esz x lo hi mx => match gl l x with
  | some v => match glo l lo with
   | some lo => match glo l hi with
    | some hi => match glo l mx with
     | some mx => match v with
      | .sl a len e => match Nat.beq e esz with
       | false => .bad
       | true => match bounds len lo hi mx with
        | some (lo', h', _) => .val (.sl ⟨a.ro, a.id, a.off + lo' * esz⟩ (h' - lo') esz) h
        | none => .bad
      | .nilsl => match bounds 0 lo hi mx with
       | some _ => .val .nilsl h
       | none => .bad
      | _ => .bad
     | none => .bad
    | none => .bad
   | none => .bad
  | none => .bad
 | .slStr x lo hi => match gl l x with
  | some (.str s) => match glo l lo with
   | some lo => match glo l hi with
    | some hi => match bounds s.length lo hi none with
     | some (lo', h', _) => .val (.str ((s.drop lo').take (h' - lo'))) h
     | none => .bad
    | none => .bad
   | none => .bad
  | _ => .bad
 | .slA n esz x lo hi mx => match gl l x with
  | some (.ptr a) => match glo l lo with
   | some lo => match glo l hi with
    | some hi => match glo l mx with
     | some mx => match bounds n lo hi mx with
      | some (lo', h', _) => match rowAt B h a with
       | some cs => match Nat.ble (a.off + n * esz) cs.length with
        | true => .val (.sl ⟨a.ro, a.id, a.off + lo' * esz⟩ (h' - lo') esz) h
        | false => .bad
       | none => .bad
      | none => .bad
     | none => .bad
    | none => .bad
   | none => .bad
  | _ => .bad
 | .lookup ok kk z m k => match gl l m with
  | some m => match gl l k with
   | some k => match mapOf h m with
    | some es => match findK kk k es 0 with
     | some (some (_, v)) => match ok with
      | true => .val (.tup [v, .bool true]) h
      | false => .val v h
     | some none => match ok with
      | true => .val (.tup [z, .bool false]) h
      | false => .val z h
     | none => .bad
    | none => .bad
   | none => .bad
  | none => .bad
 | .mapup kk m k v => match gl l m with
  | some (.map id) => match gl l k with
   | some k => match gl l v with
    | some v => match h.get id with
     | some (.map es clock) => match findK kk k es 0 with
      | some (some (i, _)) => forceL (setVal k v es i) fun es => .val .undef (h.put id (.map es clock))
      | some none => forceL (es ++ [(k, v, clock)]) fun es => .val .undef (h.put id (.map es (clock + 1)))
      | none => .bad
     | _ => .bad
    | none => .bad
   | none => .bad
  | _ => .bad
 | .mkmap => .val (.map h.next) (h.new (.map [] 0))
 | .mksl esz bytes z x c => match gl l x with
  | some n => match gl l c with
   | some (.int _ c) => match c with
    | .ofNat c => match asBound n c with
     | some n => match roomOk c bytes with
      | true => newRow h (List.replicate c z).flatten fun id => .sl ⟨false, id, 0⟩ n esz
      | false => .bad
     | none => .bad
    | _ => .bad
   | _ => .bad
  | none => .bad
 | .mkfn f first captured => match gls l first with
  | some a => match gls l captured with
   | some b => .val (.fn (.func f) a b) h
   | none => .bad
  | none => .bad
 | .extract x i => match gl l x with
  | some (.tup vs) => pure1 h vs[i]?
  | _ => .bad
 | .mkif t x => match gl l x with
  | some v => .val (.iface t v) h
  | none => .bad
 | .append esz bytes s x => match gl l s with
  | some s => match gl l x with
   | some x => aAppend B esz bytes s x h
   | none => .bad
  | none => .bad
 | .copy esz d s => match gl l d with
  | some d => match gl l s with
   | some s => aCopy B esz d s h
   | none => .bad
  | none => .bad
 | .delete kk m k => match gl l m with
  | some .nilmap => match gl l k with
   | some k => match keyIs kk k with
    | true => .val .undef h
    | false => .bad
   | none => .bad
  | some (.map id) => match gl l k with
   | some k => match h.get id with
    | some (.map es clock) => match findK kk k es 0 with
     | some (some (i, _)) => forceL (eraseAt es i) fun es => .val .undef (h.put id (.map es clock))
     | some none => .val .undef h
     | none => .bad
    | _ => .bad
   | none => .bad
  | _ => .bad
 | .len st x => match gl l x with
  | some v => match lenSrc st v with
   | some n => .val (.int .i64 (.ofNat n)) h
   | none => .bad
  | none => .bad
 | .lenMap x => match gl l x with
  | some m => match mapOf h m with
   | some es => .val (.int .i64 (.ofNat es.length)) h
   | none => .bad
  | none => .bad
 | .mm isMax x r => match gl l x with
  | some x => match gls l r with
   | some r => pure1 h (aMax isMax x r)
   | none => .bad
  | none => .bad
 | .call .. => .bad
 | .callv .. => .bad
 | .ext k args => match gls l args with
  | some vs => aExt B k vs h
  | none => .bad
 | .fail => .bad
section mono
variable {l : EL} {env : Tr AV}
theorem rd_mono (le : Le l env) {x : AO} {v : AV} (h : gl l x = some v) : rd env x = some v := by
 cases x with
 | t n => exact le n v h
 | c u => exact h
theorem rds_mono (le : Le l env) : ∀ {xs : List AO} {vs : List AV}, gls l xs = some vs → rds env xs = some vs := by
 intro xs
 induction xs with
 | nil => intro vs h; exact h
 | cons x xs ih =>
  intro vs h
  simp only [gls, rds] at h ⊢
  cases hx : gl l x with
  | none => simp [hx] at h
  | some v =>
   cases hr : gls l xs with
   | none => simp [hx, hr] at h
   | some r => simp only [hx, hr] at h; simp only [rd_mono le hx, ih hr]; exact h
theorem rdo_mono (le : Le l env) {x : Option AO} {v : Option AV} (h : glo l x = some v) : rdo env x = some v := by
 cases x with
 | none => exact h
 | some x =>
  simp only [glo, rdo] at h ⊢
  cases hx : gl l x with
  | none => simp [hx] at h
  | some v => simp only [hx] at h; simp only [rd_mono le hx]; exact h
theorem fillP_mono (le : Le l env) : ∀ {ps : List (Nat × Nat × AO)} {cs r : List AV}, fillL l cs ps = some r → fillP env cs ps = some r := by
 intro ps
 induction ps with
 | nil => intro cs r h; exact h
 | cons p ps ih =>
  intro cs r h
  obtain ⟨off, n, x⟩ := p
  simp only [fillL, fillP] at h ⊢
  cases hx : gl l x with
  | none => simp [hx] at h
  | some v =>
   simp only [hx] at h
   simp only [rd_mono le hx]
   cases hb : Nat.beq v.cells.length n with
   | false => simp [hb] at h
   | true =>
    simp only [hb] at h ⊢
    cases hp : putAt cs off v.cells with
    | none => simp [hp] at h
    | some c => simp only [hp] at h ⊢; exact ih h
theorem wanted_mono (le : Le l env) {g : Option (Nat × Bool)} {b : Bool} (h : wantedL g l = some b) : wanted g env = some b := by
 cases g with
 | none => exact h
 | some p =>
  obtain ⟨k, w⟩ := p
  simp only [wantedL, wanted] at h ⊢
  cases hx : look l k with
  | none => simp [hx] at h
  | some v => simp only [hx] at h; simp only [le k v hx]; exact h
variable (B : Nat → List AV)
theorem aop_mono (le : Le l env) {op : AOp} {h h' : AH} {v : AV} (e : aopL B op l h = .val v h') : aop B op env h = .val v h' := by
 have R := fun x => @rd_mono l env le x
 cases op with
 | mov x =>
  simp only [aopL, aop] at e ⊢
  cases h1 : gl l x with
  | none => simp [h1, pure1] at e
  | some v1 =>
   rw [h1] at e
   rw [rd_mono le h1]
   try simp only at e ⊢
   exact e
 | alloc z =>
  simp only [aopL, aop] at e ⊢
  exact e
 | box x =>
  simp only [aopL, aop] at e ⊢
  cases h1 : gl l x with
  | none => simp [h1, pure1] at e
  | some v1 =>
   rw [h1] at e
   rw [rd_mono le h1]
   try simp only at e ⊢
   exact e
 | build z ps =>
  simp only [aopL, aop] at e ⊢
  cases h1 : fillL l z ps with
  | none => simp [h1, pure1] at e
  | some v1 =>
   rw [h1] at e
   rw [fillP_mono le h1]
   try simp only at e ⊢
   exact e
 | buildSl a b z ps =>
  simp only [aopL, aop] at e ⊢
  cases h1 : fillL l z ps with
  | none => simp [h1, pure1] at e
  | some v1 =>
   rw [h1] at e
   rw [fillP_mono le h1]
   try simp only at e ⊢
   exact e
 | load agg n x =>
  simp only [aopL, aop] at e ⊢
  cases h1 : gl l x with
  | none => simp [h1, pure1] at e
  | some v1 =>
   rw [h1] at e
   rw [rd_mono le h1]
   try simp only at e ⊢
   exact e
 | store n a v =>
  simp only [aopL, aop] at e ⊢
  cases h1 : gl l a with
  | none => simp [h1, pure1] at e
  | some v1 =>
   rw [h1] at e
   rw [rd_mono le h1]
   try simp only at e ⊢
   cases h2 : gl l v with
   | none => simp [h2, pure1] at e
   | some v2 =>
    rw [h2] at e
    rw [rd_mono le h2]
    try simp only at e ⊢
    exact e
 | nilchk x =>
  simp only [aopL, aop] at e ⊢
  cases h1 : gl l x with
  | none => simp [h1, pure1] at e
  | some v1 =>
   rw [h1] at e
   rw [rd_mono le h1]
   try simp only at e ⊢
   exact e
 | bin op x y =>
  simp only [aopL, aop] at e ⊢
  cases h1 : gl l x with
  | none => simp [h1, pure1] at e
  | some v1 =>
   rw [h1] at e
   rw [rd_mono le h1]
   try simp only at e ⊢
   cases h2 : gl l y with
   | none => simp [h2, pure1] at e
   | some v2 =>
    rw [h2] at e
    rw [rd_mono le h2]
    try simp only at e ⊢
    exact e
 | eq neg p x y =>
  simp only [aopL, aop] at e ⊢
  cases h1 : gl l x with
  | none => simp [h1, pure1] at e
  | some v1 =>
   rw [h1] at e
   rw [rd_mono le h1]
   try simp only at e ⊢
   cases h2 : gl l y with
   | none => simp [h2, pure1] at e
   | some v2 =>
    rw [h2] at e
    rw [rd_mono le h2]
    try simp only at e ⊢
    exact e
 | un op x =>
  simp only [aopL, aop] at e ⊢
  cases h1 : gl l x with
  | none => simp [h1, pure1] at e
  | some v1 =>
   rw [h1] at e
   rw [rd_mono le h1]
   try simp only at e ⊢
   exact e
 | cvInt k x =>
  simp only [aopL, aop] at e ⊢
  cases h1 : gl l x with
  | none => simp [h1, pure1] at e
  | some v1 =>
   rw [h1] at e
   rw [rd_mono le h1]
   try simp only at e ⊢
   exact e
 | cvStr x =>
  simp only [aopL, aop] at e ⊢
  cases h1 : gl l x with
  | none => simp [h1, pure1] at e
  | some v1 =>
   rw [h1] at e
   rw [rd_mono le h1]
   try simp only at e ⊢
   exact e
 | cvBytes x =>
  simp only [aopL, aop] at e ⊢
  cases h1 : gl l x with
  | none => simp [h1, pure1] at e
  | some v1 =>
   rw [h1] at e
   rw [rd_mono le h1]
   try simp only at e ⊢
   exact e
 | field agg off n x =>
  simp only [aopL, aop] at e ⊢
  cases h1 : gl l x with
  | none => simp [h1, pure1] at e
  | some v1 =>
   rw [h1] at e
   rw [rd_mono le h1]
   try simp only at e ⊢
   exact e
 | faddr off x =>
  simp only [aopL, aop] at e ⊢
  cases h1 : gl l x with
  | none => simp [h1, pure1] at e
  | some v1 =>
   rw [h1] at e
   rw [rd_mono le h1]
   try simp only at e ⊢
   exact e
 | idxV len esz agg x i =>
  simp only [aopL, aop] at e ⊢
  cases h1 : gl l x with
  | none => simp [h1, pure1] at e
  | some v1 =>
   rw [h1] at e
   rw [rd_mono le h1]
   try simp only at e ⊢
   cases v1 <;> first | (cases e; done) | skip
   simp only at e ⊢
   cases h2 : gl l i with
   | none => simp [h2, pure1] at e
   | some v2 =>
    rw [h2] at e
    rw [rd_mono le h2]
    try simp only at e ⊢
    exact e
 | idxStr x i =>
  simp only [aopL, aop] at e ⊢
  cases h1 : gl l x with
  | none => simp [h1, pure1] at e
  | some v1 =>
   rw [h1] at e
   rw [rd_mono le h1]
   try simp only at e ⊢
   cases v1 <;> first | (cases e; done) | skip
   simp only at e ⊢
   cases h2 : gl l i with
   | none => simp [h2, pure1] at e
   | some v2 =>
    rw [h2] at e
    rw [rd_mono le h2]
    try simp only at e ⊢
    exact e
 | idxA len esz x i =>
  simp only [aopL, aop] at e ⊢
  cases h1 : gl l x with
  | none => simp [h1, pure1] at e
  | some v1 =>
   rw [h1] at e
   rw [rd_mono le h1]
   try simp only at e ⊢
   cases v1 <;> first | (cases e; done) | skip
   simp only at e ⊢
   cases h2 : gl l i with
   | none => simp [h2, pure1] at e
   | some v2 =>
    rw [h2] at e
    rw [rd_mono le h2]
    try simp only at e ⊢
    exact e
 | idxS esz x i =>
  simp only [aopL, aop] at e ⊢
  cases h1 : gl l x with
  | none => simp [h1, pure1] at e
  | some v1 =>
   rw [h1] at e
   rw [rd_mono le h1]
   try simp only at e ⊢
   cases v1 <;> first | (cases e; done) | skip
   simp only at e ⊢
   split at e
   ·cases e
   rename_i e2
   simp only [e2]
   cases h3 : gl l i with
   | none => simp [h3, pure1] at e
   | some v3 =>
    rw [h3] at e
    rw [rd_mono le h3]
    try simp only at e ⊢
    exact e
 | slS esz x lo hi mx =>
  simp only [aopL, aop] at e ⊢
  cases h1 : gl l x with
  | none => simp [h1, pure1] at e
  | some v1 =>
   rw [h1] at e
   rw [rd_mono le h1]
   try simp only at e ⊢
   cases h2 : glo l lo with
   | none => simp [h2, pure1] at e
   | some v2 =>
    rw [h2] at e
    rw [rdo_mono le h2]
    try simp only at e ⊢
    cases h3 : glo l hi with
    | none => simp [h3, pure1] at e
    | some v3 =>
     rw [h3] at e
     rw [rdo_mono le h3]
     try simp only at e ⊢
     cases h4 : glo l mx with
     | none => simp [h4, pure1] at e
     | some v4 =>
      rw [h4] at e
      rw [rdo_mono le h4]
      try simp only at e ⊢
      exact e
 | slStr x lo hi =>
  simp only [aopL, aop] at e ⊢
  cases h1 : gl l x with
  | none => simp [h1, pure1] at e
  | some v1 =>
   rw [h1] at e
   rw [rd_mono le h1]
   try simp only at e ⊢
   cases v1 <;> first | (cases e; done) | skip
   simp only at e ⊢
   cases h2 : glo l lo with
   | none => simp [h2, pure1] at e
   | some v2 =>
    rw [h2] at e
    rw [rdo_mono le h2]
    try simp only at e ⊢
    cases h3 : glo l hi with
    | none => simp [h3, pure1] at e
    | some v3 =>
     rw [h3] at e
     rw [rdo_mono le h3]
     try simp only at e ⊢
     exact e
 | slA n esz x lo hi mx =>
  simp only [aopL, aop] at e ⊢
  cases h1 : gl l x with
  | none => simp [h1, pure1] at e
  | some v1 =>
   rw [h1] at e
   rw [rd_mono le h1]
   try simp only at e ⊢
   cases v1 <;> first | (cases e; done) | skip
   simp only at e ⊢
   cases h2 : glo l lo with
   | none => simp [h2, pure1] at e
   | some v2 =>
    rw [h2] at e
    rw [rdo_mono le h2]
    try simp only at e ⊢
    cases h3 : glo l hi with
    | none => simp [h3, pure1] at e
    | some v3 =>
     rw [h3] at e
     rw [rdo_mono le h3]
     try simp only at e ⊢
     cases h4 : glo l mx with
     | none => simp [h4, pure1] at e
     | some v4 =>
      rw [h4] at e
      rw [rdo_mono le h4]
      try simp only at e ⊢
      exact e
 | lookup ok kk z m k =>
  simp only [aopL, aop] at e ⊢
  cases h1 : gl l m with
  | none => simp [h1, pure1] at e
  | some v1 =>
   rw [h1] at e
   rw [rd_mono le h1]
   try simp only at e ⊢
   cases h2 : gl l k with
   | none => simp [h2, pure1] at e
   | some v2 =>
    rw [h2] at e
    rw [rd_mono le h2]
    try simp only at e ⊢
    exact e
 | mapup kk m k v =>
  simp only [aopL, aop] at e ⊢
  cases h1 : gl l m with
  | none => simp [h1, pure1] at e
  | some v1 =>
   rw [h1] at e
   rw [rd_mono le h1]
   try simp only at e ⊢
   cases v1 <;> first | (cases e; done) | skip
   simp only at e ⊢
   cases h2 : gl l k with
   | none => simp [h2, pure1] at e
   | some v2 =>
    rw [h2] at e
    rw [rd_mono le h2]
    try simp only at e ⊢
    cases h3 : gl l v with
    | none => simp [h3, pure1] at e
    | some v3 =>
     rw [h3] at e
     rw [rd_mono le h3]
     try simp only at e ⊢
     exact e
 | mkmap =>
  simp only [aopL, aop] at e ⊢
  exact e
 | mksl esz bytes z x c =>
  simp only [aopL, aop] at e ⊢
  cases h1 : gl l x with
  | none => simp [h1, pure1] at e
  | some v1 =>
   rw [h1] at e
   rw [rd_mono le h1]
   try simp only at e ⊢
   cases h2 : gl l c with
   | none => simp [h2, pure1] at e
   | some v2 =>
    rw [h2] at e
    rw [rd_mono le h2]
    try simp only at e ⊢
    exact e
 | mkfn f a b =>
  simp only [aopL, aop] at e ⊢
  cases h1 : gls l a with
  | none => simp [h1, pure1] at e
  | some v1 =>
   rw [h1] at e
   rw [rds_mono le h1]
   try simp only at e ⊢
   cases h2 : gls l b with
   | none => simp [h2, pure1] at e
   | some v2 =>
    rw [h2] at e
    rw [rds_mono le h2]
    try simp only at e ⊢
    exact e
 | extract x i =>
  simp only [aopL, aop] at e ⊢
  cases h1 : gl l x with
  | none => simp [h1, pure1] at e
  | some v1 =>
   rw [h1] at e
   rw [rd_mono le h1]
   try simp only at e ⊢
   exact e
 | mkif t' x =>
  simp only [aopL, aop] at e ⊢
  cases h1 : gl l x with
  | none => simp [h1, pure1] at e
  | some v1 =>
   rw [h1] at e
   rw [rd_mono le h1]
   try simp only at e ⊢
   exact e
 | append esz bytes s x =>
  simp only [aopL, aop] at e ⊢
  cases h1 : gl l s with
  | none => simp [h1, pure1] at e
  | some v1 =>
   rw [h1] at e
   rw [rd_mono le h1]
   try simp only at e ⊢
   cases h2 : gl l x with
   | none => simp [h2, pure1] at e
   | some v2 =>
    rw [h2] at e
    rw [rd_mono le h2]
    try simp only at e ⊢
    exact e
 | copy esz d s =>
  simp only [aopL, aop] at e ⊢
  cases h1 : gl l d with
  | none => simp [h1, pure1] at e
  | some v1 =>
   rw [h1] at e
   rw [rd_mono le h1]
   try simp only at e ⊢
   cases h2 : gl l s with
   | none => simp [h2, pure1] at e
   | some v2 =>
    rw [h2] at e
    rw [rd_mono le h2]
    try simp only at e ⊢
    exact e
 | pick c a b =>
  simp only [aopL, aop] at e ⊢
  cases hc : gl l c with
  | none => simp [hc] at e
  | some cv =>
   rw [R c hc]
   rw [hc] at e
   cases cv <;> first | (cases e; done) | skip
   rename_i b1
   cases b1
   ·simp only at e ⊢
    cases hx : gl l b with
    | none => simp [hx, pure1] at e
    | some u => rw [R b hx]; rw [hx] at e; exact e
   ·simp only at e ⊢
    cases hx : gl l a with
    | none => simp [hx, pure1] at e
    | some u => rw [R a hx]; rw [hx] at e; exact e
 | delete kk m k =>
  simp only [aopL, aop] at e ⊢
  cases hx : gl l m with
  | none => simp [hx] at e
  | some a =>
   rw [R m hx]; rw [hx] at e
   cases a <;> first | (cases e; done) | skip
   all_goals
    simp only at e ⊢
    cases hy : gl l k with
    | none => simp [hy] at e
    | some b => rw [R k hy]; rw [hy] at e; exact e
 | len st x =>
  simp only [aopL, aop] at e ⊢
  cases h1 : gl l x with
  | none => simp [h1, pure1] at e
  | some v1 =>
   rw [h1] at e
   rw [rd_mono le h1]
   try simp only at e ⊢
   exact e
 | lenMap x =>
  simp only [aopL, aop] at e ⊢
  cases h1 : gl l x with
  | none => simp [h1, pure1] at e
  | some v1 =>
   rw [h1] at e
   rw [rd_mono le h1]
   try simp only at e ⊢
   exact e
 | mm m x r =>
  simp only [aopL, aop] at e ⊢
  cases h1 : gl l x with
  | none => simp [h1, pure1] at e
  | some v1 =>
   rw [h1] at e
   rw [rd_mono le h1]
   try simp only at e ⊢
   cases h2 : gls l r with
   | none => simp [h2, pure1] at e
   | some v2 =>
    rw [h2] at e
    rw [rds_mono le h2]
    try simp only at e ⊢
    exact e
 | call _ _ => cases e
 | callv _ _ => cases e
 | ext k args =>
  simp only [aopL, aop] at e ⊢
  cases h1 : gls l args with
  | none => simp [h1, pure1] at e
  | some v1 =>
   rw [h1] at e
   rw [rds_mono le h1]
   try simp only at e ⊢
   exact e
 | fail => cases e
end mono
/-! ### What is known of the heap -/
abbrev HL := List (Nat × AObj)
structure Sep (h : AH) (H : HL) : Prop where
 dom : ∀ id o, h.get id = some o → id < h.next
 nd : (H.map (·.1)).Nodup
 at_ : ∀ p, p ∈ H → h.get p.1 = some p.2
theorem AH.get_new (h : AH) (o : AObj) (j : Nat) : (h.new o).get j = if j = h.next then some o else h.get j := by
 simp only [AH.new, AH.get, Tr.get_set]
theorem AH.get_put (h : AH) (id : Nat) (o : AObj) (j : Nat) : (h.put id o).get j = if j = id then some o else h.get j := by
 simp only [AH.put, AH.get, Tr.get_set]
namespace Sep
variable {h : AH} {H H' F : HL}
theorem perm (s : Sep h H) (p : H.Perm H') : Sep h H' :=
 ⟨s.dom, (p.map _).nodup_iff.1 s.nd, fun q hq => s.at_ q (p.mem_iff.2 hq)⟩
theorem sub (s : Sep h H) (p : H'.Sublist H) : Sep h H' :=
 ⟨s.dom, (p.map _).nodup s.nd, fun q hq => s.at_ q (p.subset hq)⟩
theorem new (s : Sep h H) (o : AObj) : Sep (h.new o) ((h.next, o) :: H) := by
 refine ⟨fun id o' e => ?_, ?_, fun p hp => ?_⟩
 ·rw [AH.get_new] at e
  show id < h.next + 1
  split at e
  ·omega
  ·have := s.dom id o' e; omega
 ·simp only [List.map_cons, List.nodup_cons]
  refine ⟨fun hm => ?_, s.nd⟩
  obtain ⟨p, hp, e⟩ := List.mem_map.1 hm
  have := s.dom _ _ (s.at_ p hp)
  omega
 ·rw [AH.get_new]
  rcases List.mem_cons.1 hp with rfl | hp
  ·rw [if_pos rfl]
  ·have := s.dom _ _ (s.at_ p hp)
   rw [if_neg (by omega)]; exact s.at_ p hp
theorem put {id : Nat} {o o' : AObj} (s : Sep h ((id, o) :: H)) : Sep (h.put id o') ((id, o') :: H) := by
 have hn := s.nd
 simp only [List.map_cons, List.nodup_cons] at hn
 have h0 := s.dom id o (s.at_ (id, o) (by simp))
 refine ⟨fun j x e => ?_, by simpa using hn, fun p hp => ?_⟩
 ·rw [AH.get_put] at e
  show j < h.next
  split at e
  ·omega
  ·exact s.dom j x e
 ·rw [AH.get_put]
  rcases List.mem_cons.1 hp with rfl | hp
  ·rw [if_pos rfl]
  ·rw [if_neg]
   ·exact s.at_ p (by simp [hp])
   ·rintro e
    exact hn.1 (List.mem_map.2 ⟨p, hp, e⟩)
theorem tail {p : Nat × AObj} (s : Sep h (p :: H)) : Sep h H := s.sub (List.sublist_cons_self _ _)
theorem right (s : Sep h (H ++ F)) : Sep h F := s.sub (List.sublist_append_right _ _)
theorem left (s : Sep h (H ++ F)) : Sep h H := s.sub (List.sublist_append_left _ _)
end Sep
def Tk (H : HL) (id : Nat) (o : AObj) (R : HL) : Prop := H.Perm ((id, o) :: R)
theorem Tk.head {H : HL} {id : Nat} {o : AObj} : Tk ((id, o) :: H) id o H := List.Perm.refl _
theorem Tk.tail {H R : HL} {id : Nat} {o : AObj} {p : Nat × AObj} (k : Tk H id o R) : Tk (p :: H) id o (p :: R) :=
 (List.Perm.cons p k).trans (List.Perm.swap _ _ _)
theorem Tk.app {H R F : HL} {id : Nat} {o : AObj} (k : Tk H id o R) : (H ++ F).Perm ((id, o) :: (R ++ F)) := by
 simpa using List.Perm.append_right F k
inductive Sp : HL → HL → HL → Prop
 | nil {H : HL} : Sp H [] H
 | cons {H H1 R R' : HL} {id : Nat} {o : AObj} : Tk H id o R → Sp R H1 R' → Sp H ((id, o) :: H1) R'
theorem Sp.perm {H H1 R : HL} (s : Sp H H1 R) : H.Perm (H1 ++ R) := by
 induction s with
 | nil => exact List.Perm.refl _
 | cons t _ ih => exact (List.Perm.trans t (List.Perm.cons _ ih))
section logic
variable (B : Nat → List AV) (T : Tr FnI)
def WF (f : AFn) (args : List AV) (H : HL) (Q : AV → HL → Prop) : Prop :=
 ∀ h F, Sep h (H ++ F) → ∃ v h' H', Q v H' ∧ Sep h' (H' ++ F) ∧ Ev fun n => run B T n f args h = .val v h'
def WOp (op : AOp) (t : EL) (H : HL) (Q : AV → HL → Prop) : Prop :=
 ∀ env h F, Le t env → Sep h (H ++ F) → ∃ v h' H', Q v H' ∧ Sep h' (H' ++ F) ∧ Ev fun n => evOp B (run B T n) op env h = .val v h'
def WOps (ops : List AOper) (t : EL) (H : HL) (Q : EL → HL → Prop) : Prop :=
 ∀ env h F, Le t env → Sep h (H ++ F) → ∃ t' H' env' h', Q t' H' ∧ Le t' env' ∧ Sep h' (H' ++ F) ∧ Ev fun n => evOps B (run B T n) ops env h = .ok env' h'
def dfs (l : List Nat) : HL := l.map fun d => (d, .defd)
def WC (nt : Nat) (rdn : Option Nat) (c : AC) (t : EL) (H : HL) (Q : AExit → EL → HL → Prop) : Prop :=
 ∀ env ds h F, Le t env → Sep h (H ++ F) → ∃ ex t' H' env' new h', Q ex t' H' ∧ Le t' env' ∧ Sep h' (H' ++ (dfs new ++ F)) ∧
  Ev2 fun n L => evC B (run B T n) L nt rdn c env ds h = .out ex env' (new ++ ds) h'
def WL (nt : Nat) (rdn : Option Nat) (c : AC) (t : EL) (H : HL) (Q : AExit → EL → HL → Prop) : Prop :=
 ∀ env ds h F, Le t env → Sep h (H ++ F) → ∃ ex t' H' env' new h', Q ex t' H' ∧ Le t' env' ∧ Sep h' (H' ++ (dfs new ++ F)) ∧
  ∃ n0, ∀ N n L, n0 ≤ N → n0 ≤ n → n0 ≤ L → iter (evC B (run B T n) L nt rdn c) N env ds h = .out ex env' (new ++ ds) h'
variable {B T}
/-! #### Operations -/
section opr
variable {t : EL} {H : HL} {Q : AV → HL → Prop}
theorem evOp_aop {call : Caller} {op : AOp} (h1 : ∀ f a, op ≠ .call f a) (h2 : ∀ f a, op ≠ .callv f a) (env : Tr AV) (h : AH) : evOp B call op env h = aop B op env h := by
 cases op <;> first | rfl | exact absurd rfl (h1 _ _) | exact absurd rfl (h2 _ _)
theorem evOp_val {call : Caller} {op : AOp} {env : Tr AV} {h h' : AH} {v : AV} (e : aop B op env h = .val v h') : evOp B call op env h = .val v h' := by
 rw [← e]
 refine evOp_aop ?_ ?_ env h
 ·rintro f a rfl; cases e
 ·rintro f a rfl; cases e
theorem WOp.pure {op : AOp} {v : AV} (e : ∀ h, aopL B op t h = .val v h) (q : Q v H) : WOp B T op t H Q :=
 fun env h F le s => ⟨v, h, H, q, s, Ev.of fun n => evOp_val (aop_mono B le (e h))⟩
theorem newRow_new {h : AH} {cs : List AV} {k : Nat → AV} (hc : allCell cs = true) : newRow h cs k = .val (k h.next) (h.new (.row cs)) := by
 simp [newRow, hc]
theorem WOp.alloc {z : List AV} (hc : allCell z = true) (q : ∀ id, Q (.ptr ⟨false, id, 0⟩) ((id, .row z) :: H)) : WOp B T (.alloc z) t H Q :=
 fun env h F le s => ⟨_, _, _, q h.next, by simpa using s.new (.row z), Ev.of fun n => by simp only [evOp, aop]; exact newRow_new hc⟩
theorem WOp.box {x : AO} {v : AV} (hx : gl t x = some v) (hc : allCell v.cells = true) (q : ∀ id, Q (.ptr ⟨false, id, 0⟩) ((id, .row v.cells) :: H)) : WOp B T (.box x) t H Q :=
 fun env h F le s => ⟨_, _, _, q h.next, by simpa using s.new (.row v.cells), Ev.of fun n => by
  simp only [evOp, aop, rd_mono le hx]; exact newRow_new hc⟩
theorem WOp.build {z cs : List AV} {ps : List (Nat × Nat × AO)} (hx : fillL t z ps = some cs) (q : Q (.agg cs) H) : WOp B T (.build z ps) t H Q :=
 fun env h F le s => ⟨_, _, _, q, s, Ev.of fun n => by simp only [evOp, aop, fillP_mono le hx, forceL_eq]⟩
theorem WOp.buildSl {esz len : Nat} {z cs : List AV} {ps : List (Nat × Nat × AO)} (hx : fillL t z ps = some cs) (hc : allCell cs = true) (q : ∀ id, Q (.sl ⟨false, id, 0⟩ len esz) ((id, .row cs) :: H)) : WOp B T (.buildSl esz len z ps) t H Q :=
 fun env h F le s => ⟨_, _, _, q h.next, by simpa using s.new (.row cs), Ev.of fun n => by
  simp only [evOp, aop, fillP_mono le hx]; exact newRow_new hc⟩
theorem rowAt_of {h : AH} {a : AA} {cs : List AV} {R F : HL} (hr : a.ro = false) (k : Tk H a.id (.row cs) R) (s : Sep h (H ++ F)) : rowAt B h a = some cs := by
 have := s.at_ (a.id, .row cs) (k.app.mem_iff.2 (by simp))
 simp only [rowAt, hr, this]
def Ld (B : Nat → List AV) (H : HL) (a : AA) (n : Nat) (l : List AV) : Prop :=
 (a.ro = true ∧ takeN ((B a.id).drop a.off) n = some l) ∨ (a.ro = false ∧ ∃ cs R, Tk H a.id (.row cs) R ∧ takeN (cs.drop a.off) n = some l)
theorem Ld.cells {h : AH} {a : AA} {n : Nat} {l : List AV} {F : HL} (k : Ld B H a n l) (s : Sep h (H ++ F)) : ldCells B h a n = some l := by
 rcases k with ⟨hr, k⟩ | ⟨hr, cs, R, k1, k2⟩
 ·simp only [ldCells, rowAt, hr, k]
 ·simp only [ldCells, rowAt_of hr k1 s, k2]
theorem Ld.own {id off n : Nat} {l cs : List AV} {R : HL} (k : Tk H id (.row cs) R) (e : takeN (cs.drop off) n = some l) : Ld B H ⟨false, id, off⟩ n l := .inr ⟨rfl, cs, R, k, e⟩
theorem Ld.ro {id off n : Nat} {l : List AV} (e : takeN ((B id).drop off) n = some l) : Ld B H ⟨true, id, off⟩ n l := .inl ⟨rfl, e⟩
theorem WOp.load {agg : Bool} {n : Nat} {x : AO} {a : AA} {l : List AV} {v : AV} (hx : gl t x = some (.ptr a)) (hl : Ld B H a n l) (hv : one agg l = some v) (q : Q v H) : WOp B T (.load agg n x) t H Q :=
 fun env h F le s => ⟨v, h, H, q, s, Ev.of fun m => by
  simp only [evOp, aop, rd_mono le hx, ldVar, hl.cells s, hv, pure1]⟩
theorem WOp.store {n : Nat} {x y : AO} {id off : Nat} {cs cs' : List AV} {v : AV} {R : HL} (hx : gl t x = some (.ptr ⟨false, id, off⟩)) (hy : gl t y = some v) (k : Tk H id (.row cs) R) (hn : v.cells.length = n) (hc : allCell v.cells = true)
  (hp : putAt cs off v.cells = some cs') (q : Q .undef ((id, .row cs') :: R)) : WOp B T (.store n x y) t H Q :=
 fun env h F le s => by
  have s' := s.perm k.app
  have hg := s'.at_ (id, .row cs) (by simp)
  refine ⟨_, h.put id (.row cs'), _, q, by simpa using s'.put, Ev.of fun m => ?_⟩
  simp only [evOp, aop, rd_mono le hx, rd_mono le hy, aStore, hg]
  rw [show Nat.beq v.cells.length n = true from by simp [hn]]
  simp only [hc, hp, forceL_eq]
theorem WOp.call {f : Nat} {args : List AO} {vs : List AV} {H1 R : HL} {P : AV → HL → Prop} (ha : gls t args = some vs) (w : WF B T (.func f) vs H1 P) (sp : Sp H H1 R) (q : ∀ v H', P v H' → Q v (H' ++ R)) : WOp B T (.call f args) t H Q :=
 fun env h F le s => by
  have s' : Sep h (H1 ++ (R ++ F)) := by
   have := s.perm (List.Perm.append_right F sp.perm)
   simpa using this
  obtain ⟨v, h', H', p, s'', e⟩ := w h (R ++ F) s'
  refine ⟨v, h', H' ++ R, q v H' p, by simpa using s'', e.mono fun n e => ?_⟩
  simp only [evOp, rds_mono le ha]; exact e
theorem WOp.callv {x : AO} {f : Nat} {first cap : List AV} {args : List AO} {vs : List AV} {H1 R : HL} {P : AV → HL → Prop} (hx : gl t x = some (.fn (.func f) first cap)) (ha : gls t args = some vs) (w : WF B T (.func f) (first ++ (vs ++ cap)) H1 P) (sp : Sp H H1 R)
  (q : ∀ v H', P v H' → Q v (H' ++ R)) : WOp B T (.callv x args) t H Q :=
 fun env h F le s => by
  have s' : Sep h (H1 ++ (R ++ F)) := by
   have := s.perm (List.Perm.append_right F sp.perm)
   simpa using this
  obtain ⟨v, h', H', p, s'', e⟩ := w h (R ++ F) s'
  refine ⟨v, h', H' ++ R, q v H' p, by simpa using s'', e.mono fun n e => ?_⟩
  simp only [evOp, rd_mono le hx, rds_mono le ha]; exact e
end opr
/-! #### Regions -/
section ops
variable {t : EL} {H : HL} {Q : EL → HL → Prop}
theorem WOps.nil (q : Q t H) : WOps B T [] t H Q := fun env h F le s => ⟨t, H, env, h, q, le, s, Ev.of fun _ => rfl⟩
theorem WOps.cons {d : Option Nat} {op : AOp} {os : List AOper} (w : WOp B T op t H fun v H' => WOps B T os (setL t d v) H' Q) : WOps B T (⟨d, op, none⟩ :: os) t H Q :=
 fun env h F le s => by
  obtain ⟨v, h1, H1, q, s1, e1⟩ := w env h F le s
  obtain ⟨t2, H2, env2, h2, q2, le2, s2, e2⟩ := q _ h1 F (le.setD d v) s1
  refine ⟨t2, H2, env2, h2, q2, le2, s2, (e1.and e2).mono fun n ⟨e1, e2⟩ => ?_⟩
  simp only [evOps, wanted, e1, forceV_eq]; exact e2
theorem WOps.go {d : Option Nat} {op : AOp} {os : List AOper} {g : Option (Nat × Bool)} (hw : wantedL g t = some true) (w : WOp B T op t H fun v H' => WOps B T os (setL t d v) H' Q) : WOps B T (⟨d, op, g⟩ :: os) t H Q :=
 fun env h F le s => by
  obtain ⟨v, h1, H1, q, s1, e1⟩ := w env h F le s
  obtain ⟨t2, H2, env2, h2, q2, le2, s2, e2⟩ := q _ h1 F (le.setD d v) s1
  refine ⟨t2, H2, env2, h2, q2, le2, s2, (e1.and e2).mono fun n ⟨e1, e2⟩ => ?_⟩
  simp only [evOps, wanted_mono le hw, e1, forceV_eq]; exact e2
theorem WOps.skip {d : Option Nat} {op : AOp} {os : List AOper} {g : Option (Nat × Bool)} (hw : wantedL g t = some false) (w : WOps B T os (setL t d .undef) H Q) : WOps B T (⟨d, op, g⟩ :: os) t H Q :=
 fun env h F le s => by
  obtain ⟨t2, H2, env2, h2, q2, le2, s2, e2⟩ := w _ h F (le.setD d .undef) s
  refine ⟨t2, H2, env2, h2, q2, le2, s2, e2.mono fun n e2 => ?_⟩
  simp only [evOps, wanted_mono le hw]; exact e2
theorem WOps.mono {os : List AOper} {Q' : EL → HL → Prop} (w : WOps B T os t H Q) (k : ∀ t H, Q t H → Q' t H) : WOps B T os t H Q' := fun env h F le s => by
 obtain ⟨t', H', env', h', q, r⟩ := w env h F le s
 exact ⟨t', H', env', h', k _ _ q, r⟩
end ops
/-! #### Code -/
section code
variable {nt : Nat} {rdn : Option Nat} {t : EL} {H : HL} {Q : AExit → EL → HL → Prop}
@[simp] theorem dfs_nil : dfs [] = [] := rfl
@[simp] theorem dfs_app (a b : List Nat) : dfs (a ++ b) = dfs a ++ dfs b := List.map_append
theorem WC.mono {c : AC} {Q' : AExit → EL → HL → Prop} (w : WC B T nt rdn c t H Q) (k : ∀ ex t H, Q ex t H → Q' ex t H) : WC B T nt rdn c t H Q' := fun env ds h F le s => by
 obtain ⟨ex, t', H', env', new, h', q, r⟩ := w env ds h F le s
 exact ⟨ex, t', H', env', new, h', k _ _ _ q, r⟩
theorem WC.skip (q : Q .normal t H) : WC B T nt rdn .skip t H Q := fun env ds h F le s => ⟨_, t, H, env, [], h, q, le, by simpa using s, Ev2.of fun _ _ => rfl⟩
theorem WC.reg {os : List AOper} (w : WOps B T os t H (Q .normal)) : WC B T nt rdn (.reg os) t H Q := fun env ds h F le s => by
 obtain ⟨t', H', env', h', q, le', s', e⟩ := w env h F le s
 refine ⟨_, t', H', env', [], h', q, le', by simpa using s', Ev2.of1 (e.mono fun n e L => ?_)⟩
 simp only [evC, e, List.nil_append]
theorem WC.seq {a b : AC} (w : WC B T nt rdn a t H fun ex t' H' => match ex with | .normal => WC B T nt rdn b t' H' Q | .jump j => Q (.jump j) t' H') : WC B T nt rdn (.seq a b) t H Q := fun env ds h F le s => by
 obtain ⟨ex, t1, H1, env1, new1, h1, q1, le1, s1, e1⟩ := w env ds h F le s
 cases ex with
 | normal =>
  obtain ⟨ex2, t2, H2, env2, new2, h2, q2, le2, s2, e2⟩ := q1 env1 (new1 ++ ds) h1 _ le1 s1
  refine ⟨ex2, t2, H2, env2, new2 ++ new1, h2, q2, le2, by simpa using s2, (e1.and e2).mono fun n L ⟨e1, e2⟩ => ?_⟩
  simp only [evC, e1]; rw [e2, List.append_assoc]
 | jump j =>
  refine ⟨_, t1, H1, env1, new1, h1, q1, le1, s1, e1.mono fun n L e1 => ?_⟩
  simp only [evC, e1]
theorem WC.cond {c : AO} {a b : AC} {v : Bool} (hc : gl t c = some (.bool v)) (wa : v = true → WC B T nt rdn a t H Q) (wb : v = false → WC B T nt rdn b t H Q) : WC B T nt rdn (.cond c a b) t H Q := fun env ds h F le s => by
 cases v with
 | true =>
  obtain ⟨ex, t1, H1, env1, new1, h1, q1, le1, s1, e1⟩ := wa rfl env ds h F le s
  refine ⟨ex, t1, H1, env1, new1, h1, q1, le1, s1, e1.mono fun n L e1 => ?_⟩
  simp only [evC, rd_mono le hc, e1]
 | false =>
  obtain ⟨ex, t1, H1, env1, new1, h1, q1, le1, s1, e1⟩ := wb rfl env ds h F le s
  refine ⟨ex, t1, H1, env1, new1, h1, q1, le1, s1, e1.mono fun n L e1 => ?_⟩
  simp only [evC, rd_mono le hc, e1]
theorem WC.block {id : Nat} {b : AC} (w : WC B T nt rdn b t H fun ex t' H' => match ex with
  | .normal => Q .normal t' H'
  | .jump .ret => Q (.jump .ret) t' H'
  | .jump (.exit j) => match Nat.beq j id with
   | true => Q .normal t' H'
   | false => Q (.jump (.exit j)) t' H') : WC B T nt rdn (.block id b) t H Q := fun env ds h F le s => by
 obtain ⟨ex, t1, H1, env1, new1, h1, q1, le1, s1, e1⟩ := w env ds h F le s
 cases ex with
 | normal => exact ⟨_, t1, H1, env1, new1, h1, q1, le1, s1, e1.mono fun n L e1 => by simp only [evC, e1]⟩
 | jump j => cases j with
  | ret => exact ⟨_, t1, H1, env1, new1, h1, q1, le1, s1, e1.mono fun n L e1 => by simp only [evC, e1]⟩
  | exit j =>
   simp only at q1
   split at q1
   ·rename_i hb; exact ⟨_, t1, H1, env1, new1, h1, q1, le1, s1, e1.mono fun n L e1 => by simp only [evC, e1, hb]⟩
   ·rename_i hb; exact ⟨_, t1, H1, env1, new1, h1, q1, le1, s1, e1.mono fun n L e1 => by simp only [evC, e1, hb]⟩
theorem WC.exit {id : Nat} (q : Q (.jump (.exit id)) t H) : WC B T nt rdn (.exit id) t H Q := fun env ds h F le s => ⟨_, t, H, env, [], h, q, le, by simpa using s, Ev2.of fun _ _ => rfl⟩
theorem WC.ret (q : Q (.jump .ret) t H) : WC B T nt rdn .ret t H Q := fun env ds h F le s => ⟨_, t, H, env, [], h, q, le, by simpa using s, Ev2.of fun _ _ => rfl⟩
theorem WC.scope {b : AC} (w : WC B T nt rdn b t H Q) : WC B T nt rdn (.scope b) t H Q := w
theorem WC.loop {b : AC} (w : WL B T nt rdn b t H Q) : WC B T nt rdn (.loop b) t H Q := fun env ds h F le s => by
 obtain ⟨ex, t1, H1, env1, new1, h1, q1, le1, s1, n0, e1⟩ := w env ds h F le s
 exact ⟨ex, t1, H1, env1, new1, h1, q1, le1, s1, n0, fun n L hn hL => e1 L n L hL hn hL⟩
theorem WL.step {b : AC} (w : WC B T nt rdn b t H fun ex t' H' => match ex with | .normal => WL B T nt rdn b t' H' Q | .jump j => Q (.jump j) t' H') : WL B T nt rdn b t H Q := fun env ds h F le s => by
 obtain ⟨ex, t1, H1, env1, new1, h1, q1, le1, s1, n0, e1⟩ := w env ds h F le s
 cases ex with
 | normal =>
  obtain ⟨ex2, t2, H2, env2, new2, h2, q2, le2, s2, n2, e2⟩ := q1 env1 (new1 ++ ds) h1 _ le1 s1
  refine ⟨ex2, t2, H2, env2, new2 ++ new1, h2, q2, le2, by simpa using s2, n0 + n2 + 1, fun N n L hN hn hL => ?_⟩
  obtain ⟨M, rfl⟩ : ∃ M, N = M + 1 := ⟨N - 1, by omega⟩
  simp only [iter, e1 n L (by omega) (by omega)]
  rw [e2 M n L (by omega) (by omega) (by omega), List.append_assoc]
 | jump j =>
  refine ⟨_, t1, H1, env1, new1, h1, q1, le1, s1, n0 + 1, fun N n L hN hn hL => ?_⟩
  obtain ⟨M, rfl⟩ : ∃ M, N = M + 1 := ⟨N - 1, by omega⟩
  simp only [iter, e1 n L (by omega) (by omega)]
theorem WC.le {c : AC} {t' : EL} (hl : Sub1 t' t) (w : WC B T nt rdn c t' H Q) : WC B T nt rdn c t H Q := fun env ds h F le s => w env ds h F (hl.le le) s
theorem WL.le {c : AC} {t' : EL} (hl : Sub1 t' t) (w : WL B T nt rdn c t' H Q) : WL B T nt rdn c t H Q := fun env ds h F le s => w env ds h F (hl.le le) s
theorem WC.sp {c : AC} {H1 R : HL} (sp : Sp H H1 R) (w : WC B T nt rdn c t H1 Q) : WC B T nt rdn c t H fun ex t' H' => ∃ H2, Q ex t' H2 ∧ H' = H2 ++ R := fun env ds h F le s => by
 have s' : Sep h (H1 ++ (R ++ F)) := by
  have := s.perm (List.Perm.append_right F sp.perm)
  simpa using this
 obtain ⟨ex, t1, H2, env1, new1, h1, q1, le1, s1, e1⟩ := w env ds h _ le s'
 refine ⟨ex, t1, H2 ++ R, env1, new1, h1, ⟨H2, q1, rfl⟩, le1, ?_, e1⟩
 refine s1.perm ?_
 simp only [List.append_assoc]
 exact List.Perm.append_left _ (List.perm_append_comm_assoc _ _ _)
theorem WC.drop {c : AC} {H1 R : HL} (sp : Sp H H1 R) (w : WC B T nt rdn c t H1 Q) : WC B T nt rdn c t H Q := fun env ds h F le s => by
 have s' : Sep h (H1 ++ F) := by
  have := s.perm (List.Perm.append_right F sp.perm)
  rw [List.append_assoc] at this
  exact this.sub (List.Sublist.append_left (List.sublist_append_right _ _) _)
 exact w env ds h _ le s'
theorem WL.drop {c : AC} {H1 R : HL} (sp : Sp H H1 R) (w : WL B T nt rdn c t H1 Q) : WL B T nt rdn c t H Q := fun env ds h F le s => by
 have s' : Sep h (H1 ++ F) := by
  have := s.perm (List.Perm.append_right F sp.perm)
  rw [List.append_assoc] at this
  exact this.sub (List.Sublist.append_left (List.sublist_append_right _ _) _)
 exact w env ds h _ le s'
end code
/-! #### Functions -/
def argL : List AV → Nat → EL
 | [], _ => []
 | a :: r, i => (i, a) :: argL r (i + 1)
theorem envOf_get' : ∀ (l : List AV) (i : Nat) (env : Tr AV) (t : Nat), t < i → (envOf l i env).get t = env.get t := by
 intro l
 induction l with
 | nil => intro i env t _; rfl
 | cons a l ih => intro i env t h; simp only [envOf]; rw [ih _ _ _ (by omega), Tr.get_set_ne _ _ (by omega)]
theorem argL_le' : ∀ (l : List AV) (i : Nat) (env : Tr AV), Le (argL l i) (envOf l i env) := by
 intro l
 induction l with
 | nil => intro i env k v h; cases h
 | cons a l ih =>
  intro i env k v h
  simp only [argL, look] at h
  simp only [envOf]
  cases hb : Nat.beq i k with
  | true =>
   simp only [hb] at h; cases h
   have := Nat.eq_of_beq_eq_true hb
   subst this
   rw [envOf_get' _ _ _ _ (by omega), Tr.get_set_same]
  | false => simp only [hb] at h; exact ih _ _ k v h
theorem argL_le (l : List AV) : Le (argL l 0) (envOf l 0 .e) := argL_le' l 0 .e
def Res (B : Nat → List AV) (t : EL) (H : HL) : List ARes → List AV → Prop
 | [], vs => vs = []
 | r :: rs, vs => ∃ v l, vs = v :: l ∧ (match r with
   | .tmp k => look t k = some v
   | .cell k agg n => ∃ a cs, look t k = some (.ptr a) ∧ Ld B H a n cs ∧ one agg cs = some v) ∧ Res B t H rs l
theorem Res.results {t : EL} {env : Tr AV} {H F : HL} {h : AH} (le : Le t env) (s : Sep h (H ++ F)) : ∀ {rs : List ARes} {vs : List AV}, Res B t H rs vs → results B env h rs = some vs := by
 intro rs
 induction rs with
 | nil => intro vs h; simp only [Res] at h; subst h; rfl
 | cons r rs ih =>
  intro vs h
  obtain ⟨v, l, rfl, h1, h2⟩ := h
  have := ih h2
  cases r with
  | tmp k =>
   have h1 : look t k = some v := h1
   simp only [Abs.results, le k v h1, this]
  | cell k agg n =>
   obtain ⟨a, cs, e1, e2, e3⟩ := h1
   have e1 := le _ _ e1
   simp only [Abs.results, e1, ldVar, e2.cells s, e3, this]
theorem killAll_dfs : ∀ {ds : List Nat} {h : AH} {H : HL}, Sep h (dfs ds ++ H) → ∃ h', killAll ds h = some h' ∧ Sep h' H := by
 intro ds
 induction ds with
 | nil => intro h H s; exact ⟨h, rfl, s⟩
 | cons d ds ih =>
  intro h H s
  have hg := s.at_ (d, .defd) (by simp [dfs])
  obtain ⟨h', e, s'⟩ := ih (h := h.put d .dead) (H := H) (Sep.tail (p := (d, .dead)) (Sep.put (o := .defd) (by simpa [dfs] using s)))
  exact ⟨h', by simp only [killAll, hg]; exact e, s'⟩
theorem WF.fn {f : Nat} {fi : FnI} {args : List AV} {H : HL} {Q : AV → HL → Prop} (hT : T.get f = some fi) (hn : Nat.ble args.length fi.nt = true)
  (w : WC B T fi.nt none fi.code (argL args 0) H fun ex t' H' => (match ex with | .jump (.exit _) => False | _ => True) ∧ ∃ vs, Res B t' H' fi.res vs ∧ Q (tupOf vs) H') : WF B T (.func f) args H Q := fun h F s => by
 obtain ⟨ex, t1, H1, env1, new1, h1, ⟨hx, vs, r, q⟩, le1, s1, e1⟩ := w (envOf args 0 .e) [] h F (argL_le args) s
 obtain ⟨h2, k1, s2⟩ := killAll_dfs (H := H1 ++ F) (s1.perm (List.perm_append_comm_assoc _ _ _))
 refine ⟨_, h2, H1, q, s2, Ev.succ (e1.diag.mono fun n e => ?_)⟩
 simp only [run, hT, callFn, hn, e, List.append_nil]
 have hl : leave B fi.res env1 new1 h1 = .val (tupOf vs) h2 := by
  simp only [leave, k1, r.results le1 s2]
 cases ex with
 | normal => exact hl
 | jump j => cases j with
  | ret => exact hl
  | exit _ => exact hx.elim
theorem WF.mono {f : AFn} {args : List AV} {H : HL} {Q Q' : AV → HL → Prop} (w : WF B T f args H Q) (k : ∀ v H, Q v H → Q' v H) : WF B T f args H Q' := fun h F s => by
 obtain ⟨v, h', H', q, r⟩ := w h F s
 exact ⟨v, h', H', k _ _ q, r⟩
theorem WF.frame {f : AFn} {args : List AV} {H R : HL} {Q : AV → HL → Prop} (w : WF B T f args H Q) : WF B T f args (H ++ R) fun v H' => ∃ H2, Q v H2 ∧ H' = H2 ++ R := fun h F s => by
 obtain ⟨v, h', H', q, s', e⟩ := w h (R ++ F) (by simpa using s)
 exact ⟨v, h', H' ++ R, ⟨H', q, rfl⟩, by simpa using s', e⟩
end logic
end Go.Proofs.Ytdcbglljljfleaa.Abs
