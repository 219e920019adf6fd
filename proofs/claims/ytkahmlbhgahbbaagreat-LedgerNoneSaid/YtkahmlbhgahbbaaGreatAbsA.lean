/- A deterministic evaluator over compiled Go code: values, a heap of named objects, operations, code. No proof in this text. -/
import GoSem.Step
set_option linter.unusedSimpArgs false
set_option linter.unusedVariables false
set_option linter.unusedSectionVars false
set_option linter.constructorNameAsVariable false
namespace Go.Proofs.YtkahmlbhgahbbaaGreat.Abs

/-- A map from numbers: by the binary digits of the key. -/
inductive Tr (α : Type) where
  | e : Tr α
  | n (v : Option α) (l r : Tr α) : Tr α

namespace Tr
variable {α : Type}
def get : Tr α → Nat → Option α
  | .e, _ => none
  | .n v _ _, 0 => v
  | .n _ l r, k + 1 => match Nat.beq (k % 2) 0 with
    | true => l.get (k / 2)
    | false => r.get (k / 2)
def single : Nat → Nat → α → Tr α
  | 0, _, _ => .e
  | _ + 1, 0, a => .n (some a) .e .e
  | f + 1, k + 1, a => match Nat.beq (k % 2) 0 with
    | true => .n none (single f (k / 2) a) .e
    | false => .n none .e (single f (k / 2) a)
/-- A node whose left part is looked at first. -/
def nl (v : Option α) (x r : Tr α) : Tr α :=
  match x with
  | .e => .n v .e r
  | .n v' l' r' => .n v (.n v' l' r') r
def nr (v : Option α) (l x : Tr α) : Tr α :=
  match x with
  | .e => .n v l .e
  | .n v' l' r' => .n v l (.n v' l' r')
def set : Tr α → Nat → α → Tr α
  | .e, k, a => single (k + 1) k a
  | .n _ l r, 0, a => .n (some a) l r
  | .n v l r, k + 1, a => match Nat.beq (k % 2) 0 with
    | true => nl v (l.set (k / 2) a) r
    | false => nr v l (r.set (k / 2) a)
end Tr

structure AA where
  ro : Bool
  id : Nat
  off : Nat
  deriving DecidableEq

inductive AFn where
  | func (f : Nat)
  | yield (l : Nat)
  deriving DecidableEq

inductive AV where
  | bool (b : Bool)
  | int (k : IntKind) (n : Int)
  | str (s : List Nat)
  | ptr (a : AA)
  | nilp
  | sl (a : AA) (len esz : Nat)
  | nilsl
  | map (id : Nat)
  | nilmap
  | fn (f : AFn) (first captured : List AV)
  | nilfn
  | iface (t : Nat) (v : AV)
  | nilif
  | agg (cs : List AV)
  | tup (vs : List AV)
  | opq (i : Nat)

instance : Inhabited AV := ⟨.nilp⟩

def AV.undef : AV := .tup []
def AV.cells : AV → List AV
  | .agg cs => cs
  | v => [v]
def AV.isCell : AV → Bool
  | .agg _ | .tup _ => false
  | _ => true
def allCell : List AV → Bool
  | [] => true
  | v :: r => match v.isCell with
    | true => allCell r
    | false => false

mutual
def AV.beq : AV → AV → Bool
  | .bool a, .bool b => a == b
  | .int k a, .int l b => decide (k = l) && decide (a = b)
  | .str a, .str b => decide (a = b)
  | .ptr a, .ptr b => decide (a = b)
  | .nilp, .nilp => true
  | .sl a n e, .sl b m f => decide (a = b) && decide (n = m) && decide (e = f)
  | .nilsl, .nilsl => true
  | .map a, .map b => decide (a = b)
  | .nilmap, .nilmap => true
  | .fn f a b, .fn g c d => decide (f = g) && beqs a c && beqs b d
  | .nilfn, .nilfn => true
  | .iface t a, .iface u b => decide (t = u) && a.beq b
  | .nilif, .nilif => true
  | .agg a, .agg b => beqs a b
  | .tup a, .tup b => beqs a b
  | .opq a, .opq b => decide (a = b)
  | _, _ => false
termination_by structural a => a
def beqs : List AV → List AV → Bool
  | [], [] => true
  | a :: as, b :: bs => a.beq b && beqs as bs
  | _, _ => false
termination_by structural a => a
end

/-- An operand. -/
inductive AO where
  | t (n : Nat)
  | c (v : AV)

/-- How two values of a type are compared. -/
inductive EqP where
  | bool | int | str | ptr | sl | map | fn
  | str0 (fs : List (Nat × Nat × Bool)) (ps : List EqP)
  | arr (len esz : Nat) (agg : Bool) (p : EqP)

/-- What a map's keys are. -/
inductive KK where
  | int | str | bool
  deriving DecidableEq

/-- Functions of the library without a body. -/
inductive XK where
  | idxByte
  | addI64
  | valueOf (ts : List Nat)
  | rvLen (ts : List Nat)
  | swapper (f1 f2 : Nat) (ts : List Nat)
  deriving DecidableEq

/-- The name of the types' handles among what is only read. -/
def handleRow : Nat := 999999
def memN : Nat → List Nat → Bool
  | _, [] => false
  | t, x :: r => match Nat.beq t x with
    | true => true
    | false => memN t r

inductive AOp where
  | mov (x : AO)
  | pick (c a b : AO)
  | alloc (z : List AV)
  | box (x : AO)
  | build (z : List AV) (ps : List (Nat × Nat × AO))
  | buildSl (esz len : Nat) (z : List AV) (ps : List (Nat × Nat × AO))
  | load (agg : Bool) (n : Nat) (x : AO)
  | store (n : Nat) (a v : AO)
  | nilchk (x : AO)
  | bin (op : BinOp) (x y : AO)
  | eq (neg : Bool) (p : EqP) (x y : AO)
  | un (op : UnOp) (x : AO)
  | cvInt (k : IntKind) (x : AO)
  | cvStr (x : AO)
  | cvBytes (x : AO)
  | field (agg : Bool) (off n : Nat) (x : AO)
  | faddr (off : Nat) (x : AO)
  | idxV (len esz : Nat) (agg : Bool) (x i : AO)
  | idxStr (x i : AO)
  | idxA (len esz : Nat) (x i : AO)
  | idxS (esz : Nat) (x i : AO)
  | slS (esz : Nat) (x : AO) (lo hi mx : Option AO)
  | slStr (x : AO) (lo hi : Option AO)
  | slA (n esz : Nat) (x : AO) (lo hi mx : Option AO)
  | lookup (ok : Bool) (kk : KK) (z : AV) (m k : AO)
  | mapup (kk : KK) (m k v : AO)
  | mkmap
  | mksl (esz bytes : Nat) (z : List AV) (l c : AO)
  | mkfn (f : Nat) (first captured : List AO)
  | extract (x : AO) (i : Nat)
  | mkif (t : Nat) (x : AO)
  | append (esz bytes : Nat) (s x : AO)
  | copy (esz : Nat) (d s : AO)
  | delete (kk : KK) (m k : AO)
  | len (isStr : Bool) (x : AO)
  | lenMap (x : AO)
  | mm (isMax : Bool) (x : AO) (r : List AO)
  | call (f : Nat) (args : List AO)
  | callv (f : AO) (args : List AO)
  | ext (k : XK) (args : List AO)
  | range (x : AO)
  | next (x : AO)
  | entry (x : AO)
  | fail

/-- What kind of effect an operation has. -/
inductive DK where
  | quiet | load | loud
  deriving DecidableEq

def AOp.kind : AOp → DK
  | .load .. | .cvStr _ | .lookup .. | .lenMap _ | .slA .. => .load
  | .store .. | .mapup .. | .append .. | .copy .. | .delete .. | .call .. | .callv .. | .ext .. | .range _ | .next _ | .entry _ | .fail => .loud
  | _ => .quiet

structure AOper where
  dst : Option Nat
  op : AOp
  guard : Option (Nat × Bool)

/-- An operation of a region whose order is open: its place in the text; bs: what must have come ahead of it, as bits. -/
structure DOper where
  o : AOper
  k : DK
  i : Nat
  bs : Nat

def AO.tm : AO → List Nat
  | .t n => [n]
  | .c _ => []
def aoL : List AO → List Nat
  | [] => []
  | x :: r => x.tm ++ aoL r
def aoO : Option AO → List Nat
  | none => []
  | some x => x.tm
def aoP : List (Nat × Nat × AO) → List Nat
  | [] => []
  | (_, _, x) :: r => x.tm ++ aoP r

/-- The temporaries that an operation reads. -/
def AOp.tmps : AOp → List Nat
  | .mov x | .box x | .load _ _ x | .nilchk x | .un _ x | .cvInt _ x | .cvStr x | .cvBytes x | .field _ _ _ x | .faddr _ x | .extract x _ | .mkif _ x | .len _ x | .lenMap x | .range x | .next x | .entry x => x.tm
  | .pick c a b => c.tm ++ (a.tm ++ b.tm)
  | .alloc _ | .mkmap | .fail => []
  | .build _ ps | .buildSl _ _ _ ps => aoP ps
  | .store _ a v => a.tm ++ v.tm
  | .bin _ x y | .eq _ _ x y | .idxV _ _ _ x y | .idxStr x y | .idxA _ _ x y | .idxS _ x y | .lookup _ _ _ x y | .mksl _ _ _ x y | .append _ _ x y | .copy _ x y | .delete _ x y => x.tm ++ y.tm
  | .slS _ x lo hi mx | .slA _ _ x lo hi mx => x.tm ++ (aoO lo ++ (aoO hi ++ aoO mx))
  | .slStr x lo hi => x.tm ++ (aoO lo ++ aoO hi)
  | .mapup _ m k v => m.tm ++ (k.tm ++ v.tm)
  | .mkfn _ a b => aoL a ++ aoL b
  | .mm _ x r => x.tm ++ aoL r
  | .call _ args | .ext _ args => aoL args
  | .callv f args => f.tm ++ aoL args

inductive AJump where
  | exit (id : Nat)
  | ret
  deriving DecidableEq

inductive AC where
  | skip
  | reg (ops : List AOper)
  | dreg (ops : List DOper)
  | dreg2 (pre : List DOper) (t esz : Nat) (x i : AO) (n1 : Nat) (v1 : AO) (n2 : Nat) (a2 v2 : AO)
  | seq (a b : AC)
  | cond (c : AO) (t e : AC)
  | block (id : Nat) (b : AC)
  | loop (b : AC)
  | exit (id : Nat)
  | ret
  | rangef (f : AO) (ps : List Nat) (asg body : AC)
  | scope (b : AC)
  | dfr (pre : List AOper) (x : AO) (g : Nat)
  | fail

inductive ARes where
  | tmp (t : Nat)
  | cell (t : Nat) (agg : Bool) (n : Nat)

structure FnI where
  nt : Nat
  res : List ARes
  code : AC

inductive AObj where
  | row (cs : List AV)
  | map (es : List (AV × AV × Nat)) (clock : Nat)
  | loop (st : LoopState) (pend : Option AJump) (env : Tr AV) (nt : Nat) (ps : List Nat) (asg body : AC) (d : Nat)
  | iter (m : Option Nat) (since : Nat) (seen : List Nat) (last : Nat)
  | defd
  | dead

structure AH where
  t : Tr AObj
  next : Nat

/-- A value and a heap; or nothing. -/
inductive VO where
  | bad
  | val (v : AV) (h : AH)

inductive EO where
  | bad
  | ok (env : Tr AV) (h : AH)

inductive AExit where
  | normal
  | jump (j : AJump)

inductive Out where
  | bad
  | out (ex : AExit) (env : Tr AV) (ds : List Nat) (h : AH)

/-- The list's spine is written out before it goes on. -/
def forceL {α β : Type} : List α → (List α → β) → β
  | [], c => c []
  | a :: l, c => forceL l fun l' => c (a :: l')

def forceV {β : Type} (v : AV) (c : AV → β) : β :=
  match v with
  | .int k n => match n with
    | .ofNat m => match m with
      | 0 => c (.int k (.ofNat 0))
      | m' + 1 => c (.int k (.ofNat (m' + 1)))
    | .negSucc m => match m with
      | 0 => c (.int k (.negSucc 0))
      | m' + 1 => c (.int k (.negSucc (m' + 1)))
  | .bool b => match b with
    | true => c (.bool true)
    | false => c (.bool false)
  | .str s => forceL s fun s' => c (.str s')
  | v => c v

def AH.new (h : AH) (o : AObj) : AH := ⟨h.t.set h.next o, h.next + 1⟩
def AH.put (h : AH) (id : Nat) (o : AObj) : AH := ⟨h.t.set id o, h.next⟩
def AH.get (h : AH) (id : Nat) : Option AObj := h.t.get id

def rd (env : Tr AV) : AO → Option AV
  | .t n => env.get n
  | .c v => some v
def rds (env : Tr AV) : List AO → Option (List AV)
  | [] => some []
  | x :: r => match rd env x with
    | none => none
    | some v => match rds env r with
      | none => none
      | some l => some (v :: l)
def rdo (env : Tr AV) : Option AO → Option (Option AV)
  | none => some none
  | some x => match rd env x with
    | none => none
    | some v => some (some v)

def takeN {α : Type} : List α → Nat → Option (List α)
  | _, 0 => some []
  | [], _ + 1 => none
  | x :: r, n + 1 => match takeN r n with
    | none => none
    | some l => some (x :: l)

def putAt {α : Type} (cs : List α) (off : Nat) (vs : List α) : Option (List α) :=
  match Nat.ble (off + vs.length) cs.length with
  | true => some (cs.take off ++ (vs ++ cs.drop (off + vs.length)))
  | false => none

section ops
variable (B : Nat → List AV)

def rowAt (h : AH) (a : AA) : Option (List AV) :=
  match a.ro with
  | true => some (B a.id)
  | false => match h.get a.id with
    | some (.row cs) => some cs
    | _ => none

def ldCells (h : AH) (a : AA) (n : Nat) : Option (List AV) :=
  match rowAt B h a with
  | some cs => takeN (cs.drop a.off) n
  | none => none

def one (agg : Bool) (l : List AV) : Option AV :=
  match agg with
  | true => some (.agg l)
  | false => match l with
    | [x] => some x
    | _ => none

def ldVar (agg : Bool) (n : Nat) (v : AV) (h : AH) : Option AV :=
  match v with
  | .ptr a => match ldCells B h a n with
    | some l => one agg l
    | none => none
  | _ => none

def newRow (h : AH) (cs : List AV) (k : Nat → AV) : VO :=
  match allCell cs with
  | true => forceL cs fun cs => .val (k h.next) (h.new (.row cs))
  | false => .bad

def aStore (n : Nat) (a v : AV) (h : AH) : VO :=
  match a with
  | .ptr p => match p.ro with
    | true => .bad
    | false => match h.get p.id with
      | some (.row cs) => match Nat.beq v.cells.length n with
        | false => .bad
        | true => match allCell v.cells with
          | false => .bad
          | true => match putAt cs p.off v.cells with
            | none => .bad
            | some cs' => forceL cs' fun cs' => .val .undef (h.put p.id (.row cs'))
      | _ => .bad
  | _ => .bad

/-- The parts of a literal laid over its zero value. -/
def fillP (env : Tr AV) (cs : List AV) : List (Nat × Nat × AO) → Option (List AV)
  | [] => some cs
  | (off, n, x) :: r => match rd env x with
    | none => none
    | some v => match Nat.beq v.cells.length n with
      | false => none
      | true => match putAt cs off v.cells with
        | none => none
        | some cs' => fillP env cs' r

def strLess : List Nat → List Nat → Bool
  | _, [] => false
  | [], _ :: _ => true
  | a :: x, b :: y => Nat.blt a b || (Nat.beq a b && strLess x y)

def strEq : List Nat → List Nat → Bool
  | [], [] => true
  | a :: x, b :: y => match Nat.beq a b with
    | true => strEq x y
    | false => false
  | _, _ => false

def aBin (op : BinOp) (x y : AV) : Option AV :=
  match x, y with
  | .int k a, .int k' b =>
    match op with
    | .shl => if b < 0 then none else some (.int k (k.wrap (a * 2 ^ min b.toNat k.bits)))
    | .shr => if b < 0 then none else some (.int k (a.fdiv (2 ^ min b.toNat k.bits)))
    | op =>
      if k = k' then
        match op with
        | .add => some (.int k (k.wrap (a + b)))
        | .sub => some (.int k (k.wrap (a - b)))
        | .mul => some (.int k (k.wrap (a * b)))
        | .quo => if b = 0 then none else some (.int k (k.wrap (a.tdiv b)))
        | .rem => if b = 0 then none else some (.int k (a.tmod b))
        | .and => some (.int k (k.wrap (BitVec.ofInt k.bits a &&& BitVec.ofInt k.bits b).toNat))
        | .or => some (.int k (k.wrap (BitVec.ofInt k.bits a ||| BitVec.ofInt k.bits b).toNat))
        | .xor => some (.int k (k.wrap (BitVec.ofInt k.bits a ^^^ BitVec.ofInt k.bits b).toNat))
        | .andNot => some (.int k (k.wrap (BitVec.ofInt k.bits a &&& ~~~(BitVec.ofInt k.bits b)).toNat))
        | .eql => some (.bool (a == b))
        | .neq => some (.bool (a != b))
        | .lss => some (.bool (a < b))
        | .leq => some (.bool (a ≤ b))
        | .gtr => some (.bool (a > b))
        | .geq => some (.bool (a ≥ b))
        | _ => none
      else none
  | .str a, .str b =>
    match op with
    | .add => if a.length + b.length ≤ 4611686018427387904 then some (.str (a ++ b)) else none
    | .eql => some (.bool (strEq a b))
    | .neq => some (.bool (!strEq a b))
    | .lss => some (.bool (strLess a b))
    | .leq => some (.bool (strLess a b || strEq a b))
    | .gtr => some (.bool (!(strLess a b || strEq a b)))
    | .geq => some (.bool (!strLess a b))
    | _ => none
  | _, _ => none

def partOf (agg : Bool) (off n : Nat) (cs : List AV) : Option AV :=
  match agg with
  | true => match takeN (cs.drop off) n with
    | some l => some (.agg l)
    | none => none
  | false => cs[off]?

def eqBool : AV → AV → Option Bool
  | .bool a, .bool b => some (a == b)
  | _, _ => none
def eqInt : AV → AV → Option Bool
  | .int k a, .int l b => if k = l then some (a == b) else none
  | _, _ => none
def eqStr : AV → AV → Option Bool
  | .str a, .str b => some (strEq a b)
  | _, _ => none
def eqPtr : AV → AV → Option Bool
  | .nilp, .nilp => some true
  | .nilp, .ptr _ => some false
  | .ptr _, .nilp => some false
  | .ptr a, .ptr b => match a.ro with
    | true => none
    | false => match b.ro with
      | true => none
      | false => if a.id = b.id then some (a.off == b.off) else none
  | _, _ => none
def eqSl : AV → AV → Option Bool
  | .nilsl, .nilsl => some true
  | .nilsl, .sl .. => some false
  | .sl .., .nilsl => some false
  | _, _ => none
def eqMap : AV → AV → Option Bool
  | .nilmap, .nilmap => some true
  | .nilmap, .map _ => some false
  | .map _, .nilmap => some false
  | _, _ => none
def eqFn : AV → AV → Option Bool
  | .nilfn, .nilfn => some true
  | .nilfn, .fn .. => some false
  | .fn .., .nilfn => some false
  | _, _ => none
def two : AV → AV → Option (List AV × List AV)
  | .agg x, .agg y => some (x, y)
  | _, _ => none

/-- The elements, one behind the other. -/
def eqArr (f : AV → AV → Option Bool) (esz : Nat) (agg : Bool) : Nat → Nat → List AV → List AV → Option Bool
  | 0, _, _, _ => some true
  | len + 1, i, x, y =>
    match partOf agg (i * esz) esz x, partOf agg (i * esz) esz y with
    | some a, some b => match f a b with
      | some true => eqArr f esz agg len (i + 1) x y
      | r => r
    | _, _ => none

mutual
def aEq : EqP → AV → AV → Option Bool
  | .bool, x, y => eqBool x y
  | .int, x, y => eqInt x y
  | .str, x, y => eqStr x y
  | .ptr, x, y => eqPtr x y
  | .sl, x, y => eqSl x y
  | .map, x, y => eqMap x y
  | .fn, x, y => eqFn x y
  | .str0 fs ps, x, y => match two x y with
    | some (x, y) => aEqs ps fs x y
    | none => none
  | .arr len esz agg p, x, y => match two x y with
    | some (x, y) => eqArr (aEq p) esz agg len 0 x y
    | none => none
termination_by structural p => p
def aEqs : List EqP → List (Nat × Nat × Bool) → List AV → List AV → Option Bool
  | [], [], _, _ => some true
  | p :: ps, (off, n, agg) :: fs, x, y =>
    match partOf agg off n x, partOf agg off n y with
    | some a, some b => match aEq p a b with
      | some true => aEqs ps fs x y
      | r => r
    | _, _ => none
  | _, _, _, _ => none
termination_by structural ps => ps
end

def aUn (op : UnOp) (x : AV) : Option AV :=
  match op, x with
  | .not, .bool b => some (.bool !b)
  | .neg, .int k n => some (.int k (k.wrap (0 - n)))
  | .xor, .int k n => some (.int k (k.wrap (BitVec.ofInt k.bits (if k.signed then -1 else k.max) ^^^ BitVec.ofInt k.bits n).toNat))
  | _, _ => none

/-- Cells that are bytes, as a text. -/
def bytesOf : List AV → Option (List Nat)
  | [] => some []
  | .int .u8 n :: r => match n with
    | .ofNat m => match Nat.blt m 256 with
      | true => match bytesOf r with
        | some l => some (m :: l)
        | none => none
      | false => none
    | _ => none
  | _ => none
def cellsOfStr : List Nat → List AV
  | [] => []
  | b :: r => .int .u8 (.ofNat b) :: cellsOfStr r

/-- An index within a length. -/
def asIdx (v : AV) (n : Nat) : Option Nat :=
  match v with
  | .int _ i => match i with
    | .ofNat m => match Nat.blt m n with
      | true => some m
      | false => none
    | _ => none
  | _ => none
/-- A bound up to a length. -/
def asBound (v : AV) (n : Nat) : Option Nat :=
  match v with
  | .int _ i => match i with
    | .ofNat m => match Nat.ble m n with
      | true => some m
      | false => none
    | _ => none
  | _ => none

/-- low, high, max of a slice expression over n elements. -/
def bounds (n : Nat) (lo hi mx : Option AV) : Option (Nat × Nat × Nat) :=
  match (match mx with | some v => asBound v n | none => some n) with
  | none => none
  | some m => match (match hi, mx with | some v, _ => asBound v m | none, none => some n | none, some _ => none) with
    | none => none
    | some h => match (match lo with | some v => asBound v h | none => some 0) with
      | none => none
      | some l => some (l, h, m)

def keq : KK → AV → AV → Option Bool
  | .int, .int k a, .int l b => if k = l then some (a == b) else none
  | .str, .str a, .str b => some (strEq a b)
  | .bool, .bool a, .bool b => some (a == b)
  | _, _, _ => none
/-- May a value be a key? -/
def keyIs : KK → AV → Bool
  | .int, .int _ _ => true
  | .str, .str _ => true
  | .bool, .bool _ => true
  | _, _ => false

/-- The entry of a key: its place and its value. -/
def findK (kk : KK) (k : AV) : List (AV × AV × Nat) → Nat → Option (Option (Nat × AV))
  | [], _ => match keyIs kk k with
    | true => some none
    | false => none
  | (k', v, _) :: r, i => match keq kk k k' with
    | none => none
    | some true => some (some (i, v))
    | some false => findK kk k r (i + 1)

def setVal (k v : AV) : List (AV × AV × Nat) → Nat → List (AV × AV × Nat)
  | [], _ => []
  | (_, _, b) :: r, 0 => (k, v, b) :: r
  | e :: r, i + 1 => e :: setVal k v r i

def eraseAt {α : Type} : List α → Nat → List α
  | [], _ => []
  | _ :: r, 0 => r
  | e :: r, i + 1 => e :: eraseAt r i

/-- How many elements are handed to append, and their cells. -/
def srcOf (h : AH) (esz : Nat) (x : AV) : Option (Nat × List AV) :=
  match x with
  | .nilsl => some (0, [])
  | .sl a len e => match Nat.beq e esz with
    | false => none
    | true => match ldCells B h a (len * esz) with
      | some cs => some (len, cs)
      | none => match len with
        | 0 => some (0, [])
        | _ + 1 => none
  | .str s => match Nat.beq esz 1 with
    | false => none
    | true => some (s.length, cellsOfStr s)
  | _ => none

def roomOk (n bytes : Nat) : Bool := Nat.ble (n * bytes) 140737488355328

def aAppend (esz bytes : Nat) (s x : AV) (h : AH) : VO :=
  match srcOf B h esz x with
  | none => .bad
  | some (n, xs) =>
    match n with
    | 0 => match s with
      | .nilsl => .val s h
      | .sl _ _ _ => .val s h
      | _ => .bad
    | n + 1 => match s with
      | .nilsl => match roomOk (n + 1) bytes with
        | false => .bad
        | true => newRow h xs fun id => .sl ⟨false, id, 0⟩ (n + 1) esz
      | .sl a len e => match Nat.beq e esz with
        | false => .bad
        | true => match roomOk (len + (n + 1)) bytes with
          | false => .bad
          | true => match a.ro with
            | true => .bad
            | false => match h.get a.id with
              | some (.row cs) => match Nat.beq (a.off + len * esz) cs.length with
                | false => .bad
                | true => newRow (h.put a.id .dead) (cs.drop a.off ++ xs) fun id => .sl ⟨false, id, 0⟩ (len + (n + 1)) esz
              | _ => .bad
      | _ => .bad

def lenSrc (isStr : Bool) (v : AV) : Option Nat :=
  match isStr with
  | true => match v with
    | .str s => some s.length
    | _ => none
  | false => match v with
    | .sl _ n _ => some n
    | .nilsl => some 0
    | _ => none

def aCopy (esz : Nat) (d s : AV) (h : AH) : VO :=
  match srcOf B h esz s with
  | none => .bad
  | some (sn, cs) => match d with
    | .nilsl => .val (.int .i64 0) h
    | .sl a dn e => match Nat.beq e esz with
      | false => .bad
      | true => match Nat.min sn dn with
        | 0 => .val (.int .i64 0) h
        | m + 1 => match a.ro with
          | true => .bad
          | false => match h.get a.id with
            | some (.row ds) => match putAt ds a.off (cs.take ((m + 1) * esz)) with
              | none => .bad
              | some ds' => forceL ds' fun ds' => .val (.int .i64 (.ofNat (m + 1))) (h.put a.id (.row ds'))
            | _ => .bad
    | _ => .bad

def aMax (isMax : Bool) : AV → List AV → Option AV
  | x, [] => some x
  | .int k x, .int l y :: r => match isMax with
    | true => if k = l then aMax isMax (.int k (if y > x then y else x)) r else none
    | false => if k = l then aMax isMax (.int k (if y < x then y else x)) r else none
  | _, _ => none

def mapOf (h : AH) (m : AV) : Option (List (AV × AV × Nat)) :=
  match m with
  | .nilmap => some []
  | .map id => match h.get id with
    | some (.map es _) => some es
    | _ => none
  | _ => none

/-! A range over a map, where no more than one entry can come next. -/
def leftOf (seen : List Nat) : List (AV × AV × Nat) → List (AV × AV × Nat)
  | [] => []
  | (k, v, b) :: r => match memN b seen with
    | true => leftOf seen r
    | false => (k, v, b) :: leftOf seen r
def allFrom (last : Nat) : List (AV × AV × Nat) → Bool
  | [] => true
  | (_, _, b) :: r => match Nat.ble last b with
    | true => allFrom last r
    | false => false
/-- Are all that the last step saw gone, and others there? -/
def allGone (es : List (AV × AV × Nat)) (seen : List Nat) (last : Nat) : Bool :=
  match seen with
  | [] => false
  | _ :: _ => match es with
    | [] => false
    | _ :: _ => allFrom last es
def lastOf : List Nat → Option Nat
  | [] => none
  | [x] => some x
  | _ :: r => lastOf r
def bornAt (b : Nat) : List (AV × AV × Nat) → Option (AV × AV)
  | [] => none
  | (k, v, b') :: r => match Nat.beq b' b with
    | true => some (k, v)
    | false => bornAt b r
def aRange (x : AV) (h : AH) : VO :=
  match x with
  | .nilmap => .val (.ptr ⟨false, h.next, 0⟩) (h.new (.iter none 0 [] 0))
  | .map id => match h.get id with
    | some (.map _ clock) => .val (.ptr ⟨false, h.next, 0⟩) (h.new (.iter (some id) clock [] clock))
    | _ => .bad
  | _ => .bad
def aNext (x : AV) (h : AH) : VO :=
  match x with
  | .ptr ⟨false, it, 0⟩ => match h.get it with
    | some (.iter m since seen last) => match m with
      | none => .val (.tup [.bool false]) h
      | some id => match h.get id with
        | some (.map es clock) => match allGone es seen last with
          | true => .bad
          | false => match leftOf seen es with
            | [] => .val (.tup [.bool false]) h
            | [(k, v, b)] => match Nat.blt b since with
              | true => .val (.tup [.bool true, k, v]) (h.put it (.iter (some id) since (seen ++ [b]) clock))
              | false => .bad
            | _ => .bad
        | _ => .bad
    | _ => .bad
  | _ => .bad
def aEntry (x : AV) (h : AH) : VO :=
  match x with
  | .ptr ⟨false, it, 0⟩ => match h.get it with
    | some (.iter (some id) _ seen last) => match lastOf seen with
      | some stamp => match h.get id with
        | some (.map es clock) => match Nat.beq clock last with
          | true => match bornAt stamp es with
            | some (k, v) => .val (.tup [k, v]) h
            | none => .bad
          | false => .bad
        | _ => .bad
      | none => .bad
    | _ => .bad
  | _ => .bad

def pure1 (h : AH) : Option AV → VO
  | some v => .val v h
  | none => .bad

/-- Where a byte stands first. -/
def idxB : List Nat → Nat → Option Nat
  | [], _ => none
  | x :: r, b => match Nat.beq x b with
    | true => some 0
    | false => match idxB r b with
      | some i => some (i + 1)
      | none => none

def aExt (k : XK) (vs : List AV) (h : AH) : VO :=
  match k with
  | .addI64 => match vs with
    | [p, d] => match ldVar B false 1 p h with
      | some (.int .i64 x) => match d with
        | .int .i64 y => match aStore 1 p (.int .i64 (IntKind.i64.wrap (x + y))) h with
          | .val _ h' => .val (.int .i64 (IntKind.i64.wrap (x + y))) h'
          | .bad => .bad
        | _ => .bad
      | _ => .bad
    | _ => .bad
  | .idxByte => match vs with
    | [.str s, .int .u8 n] => match n with
      | .ofNat b => match Nat.blt b 256 with
        | true => match idxB s b with
          | some i => .val (.int .i64 (.ofNat i)) h
          | none => .val (.int .i64 (.negSucc 0)) h
        | false => .bad
      | _ => .bad
    | _ => .bad
  | .valueOf ts => match vs with
    | [.iface t v] => match memN t ts with
      | true => match v with
        | .nilsl => newRow h [v] fun id => .agg [.ptr ⟨true, handleRow, t⟩, .ptr ⟨false, id, 0⟩, .int .u64 (.ofNat 151)]
        | .sl _ _ _ => newRow h [v] fun id => .agg [.ptr ⟨true, handleRow, t⟩, .ptr ⟨false, id, 0⟩, .int .u64 (.ofNat 151)]
        | _ => .bad
      | false => .bad
    | _ => .bad
  | .rvLen ts => match vs with
    | [.agg [.ptr a, .ptr b, .int .u64 n]] => match a.ro && (Nat.beq a.id handleRow && (memN a.off ts && decide (n = .ofNat 151))) with
      | true => match ldCells B h b 1 with
        | some [.nilsl] => .val (.int .i64 (.ofNat 0)) h
        | some [.sl _ m _] => .val (.int .i64 (.ofNat m)) h
        | _ => .bad
      | false => .bad
    | _ => .bad
  | .swapper f1 f2 ts => match vs with
    | [.iface t v] => match memN t ts with
      | true => match v with
        | .nilsl => .val (.fn (.func f1) [] []) h
        | .sl _ n _ => match n with
          | 0 => .val (.fn (.func f1) [] []) h
          | n + 1 => match n with
            | 0 => .val (.fn (.func f2) [] []) h
            | _ + 1 => .bad
        | _ => .bad
      | false => .bad
    | _ => .bad

/-- Every operation but a call. -/
def aop (op : AOp) (env : Tr AV) (h : AH) : VO :=
  match op with
  | .mov x => pure1 h (rd env x)
  | .pick c a b => match rd env c with
    | some (.bool true) => pure1 h (rd env a)
    | some (.bool false) => pure1 h (rd env b)
    | _ => .bad
  | .alloc z => newRow h z fun id => .ptr ⟨false, id, 0⟩
  | .box x => match rd env x with
    | some v => newRow h v.cells fun id => .ptr ⟨false, id, 0⟩
    | none => .bad
  | .build z ps => match fillP env z ps with
    | some cs => forceL cs fun cs => .val (.agg cs) h
    | none => .bad
  | .buildSl esz len z ps => match fillP env z ps with
    | some cs => newRow h cs fun id => .sl ⟨false, id, 0⟩ len esz
    | none => .bad
  | .load agg n x => match rd env x with
    | some v => pure1 h (ldVar B agg n v h)
    | none => .bad
  | .store n a v => match rd env a with
    | some p => match rd env v with
      | some v => aStore n p v h
      | none => .bad
    | none => .bad
  | .nilchk x => match rd env x with
    | some (.ptr a) => .val (.ptr a) h
    | some (.fn f a b) => .val (.fn f a b) h
    | _ => .bad
  | .bin op x y => match rd env x with
    | some a => match rd env y with
      | some b => pure1 h (aBin op a b)
      | none => .bad
    | none => .bad
  | .eq neg p x y => match rd env x with
    | some a => match rd env y with
      | some b => match aEq p a b with
        | some r => match neg with
          | true => .val (.bool !r) h
          | false => .val (.bool r) h
        | none => .bad
      | none => .bad
    | none => .bad
  | .un op x => match rd env x with
    | some a => pure1 h (aUn op a)
    | none => .bad
  | .cvInt k x => match rd env x with
    | some (.int _ n) => .val (.int k (k.wrap n)) h
    | _ => .bad
  | .cvStr x => match rd env x with
    | some .nilsl => .val (.str []) h
    | some (.sl a len e) => match Nat.beq e 1 with
      | false => .bad
      | true => match len with
        | 0 => .val (.str []) h
        | len + 1 => match ldCells B h a (len + 1) with
          | some cs => match bytesOf cs with
            | some s => .val (.str s) h
            | none => .bad
          | none => .bad
    | _ => .bad
  | .cvBytes x => match rd env x with
    | some (.str s) => newRow h (cellsOfStr s) fun id => .sl ⟨false, id, 0⟩ s.length 1
    | _ => .bad
  | .field agg off n x => match rd env x with
    | some (.agg cs) => pure1 h (partOf agg off n cs)
    | _ => .bad
  | .faddr off x => match rd env x with
    | some (.ptr a) => .val (.ptr ⟨a.ro, a.id, a.off + off⟩) h
    | _ => .bad
  | .idxV len esz agg x i => match rd env x with
    | some (.agg cs) => match rd env i with
      | some i => match asIdx i len with
        | some m => pure1 h (partOf agg (m * esz) esz cs)
        | none => .bad
      | none => .bad
    | _ => .bad
  | .idxStr x i => match rd env x with
    | some (.str s) => match rd env i with
      | some i => match asIdx i s.length with
        | some m => match s[m]? with
          | some b => .val (.int .u8 (.ofNat b)) h
          | none => .bad
        | none => .bad
      | none => .bad
    | _ => .bad
  | .idxA len esz x i => match rd env x with
    | some (.ptr a) => match rd env i with
      | some i => match asIdx i len with
        | some m => .val (.ptr ⟨a.ro, a.id, a.off + m * esz⟩) h
        | none => .bad
      | none => .bad
    | _ => .bad
  | .idxS esz x i => match rd env x with
    | some (.sl a len e) => match Nat.beq e esz with
      | false => .bad
      | true => match rd env i with
        | some i => match asIdx i len with
          | some m => .val (.ptr ⟨a.ro, a.id, a.off + m * esz⟩) h
          | none => .bad
        | none => .bad
    | _ => .bad
  | .slS esz x lo hi mx => match rd env x with
    | some v => match rdo env lo with
      | some lo => match rdo env hi with
        | some hi => match rdo env mx with
          | some mx => match v with
            | .sl a len e => match Nat.beq e esz with
              | false => .bad
              | true => match bounds len lo hi mx with
                | some (l, h', _) => .val (.sl ⟨a.ro, a.id, a.off + l * esz⟩ (h' - l) esz) h
                | none => .bad
            | .nilsl => match bounds 0 lo hi mx with
              | some _ => .val .nilsl h
              | none => .bad
            | _ => .bad
          | none => .bad
        | none => .bad
      | none => .bad
    | none => .bad
  | .slStr x lo hi => match rd env x with
    | some (.str s) => match rdo env lo with
      | some lo => match rdo env hi with
        | some hi => match bounds s.length lo hi none with
          | some (l, h', _) => .val (.str ((s.drop l).take (h' - l))) h
          | none => .bad
        | none => .bad
      | none => .bad
    | _ => .bad
  | .slA n esz x lo hi mx => match rd env x with
    | some (.ptr a) => match rdo env lo with
      | some lo => match rdo env hi with
        | some hi => match rdo env mx with
          | some mx => match bounds n lo hi mx with
            | some (l, h', _) => match rowAt B h a with
              | some cs => match Nat.ble (a.off + n * esz) cs.length with
                | true => .val (.sl ⟨a.ro, a.id, a.off + l * esz⟩ (h' - l) esz) h
                | false => .bad
              | none => .bad
            | none => .bad
          | none => .bad
        | none => .bad
      | none => .bad
    | _ => .bad
  | .lookup ok kk z m k => match rd env m with
    | some m => match rd env k with
      | some k => match mapOf h m with
        | some es => match findK kk k es 0 with
          | some (some (_, v)) => match ok with
            | true => .val (.tup [v, .bool true]) h
            | false => .val v h
          | some none => match ok with
            | true => .val (.tup [z, .bool false]) h
            | false => .val z h
          | none => .bad
        | none => .bad
      | none => .bad
    | none => .bad
  | .mapup kk m k v => match rd env m with
    | some (.map id) => match rd env k with
      | some k => match rd env v with
        | some v => match h.get id with
          | some (.map es clock) => match findK kk k es 0 with
            | some (some (i, _)) => forceL (setVal k v es i) fun es => .val .undef (h.put id (.map es clock))
            | some none => forceL (es ++ [(k, v, clock)]) fun es => .val .undef (h.put id (.map es (clock + 1)))
            | none => .bad
          | _ => .bad
        | none => .bad
      | none => .bad
    | _ => .bad
  | .mkmap => .val (.map h.next) (h.new (.map [] 0))
  | .mksl esz bytes z l c => match rd env l with
    | some l => match rd env c with
      | some (.int _ c) => match c with
        | .ofNat c => match asBound l c with
          | some l => match roomOk c bytes with
            | true => newRow h (List.replicate c z).flatten fun id => .sl ⟨false, id, 0⟩ l esz
            | false => .bad
          | none => .bad
        | _ => .bad
      | _ => .bad
    | none => .bad
  | .mkfn f first captured => match rds env first with
    | some a => match rds env captured with
      | some b => .val (.fn (.func f) a b) h
      | none => .bad
    | none => .bad
  | .extract x i => match rd env x with
    | some (.tup vs) => pure1 h vs[i]?
    | _ => .bad
  | .mkif t x => match rd env x with
    | some v => .val (.iface t v) h
    | none => .bad
  | .append esz bytes s x => match rd env s with
    | some s => match rd env x with
      | some x => aAppend B esz bytes s x h
      | none => .bad
    | none => .bad
  | .copy esz d s => match rd env d with
    | some d => match rd env s with
      | some s => aCopy B esz d s h
      | none => .bad
    | none => .bad
  | .delete kk m k => match rd env m with
    | some .nilmap => match rd env k with
      | some k => match keyIs kk k with
        | true => .val .undef h
        | false => .bad
      | none => .bad
    | some (.map id) => match rd env k with
      | some k => match h.get id with
        | some (.map es clock) => match findK kk k es 0 with
          | some (some (i, _)) => forceL (eraseAt es i) fun es => .val .undef (h.put id (.map es clock))
          | some none => .val .undef h
          | none => .bad
        | _ => .bad
      | none => .bad
    | _ => .bad
  | .len st x => match rd env x with
    | some v => match lenSrc st v with
      | some n => .val (.int .i64 (.ofNat n)) h
      | none => .bad
    | none => .bad
  | .lenMap x => match rd env x with
    | some m => match mapOf h m with
      | some es => .val (.int .i64 (.ofNat es.length)) h
      | none => .bad
    | none => .bad
  | .range x => match rd env x with
    | some v => aRange v h
    | none => .bad
  | .next x => match rd env x with
    | some v => aNext v h
    | none => .bad
  | .entry x => match rd env x with
    | some v => aEntry v h
    | none => .bad
  | .mm isMax x r => match rd env x with
    | some x => match rds env r with
      | some r => pure1 h (aMax isMax x r)
      | none => .bad
    | none => .bad
  | .call .. => .bad
  | .callv .. => .bad
  | .ext k args => match rds env args with
    | some vs => aExt B k vs h
    | none => .bad
  | .fail => .bad

/-- Calls: a function of the heap. -/
abbrev Caller := AFn → List AV → AH → VO

def evOp (call : Caller) (op : AOp) (env : Tr AV) (h : AH) : VO :=
  match op with
  | .call f args => match rds env args with
    | some vs => call (.func f) vs h
    | none => .bad
  | .callv f args => match rd env f with
    | some (.fn g first cap) => match rds env args with
      | some vs => match g with
        | .func _ => call g (first ++ (vs ++ cap)) h
        | .yield _ => match cap with
          | [] => call g (first ++ vs) h
          | _ => .bad
      | none => .bad
    | _ => .bad
  | op => aop B op env h

/-- Is an operation carried out? -/
def wanted (g : Option (Nat × Bool)) (env : Tr AV) : Option Bool :=
  match g with
  | none => some true
  | some (t, want) => match env.get t with
    | some (.bool b) => some (b == want)
    | some (.tup []) => some false
    | _ => none

def setD (env : Tr AV) (d : Option Nat) (v : AV) : Tr AV :=
  match d with
  | some t => env.set t v
  | none => env

def evOps (call : Caller) : List AOper → Tr AV → AH → EO
  | [], env, h => .ok env h
  | o :: os, env, h =>
    match wanted o.guard env with
    | none => .bad
    | some false => evOps call os (setD env o.dst .undef) h
    | some true =>
      match evOp B call o.op env h with
      | .bad => .bad
      | .val v h' => forceV v fun v => evOps call os (setD env o.dst v) h'

/-- Does a load read the same at the heaps at which it may come? -/
def sameAt (op : AOp) (env : Tr AV) (v : AV) (bs : Nat) : List (Nat × AH) → Bool
  | [] => true
  | (j, h) :: hs => match aop B op env h with
    | .val v' _ => match AV.beq v' v with
      | true => match Nat.testBit bs j with
        | true => true
        | false => sameAt op env v bs hs
      | false => false
    | .bad => false

/-- A load's value: the last effect's heap; and it is the same at the others. -/
def loadAt (op : AOp) (env : Tr AV) (bs : Nat) : List (Nat × AH) → Option AV
  | [] => none
  | (j, h) :: hs => match aop B op env h with
    | .val v _ => match Nat.testBit bs j with
      | true => some v
      | false => match sameAt B op env v bs hs with
        | true => some v
        | false => none
    | .bad => none

def evD (call : Caller) : List DOper → Tr AV → AH → List (Nat × AH) → EO
  | [], env, h, _ => .ok env h
  | d :: os, env, h, hist =>
    match wanted d.o.guard env with
    | none => .bad
    | some false => match d.k with
      | .loud => evD call os (setD env d.o.dst .undef) h ((d.i, h) :: hist)
      | _ => evD call os (setD env d.o.dst .undef) h hist
    | some true =>
      match d.k with
      | .loud => match evOp B call d.o.op env h with
        | .bad => .bad
        | .val v h' => forceV v fun v => evD call os (setD env d.o.dst v) h' ((d.i, h') :: hist)
      | .quiet => match aop B d.o.op env h with
        | .bad => .bad
        | .val v h' => forceV v fun v => evD call os (setD env d.o.dst v) h' hist
      | .load => match loadAt B d.o.op env d.bs hist with
        | some v => forceV v fun v => evD call os (setD env d.o.dst v) h hist
        | none => .bad

def iter (f : Tr AV → List Nat → AH → Out) : Nat → Tr AV → List Nat → AH → Out
  | 0, _, _, _ => .bad
  | n + 1, env, ds, h => match f env ds h with
    | .bad => .bad
    | .out ex env' ds' h' => match ex with
      | .normal => iter f n env' ds' h'
      | .jump j => .out (.jump j) env' ds' h'

/-- The end of a range over a function. -/
def endRange (l : Nat) (env : Tr AV) (ds : List Nat) (h : AH) : Out :=
  match h.get l with
  | some (.loop st pend env' nt ps asg body d) => match st with
    | .busy => .bad
    | _ => match pend with
      | none => .out .normal env ds (h.put l (.loop .exhausted pend env' nt ps asg body d))
      | some j => .out (.jump j) env ds (h.put l (.loop .exhausted pend env' nt ps asg body d))
  | _ => .bad

/-- Where a round's deferred calls go. -/
def defOf (rdn : Option Nat) (ds : List Nat) (h : AH) : Option (Nat × List Nat × AH) :=
  match rdn with
  | none => some (h.next, h.next :: ds, h.new .defd)
  | some l => match h.get l with
    | some (.loop _ _ _ _ _ _ _ d) => some (d, ds, h)
    | _ => none

/-- Are two rows told? -/
def apartP : Option AV → Option AV → Bool
  | some (.ptr p), some (.ptr q) => match Nat.beq p.id q.id with
    | true => false
    | false => true
  | _, _ => false

/-- The end of a region in which an element and a variable are stored to, in any order. -/
def twoSt (t esz : Nat) (x i : AO) (n1 : Nat) (v1 : AO) (n2 : Nat) (a2 v2 : AO) : List AOper :=
  ⟨some t, .idxS esz x i, none⟩ :: ⟨none, .store n1 (.t t) v1, none⟩ :: ⟨none, .store n2 a2 v2, none⟩ :: []

def evC (call : Caller) (L : Nat) (nt : Nat) (rdn : Option Nat) : AC → Tr AV → List Nat → AH → Out
  | .skip, env, ds, h => .out .normal env ds h
  | .reg ops, env, ds, h => match evOps B call ops env h with
    | .ok env' h' => .out .normal env' ds h'
    | .bad => .bad
  | .dreg ops, env, ds, h => match evD B call ops env h [(ops.length, h)] with
    | .ok env' h' => .out .normal env' ds h'
    | .bad => .bad
  | .dreg2 pre t esz x i n1 v1 n2 a2 v2, env, ds, h => match evD B call pre env h [(pre.length + 3, h)] with
    | .ok env1 h1 => match evOps B call (twoSt t esz x i n1 v1 n2 a2 v2) env1 h1 with
      | .ok env2 h2 => match apartP (env2.get t) (rd env2 a2) with
        | true => .out .normal env2 ds h2
        | false => .bad
      | .bad => .bad
    | .bad => .bad
  | .seq a b, env, ds, h => match evC call L nt rdn a env ds h with
    | .bad => .bad
    | .out ex env' ds' h' => match ex with
      | .normal => evC call L nt rdn b env' ds' h'
      | .jump j => .out (.jump j) env' ds' h'
  | .cond c t e, env, ds, h => match rd env c with
    | some (.bool b) => match b with
      | true => evC call L nt rdn t env ds h
      | false => evC call L nt rdn e env ds h
    | _ => .bad
  | .block id b, env, ds, h => match evC call L nt rdn b env ds h with
    | .bad => .bad
    | .out ex env' ds' h' => match ex with
      | .normal => .out .normal env' ds' h'
      | .jump j => match j with
        | .ret => .out (.jump .ret) env' ds' h'
        | .exit id' => match Nat.beq id' id with
          | true => .out .normal env' ds' h'
          | false => .out (.jump (.exit id')) env' ds' h'
  | .loop b, env, ds, h => iter (evC call L nt rdn b) L env ds h
  | .exit id, env, ds, h => .out (.jump (.exit id)) env ds h
  | .ret, env, ds, h => .out (.jump .ret) env ds h
  | .scope b, env, ds, h => evC call L nt rdn b env ds h
  | .dfr pre x g, env, ds, h => match rdn with
    | some _ => .bad
    | none => match evOps B call pre env h with
      | .ok env' h' => match rd env' x with
        | some (.fn (.func g') _ _) => match Nat.beq g' g with
          | true => .out .normal env' ds h'
          | false => .bad
        | _ => .bad
      | .bad => .bad
  | .fail, _, _, _ => .bad
  | .rangef f ps asg body, env, ds, h =>
    match rd env f with
    | some (.fn g first cap) => match g with
      | .func _ => match defOf rdn ds h with
        | some (d, ds', h1) =>
          match call g (first ++ (.fn (.yield h1.next) [] [] :: cap)) (h1.new (.loop .ready none env nt ps asg body d)) with
          | .bad => .bad
          | .val _ h3 => endRange h1.next env ds' h3
        | none => .bad
      | _ => .bad
    | _ => .bad

def envOf : List AV → Nat → Tr AV → Tr AV
  | [], _, env => env
  | v :: r, i, env => envOf r (i + 1) (env.set i v)

def setPs : List Nat → List AV → Nat → Tr AV → Option (Tr AV)
  | [], [], _, env => some env
  | p :: ps, v :: vs, nt, env => match Nat.blt p nt with
    | true => setPs ps vs nt (env.set p v)
    | false => none
  | _, _, _, _ => none

def results (env : Tr AV) (h : AH) : List ARes → Option (List AV)
  | [] => some []
  | r :: rs => match (match r with
      | .tmp t => env.get t
      | .cell t agg n => match env.get t with
        | some v => ldVar B agg n v h
        | none => none) with
    | none => none
    | some v => match results env h rs with
      | none => none
      | some l => some (v :: l)

def killAll : List Nat → AH → Option AH
  | [], h => some h
  | d :: ds, h => match h.get d with
    | some .defd => killAll ds (h.put d .dead)
    | _ => none

def tupOf : List AV → AV
  | [v] => v
  | vs => .tup vs

/-- A function's end. -/
def leave (res : List ARes) (env : Tr AV) (ds : List Nat) (h : AH) : VO :=
  match killAll ds h with
  | some h => match results B env h res with
    | some vs => .val (tupOf vs) h
    | none => .bad
  | none => .bad

def callFn (call : Caller) (L : Nat) (fi : FnI) (args : List AV) (h : AH) : VO :=
  match Nat.ble args.length fi.nt with
  | false => .bad
  | true => match evC B call L fi.nt none fi.code (envOf args 0 .e) [] h with
    | .bad => .bad
    | .out ex env ds h' => match ex with
      | .normal => leave B fi.res env ds h'
      | .jump j => match j with
        | .ret => leave B fi.res env ds h'
        | .exit _ => .bad

def endRound (l : Nat) (j : Option AJump) (h : AH) : VO :=
  match h.get l with
  | some (.loop _ _ env nt ps asg body d) => match j with
    | none => .val (.bool true) (h.put l (.loop .ready none env nt ps asg body d))
    | some j => .val (.bool false) (h.put l (.loop .done (some j) env nt ps asg body d))
  | _ => .bad

def callYield (call : Caller) (L : Nat) (l : Nat) (args : List AV) (h : AH) : VO :=
  match h.get l with
  | some (.loop _ _ env nt ps asg body _) => match setPs ps args nt env with
    | none => .bad
    | some env1 => match evC B call L nt (some l) asg env1 [] h with
      | .bad => .bad
      | .out ex env2 ds2 h2 => match ex with
        | .jump _ => .bad
        | .normal => match h2.get l with
          | some (.loop st pend env' nt' ps' asg' body' d') => match st with
            | .ready => match evC B call L nt (some l) body env2 ds2 (h2.put l (.loop .busy pend env' nt' ps' asg' body' d')) with
              | .bad => .bad
              | .out ex3 _ _ h3 => match ex3 with
                | .normal => endRound l none h3
                | .jump j => endRound l (some j) h3
            | _ => .bad
          | _ => .bad
  | _ => .bad

/-- Calls with fuel. -/
def run (T : Tr FnI) : Nat → Caller
  | 0, _, _, _ => .bad
  | n + 1, f, args, h => match f with
    | .func f => match T.get f with
      | some fi => callFn B (run T n) n fi args h
      | none => .bad
    | .yield l => callYield B (run T n) n l args h
end ops
end Go.Proofs.YtkahmlbhgahbbaaGreat.Abs
