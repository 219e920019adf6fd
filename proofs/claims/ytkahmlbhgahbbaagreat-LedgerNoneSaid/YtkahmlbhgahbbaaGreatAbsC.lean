/- How the model's code is turned into code for the evaluator: what is not taken gives nothing. No proof in this text. -/
import Derived.Test.YtkahmlbhgahbbaaGreatAbsA
set_option linter.unusedSimpArgs false
set_option linter.unusedVariables false
set_option linter.unusedSectionVars false
set_option linter.constructorNameAsVariable false
namespace Go.Proofs.YtkahmlbhgahbbaaGreat.Abs

/-! A deferred call that does nothing while there is no panic: 'if r := recover(); r != nil {..}'. -/
def guardOps (nt : Nat) (P : Program) (d' : Nat) (x1 x2 x3 x4 : Oper) : Bool :=
  match x1.dst, x1.guard, x1.op, x2.dst, x2.guard, x2.op, x3.dst, x3.guard, x3.op, x4.dst, x4.guard, x4.op with
  | some a, none, .call cl, some b, none, .assign (.tmp a'), some c, none, .move (.tmp b'), some d, none, .binOp .neq t (.tmp c') (.const .nilIface) _ =>
    (match cl.callee with | .builtin .recover => true | _ => false) && (match P.underlying t with | some (.interface _) => true | _ => false) &&
      (decide (a' = a) && decide (b' = b) && decide (c' = c) && decide (d' = d) && decide (a < nt) && decide (b < nt) && decide (c < nt) && decide (d < nt))
  | _, _, _, _, _, _, _, _, _, _, _, _ => false
def guardCode (nt : Nat) (P : Program) : Code → Bool
  | .seq (.region _ o1 false) (.seq (.region _ o2 false) (.cond (.tmp d') _ .skip)) =>
    match o1.toList, o2.toList with
    | [x1, x2], [x3, x4] => guardOps nt P d' x1 x2 x3 x4
    | _, _ => false
  | _ => false
def guardOk (P : Program) (g : Nat) : Bool :=
  match P.funcs[g]? with
  | none => false
  | some fn => match fn.body with
    | none => false
    | some c => !(fn.name == "runtime.NumGoroutine") && decide (fn.results = #[]) && guardCode fn.ntmps P c
/-- Who lays a temporary as a closure of which function. -/
def madeBy (t : Nat) : List Oper → Option Nat
  | [] => none
  | o :: r => match o.op with
    | .makeFunc (.func g) _ _ => match o.dst with
      | some t' => match Nat.beq t' t with
        | true => some g
        | false => madeBy t r
      | none => madeBy t r
    | _ => madeBy t r
def mapO {α β : Type} (f : α → Option β) : List α → Option (List β)
  | [] => some []
  | a :: r => match f a with
    | none => none
    | some b => match mapO f r with
      | none => none
      | some l => some (b :: l)

def byteL : List UInt8 → List Nat
  | [] => []
  | b :: r => b.toNat :: byteL r

def toAV : Nat → Value → Option AV
  | 0, _ => none
  | n + 1, v => match v with
    | .bool b => some (.bool b)
    | .int k i => some (.int k i)
    | .string s => some (.str (byteL s.data.toList))
    | .pointer none => some .nilp
    | .slice none 0 0 => some .nilsl
    | .map none => some .nilmap
    | .nilFunc => some .nilfn
    | .nilIface => some .nilif
    | .func (.func f) first captured => match mapO (toAV n) first.toList, mapO (toAV n) captured.toList with
      | some a, some b => some (.fn (.func f) a b)
      | _, _ => none
    | .agg cs => match mapO (toAV n) cs.toList with
      | some l => some (.agg l)
      | none => none
    | .tuple cs => match mapO (toAV n) cs.toList with
      | some l => some (.tup l)
      | none => none
    | _ => none

section comp
variable (P : Program) (nt : Nat)

def cAO : Operand → Option AO
  | .tmp t => some (.t t)
  | .const v => match toAV 6 v with
    | some a => some (.c a)
    | none => none
  | .global _ => none
  | .func f => some (.c (.fn (.func f) [] []))

def cAOs (l : Array Operand) : Option (List AO) := mapO cAO l.toList
def cAOo : Option Operand → Option (Option AO)
  | none => some none
  | some x => match cAO x with
    | some a => some (some a)
    | none => none

def tsize (t : TypeId) : Option Nat := (P.info? t).map (·.size)
def tagg (t : TypeId) : Option Bool :=
  match P.underlying t with
  | some (.struct _) => some true
  | some (.array _ _) => some true
  | some _ => some false
  | none => none
/-- A type's zero value, as cells. -/
def tzero (t : TypeId) : Option AV :=
  match P.info? t with
  | some i => match i.zero with
    | some z => toAV 6 z
    | none => none
  | none => none

/-- Size where a value is one cell or an aggregate. -/
def tvar (t : TypeId) : Option (Bool × Nat) :=
  match tagg P t with
  | some true => match tsize P t with
    | some n => some (true, n)
    | none => none
  | some false => match tsize P t with
    | some 1 => some (false, 1)
    | _ => none
  | none => none

/-- Where a field lies. -/
def fPlace (f : Field) : Option (Nat × Nat × Bool) :=
  match tvar P f.type with
  | some (agg, n) => some (f.offset, n, agg)
  | none => none

def eqPlan : Nat → TypeId → Option EqP
  | 0, _ => none
  | d + 1, t => match P.underlying t with
    | some .bool => some .bool
    | some (.int _) => some .int
    | some .string => some .str
    | some (.pointer e) => match tsize P e with
      | some (_ + 1) => some .ptr
      | _ => none
    | some (.slice _) => some .sl
    | some (.map ..) => some .map
    | some (.func ..) => some .fn
    | some (.struct fs) => match P.stoodInHeld t with
      | true => none
      | false =>
        let l := fs.toList.filter fun f => f.name != "_"
        match mapO (fPlace P) l with
        | none => none
        | some places => match mapO (fun f : Field => eqPlan d f.type) l with
          | none => none
          | some ps => some (.str0 places ps)
    | some (.array len e) => match tvar P e with
      | some (agg, n) => match eqPlan d e with
        | some p => some (.arr len n agg p)
        | none => none
      | none => none
    | _ => none

/-- What the keys of a type are. -/
def keyOk (t : TypeId) : Option KK :=
  match P.underlying t with
  | some (.int _) => some .int
  | some .string => some .str
  | some .bool => some .bool
  | _ => none

/-- A part of a struct's literal. -/
def fPart (fs : Array Field) (p : Nat × Operand) : Option (Nat × Nat × AO) :=
  match fs[p.1]? with
  | some f => match cAO p.2 with
    | some x => match tsize P f.type with
      | some n => some (f.offset, n, x)
      | none => none
    | none => none
  | none => none
/-- A part of an array's, or a slice's. -/
def aPart (n : Nat) (p : Nat × Operand) : Option (Nat × Nat × AO) :=
  match cAO p.2 with
  | some x => some (p.1 * n, n, x)
  | none => none
/-- Have all fields a size? -/
def fSizes : List Field → Bool
  | [] => true
  | f :: r => match tsize P f.type with
    | some _ => fSizes r
    | none => false

def places (t : TypeId) (parts : List (Nat × Operand)) : Option (List (Nat × Nat × AO)) :=
  match P.underlying t with
  | some (.struct fs) => match fSizes P fs.toList with
    | true => mapO (fPart P fs) parts
    | false => none
  | some (.array _ e) => match tsize P e with
    | some n => mapO (aPart n) parts
    | none => none
  | _ => none

def c1 (x : Operand) (k : AO → AOp) : Option AOp :=
  match cAO x with
  | some a => some (k a)
  | none => none
def c2 (x y : Operand) (k : AO → AO → AOp) : Option AOp :=
  match cAO x with
  | some a => match cAO y with
    | some b => some (k a b)
    | none => none
  | none => none

def sliceT (t : TypeId) : Option TypeId :=
  match P.underlying t with
  | some (.slice e) => some e
  | _ => none

def cBuiltin (b : Builtin) (args : Array Operand) (ts : Array TypeId) : Option AOp :=
  match b with
  | .len => match args.toList, ts.toList with
    | [x], [t] => match P.underlying t with
      | some .string => c1 x (.len true)
      | some (.slice _) => c1 x (.len false)
      | some (.map ..) => c1 x .lenMap
      | some (.array n _) => some (.mov (.c (.int .i64 (.ofNat n))))
      | _ => none
    | _, _ => none
  | .append => match args.toList, ts.toList with
    | [s, x], [t, u] => match sliceT P t with
      | some e => match P.info? e with
        | some i => match tzero P e with
          | some z => match Nat.blt 0 i.size && Nat.blt 0 i.bytes && Nat.beq z.cells.length i.size with
            | true => match P.underlying u with
              | some (.slice _) => c2 s x (.append i.size i.bytes)
              | some .string => c2 s x (.append i.size i.bytes)
              | _ => none
            | false => none
          | none => none
        | none => none
      | none => none
    | _, _ => none
  | .copy => match args.toList, ts.toList with
    | [d, s], t :: _ => match sliceT P t with
      | some e => match tsize P e with
        | some (esz + 1) => c2 d s (.copy (esz + 1))
        | _ => none
      | none => none
    | _, _ => none
  | .delete => match args.toList, ts.toList with
    | [m, k], t :: _ => match P.underlying t with
      | some (.map kt _) => match keyOk P kt with
        | some kk => c2 m k (.delete kk)
        | none => none
      | _ => none
    | _, _ => none
  | .max => match args.toList with
    | x :: r => match cAO x, mapO cAO r with
      | some a, some l => some (.mm true a l)
      | _, _ => none
    | _ => none
  | .min => match args.toList with
    | x :: r => match cAO x, mapO cAO r with
      | some a, some l => some (.mm false a l)
      | _, _ => none
    | _ => none
  | _ => none

/-- Is it a kind of element that the library's reflection tells? -/
def elemOk (t : TypeId) : Bool :=
  match P.info? t with
  | some i => match i.desc with
    | .bool | .string | .pointer _ | .slice _ | .map _ _ | .struct _ => true
    | .named _ u => match P.info? u with
      | some j => match j.desc with
        | .bool | .string | .pointer _ | .slice _ | .map _ _ | .struct _ => true
        | _ => false
      | none => false
    | _ => false
  | none => false

def slOk (t : TypeId) : Bool :=
  match P.info? t with
  | some i => match i.desc with
    | .slice e => match P.underlying t with
      | some (.slice _) => match tvar P t with
        | some (false, 1) => match P.packed t with
          | false => elemOk P e
          | true => false
        | _ => false
      | _ => false
    | _ => false
  | none => false

/-- The slices' types. -/
def slTypes : List Nat := (List.range P.types.size).filter (slOk P)

/-- What a function without a body does. -/
def xkOf (n : String) : Option XK :=
  if n = "internal/bytealg.IndexByteString" then some .idxByte
  else if n = "internal/reflectlite.ValueOf" then some (.valueOf (slTypes P))
  else if n = "(internal/reflectlite.Value).Len" then some (.rvLen (slTypes P))
  else if n = "internal/reflectlite.Swapper" then
    match P.funcs.findIdx? (·.name == "internal/reflectlite.Swapper$1"), P.funcs.findIdx? (·.name == "internal/reflectlite.Swapper$2") with
    | some f1, some f2 => some (.swapper f1 f2 (slTypes P))
    | _, _ => none
  else if n = "sync/atomic.AddInt64" then some .addI64
  else none

/-- A function without a body that the evaluator knows. -/
def xkFn (f : FuncId) : Option XK :=
  match P.funcs[f]? with
  | some fn => match fn.body with
    | none => if fn.origin = "" then xkOf P fn.name else none
    | some _ => none
  | none => none

def cCall (c : Call) : Option AOp :=
  match c.callee with
  | .value (.func f) => match cAOs c.args with
    | some l => match xkFn P f with
      | some k => some (.ext k l)
      | none => some (.call f l)
    | none => none
  | .value (.tmp t) => match cAOs c.args with
    | some l => some (.callv (.t t) l)
    | none => none
  | .builtin b => cBuiltin P b c.args c.argTypes
  | _ => none

def cBin (op : BinOp) (t : TypeId) (x y : Operand) : Option AOp :=
  match op with
  | .eql | .neq => match P.underlying t with
    | some (.int _) => c2 x y (.bin op)
    | some .string => c2 x y (.bin op)
    | some (.struct _) | some (.array _ _) => match P.eqGuardType P.depth t with
      | true => none
      | false => match eqPlan P 6 t with
        | some p => c2 x y (.eq (op == .neq) p)
        | none => none
    | some .bool | some (.pointer _) | some (.slice _) | some (.map ..) | some (.func ..) => match eqPlan P 6 t with
      | some p => c2 x y (.eq (op == .neq) p)
      | none => none
    | _ => none
  | op => match P.underlying t with
    | some (.int _) => c2 x y (.bin op)
    | some .string => c2 x y (.bin op)
    | _ => none

def cConv (src dst : TypeId) (x : Operand) : Option AOp :=
  match P.underlying src, P.underlying dst with
  | some (.int _), some (.int k) => c1 x (.cvInt k)
  | some .string, some .string => c1 x fun a => .slStr a none none
  | some (.slice e), some .string => match P.underlying e with
    | some (.int .u8) => c1 x .cvStr
    | _ => none
  | some .string, some (.slice e) => match P.underlying e with
    | some (.int .u8) => c1 x .cvBytes
    | _ => none
  | _, _ => none

def cOp (op : Op) : Option AOp :=
  match op with
  | .move x | .assign x => c1 x .mov
  | .pick c a b => match cAO c, cAO a, cAO b with
    | some c, some a, some b => some (.pick c a b)
    | _, _, _ => none
  | .alloc t => match tzero P t with
    | some z => some (.alloc z.cells)
    | none => none
  | .box _ x => c1 x .box
  | .build t ps => match tzero P t with
    | some z => match places P t ps.toList with
      | some l => some (.build z.cells l)
      | none => none
    | none => none
  | .buildSlice t len ps => match sliceT P t with
    | some e => match tzero P e, tsize P e with
      | some z, some (n + 1) => match Nat.ble (len * (n + 1)) 16777216 with
        | true => match mapO (aPart (n + 1)) ps.toList with
          | some l => match Nat.beq z.cells.length (n + 1) with
            | true => some (.buildSl (n + 1) len (List.replicate len z.cells).flatten l)
            | false => none
          | none => none
        | false => none
      | _, _ => none
    | none => none
  | .load t x => match tvar P t with
    | some (agg, n) => c1 x (.load agg n)
    | none => none
  | .store t a v => match tsize P t with
    | some n => c2 a v (.store n)
    | none => none
  | .nilCheck x => c1 x .nilchk
  | .binOp op t x y _ => cBin P op t x y
  | .unOp op _ x => c1 x (.un op)
  | .convert src dst x => cConv P src dst x
  | .makeInterface t x => match P.underlying t with
    | some (.interface _) => none
    | some _ => c1 x (.mkif t)
    | none => none
  | .makeFunc (.func f) first captured => match cAOs first, cAOs captured with
    | some a, some b => some (.mkfn f a b)
    | _, _ => none
  | .makeMap _ none => some .mkmap
  | .makeSlice t l c => match sliceT P t with
    | some e => match P.info? e with
      | some i => match tzero P e with
        | some z => match Nat.blt 0 i.size && Nat.blt 0 i.bytes && Nat.beq z.cells.length i.size with
          | true => c2 l c (.mksl i.size i.bytes z.cells)
          | false => none
        | none => none
      | none => none
    | none => none
  | .slice t x lo hi mx => match cAO x, cAOo lo, cAOo hi, cAOo mx with
    | some x, some lo, some hi, some mx => match P.underlying t with
      | some .string => match mx with
        | none => some (.slStr x lo hi)
        | some _ => none
      | some (.slice e) => match tsize P e with
        | some (n + 1) => some (.slS (n + 1) x lo hi mx)
        | _ => none
      | some (.array len e) => match tsize P e with
        | some (n + 1) => some (.slA len (n + 1) x lo hi mx)
        | _ => none
      | _ => none
    | _, _, _, _ => none
  | .fieldAddr t x i => match P.underlying t with
    | some (.struct fs) => match fs[i]? with
      | some f => match tsize P f.type with
        | some (_ + 1) => c1 x (.faddr f.offset)
        | _ => none
      | none => none
    | _ => none
  | .field t x i => match P.underlying t with
    | some (.struct fs) => match fs[i]? with
      | some f => match tvar P f.type with
        | some (agg, n) => c1 x (.field agg f.offset n)
        | none => none
      | none => none
    | _ => none
  | .indexAddr t x i => match P.underlying t with
    | some (.array len e) => match tsize P e with
      | some (n + 1) => c2 x i (.idxA len (n + 1))
      | _ => none
    | some (.slice e) => match tsize P e with
      | some (n + 1) => c2 x i (.idxS (n + 1))
      | _ => none
    | _ => none
  | .index t x i => match P.underlying t with
    | some (.array len e) => match tvar P e with
      | some (agg, n) => c2 x i (.idxV len n agg)
      | none => none
    | some .string => c2 x i .idxStr
    | _ => none
  | .lookup t m k ok => match P.underlying t with
    | some (.map kt e) => match keyOk P kt, tzero P e with
      | some kk, some z => c2 m k (.lookup ok kk z)
      | _, _ => none
    | _ => none
  | .mapUpdate t m k v | .insert t m k v => match P.underlying t with
    | some (.map kt _) => match keyOk P kt with
      | some kk => match cAO m, cAO k, cAO v with
        | some m, some k, some v => some (.mapup kk m k v)
        | _, _, _ => none
      | none => none
    | _ => none
  | .extract x i => c1 x fun a => .extract a i
  | .range t x => match P.underlying t with
    | some (.map ..) => c1 x .range
    | _ => none
  | .next x isStr => match isStr with
    | false => c1 x .next
    | true => none
  | .entry x => c1 x .entry
  | .call c => cCall P c
  | _ => none

/-- What is not taken is an operation that never goes through. -/
def cOpF (op : Op) : AOp :=
  match cOp P op with
  | some a => a
  | none => .fail

def cOper (ops : Array Oper) (o : Oper) : Option AOper :=
  match cOpF P o.op with
  | op => match (match o.dst with | none => true | some d => Nat.blt d nt) with
    | false => none
    | true => match o.guard with
      | none => some ⟨o.dst, op, none⟩
      | some (j, want) => match (ops[j]?).bind (·.dst) with
        | some t => some ⟨o.dst, op, some (t, want)⟩
        | none => none

/-! A region whose order is open. -/
/-- The temporaries that an operation reads or writes. -/
def names (o : AOper) : List Nat :=
  (match o.dst with | some d => [d] | none => []) ++ (o.op.tmps ++ (match o.guard with | some (t, _) => [t] | none => []))

/-- The edges that bind in every order. -/
def preds (o : Oper) : List Nat := o.after.toList.filterMap fun e => if Region.binds .any e then some e.on else none

def bsAt (bs : List Nat) (i : Nat) : Nat := (bs[i]?).getD 0

/-- What must have come, for each operation, as bits. -/
def befores : List Oper → List Nat → List Nat
  | [], acc => acc
  | o :: r, acc => befores r (acc ++ [(preds o).foldl (fun s j => s ||| 2 ^ j ||| bsAt acc j) 0])

/-- Are an operation's edges led to what is done? -/
def edgesIn (md : Region.Mode) (done : Nat) : List Edge → Bool
  | [] => true
  | e :: r => match Region.binds md e with
    | false => edgesIn md done r
    | true => match Nat.testBit done e.on with
      | true => edgesIn md done r
      | false => false

/-- An order in which each comes behind its edges; all come. -/
def topoOk (md : Region.Mode) (l : List Oper) (n : Nat) : List Nat → Nat → Bool
  | [], done => Nat.beq done (2 ^ n - 1)
  | i :: r, done => match l[i]? with
    | none => false
    | some o => match edgesIn md done o.after.toList with
      | true => topoOk md l n r (done ||| 2 ^ i)
      | false => false

/-- The first operation that may come. -/
def firstIn (md : Region.Mode) (done : Nat) : List Oper → Nat → Option Nat
  | [], _ => none
  | o :: r, i => match Nat.testBit done i with
    | true => firstIn md done r (i + 1)
    | false => match edgesIn md done o.after.toList with
      | true => some i
      | false => firstIn md done r (i + 1)
def topo (md : Region.Mode) (l : List Oper) : Nat → Nat → List Nat
  | 0, _ => []
  | n + 1, done => match firstIn md done l 0 with
    | none => []
    | some i => i :: topo md l n (done ||| 2 ^ i)

def edgesOk (l : List Oper) : Bool :=
  match topoOk .text l l.length (topo .text l l.length 0) 0 with
  | true => topoOk .gc l l.length (topo .gc l l.length 0) 0
  | false => false

def isLoud (o : AOper) : Bool :=
  match o.op.kind with
  | .loud => true
  | _ => false

/-- The order in which the evaluator goes: each effect, ahead of it what it waits for; the rest last. -/
def dOrder (n : Nat) (aops : List AOper) (bs : List Nat) : List Nat :=
  let louds := (List.range n).filter fun i => match aops[i]? with | some o => isLoud o | none => false
  let (l, d) := louds.foldl (fun (acc : List Nat × Nat) j =>
    let b := bsAt bs j
    let new := (List.range n).filter fun i => b.testBit i && !acc.2.testBit i
    (acc.1 ++ new ++ [j], new.foldl (fun d i => d ||| 2 ^ i) (acc.2 ||| 2 ^ j))) ([], 0)
  l ++ (List.range n).filter fun i => !d.testBit i

/-- Each comes once, behind what it waits for; an effect waits for all ahead of it. -/
def orderOk (n : Nat) : List DOper → Nat → Bool
  | [], done => Nat.beq done (2 ^ n - 1)
  | d :: r, done => match Nat.blt d.i n && (!Nat.testBit done d.i && (Nat.beq (done &&& d.bs) d.bs && (match d.k with | .loud => Nat.beq (done &&& d.bs) done | _ => true))) with
    | true => orderOk n r (done ||| 2 ^ d.i)
    | false => false

/-- Who writes a temporary is ordered against all who name it. -/
def pairOk (d : DOper) : List DOper → Bool
  | [] => true
  | q :: r => match (match q.o.dst with
      | none => true
      | some t => match (names d.o).contains t with
        | false => true
        | true => Nat.testBit q.bs d.i) && (match d.o.dst with
      | none => true
      | some t => match (names q.o).contains t with
        | false => true
        | true => Nat.testBit q.bs d.i) with
    | true => pairOk d r
    | false => false
def tmpsOk : List DOper → Bool
  | [] => true
  | d :: r => match pairOk d r with
    | true => tmpsOk r
    | false => false

def dPick (aops : List AOper) (bs : List Nat) (i : Nat) : Option DOper :=
  match aops[i]? with
  | some o => some ⟨o, o.op.kind, i, bsAt bs i⟩
  | none => none

def cDraw (ops : Array Oper) : Option (List DOper) :=
  match mapO (cOper P nt ops) ops.toList with
  | none => none
  | some aops =>
    let l := ops.toList
    let n := l.length
    let bs := befores l []
    match mapO (dPick aops bs) (dOrder n aops bs) with
    | none => none
    | some ds => match edgesOk l && (orderOk n ds 0 && tmpsOk ds) with
      | true => some ds
      | false => none

/-- A region at whose end an element and a variable are stored to, in any order. -/
def cDraw2 (ops : Array Oper) : Option AC :=
  match mapO (cOper P nt ops) ops.toList with
  | none => none
  | some aops =>
    let l := ops.toList
    let bs := befores l []
    match ops.size with
    | m + 3 => match aops[m]?, aops[m + 1]?, aops[m + 2]? with
      | some ⟨some t, .idxS esz x i, none⟩, some ⟨none, .store n1 (.t t') v1, none⟩, some ⟨none, .store n2 a2 v2, none⟩ =>
        match mapO (dPick aops bs) ((dOrder (m + 3) aops bs).filter fun j => Nat.blt j m) with
        | none => none
        | some pre =>
          let b1 := bsAt bs (m + 1)
          let b2 := bsAt bs (m + 2)
          let dm : DOper := ⟨⟨some t, .idxS esz x i, none⟩, .quiet, m, bsAt bs m⟩
          let s1 : DOper := ⟨⟨none, .store n1 (.t t) v1, none⟩, .loud, m + 1, b1⟩
          let s2 : DOper := ⟨⟨none, .store n2 a2 v2, none⟩, .loud, m + 2, b2⟩
          let e1 : DOper := ⟨⟨none, .store n1 (.t t) v1, none⟩, .loud, m + 1, b1 ||| 2 ^ (m + 2) ||| b2⟩
          let e2 : DOper := ⟨⟨none, .store n2 a2 v2, none⟩, .loud, m + 2, b2 ||| 2 ^ (m + 1) ||| b1⟩
          match edgesOk l && (Nat.beq t' t && (!a2.tm.contains t && (!v2.tm.contains t && (orderOk (m + 3) (pre ++ [dm, s1, e2]) 0 && (tmpsOk (pre ++ [dm, s1, e2]) && (orderOk (m + 3) (pre ++ [s2, dm, e1]) 0 && tmpsOk (pre ++ [s2, dm, e1]))))))) with
          | true => some (.dreg2 pre t esz x i n1 v1 n2 a2 v2)
          | false => none
      | _, _, _ => none
    | _ => none

/-- A region that ends with a deferred guard. -/
def cDefer (ops : Array Oper) : Option AC :=
  match ops.toList.reverse with
  | o :: r => match o.op, o.guard, o.dst with
    | .defer ⟨.value (.tmp t), _, _⟩, none, none => match madeBy t r with
      | some g => match guardOk P g with
        | true => match mapO (cOper P nt ops) r.reverse with
          | some pre => match cAO (.tmp t) with
            | some x => some (.dfr pre x g)
            | none => none
          | none => none
        | false => none
      | none => none
    | _, _, _ => none
  | [] => none

def comp : Code → Option AC
  | .skip => some .skip
  | .region _ ops draw => match draw with
    | false => match cDefer P nt ops with
      | some c => some c
      | none => match mapO (cOper P nt ops) ops.toList with
        | some l => some (.reg l)
        | none => none
    | true => match cDraw P nt ops with
      | some l => some (.dreg l)
      | none => match cDraw2 P nt ops with
        | some c => some c
        | none => some .fail
  | .seq a b => match comp a with
    | none => none
    | some a => match comp b with
      | none => none
      | some b => some (.seq a b)
  | .cond c t e => match cAO c with
    | none => none
    | some c => match comp t with
      | none => none
      | some t => match comp e with
        | none => none
        | some e => some (.cond c t e)
  | .block id b => match comp b with
    | none => none
    | some b => some (.block id b)
  | .loop b => match comp b with
    | none => none
    | some b => some (.loop b)
  | .rangeFunc f ps asg body => match cAO f with
    | none => none
    | some f => match comp asg with
      | none => none
      | some asg => match comp body with
        | none => none
        | some body => some (.rangef f ps.toList asg body)
  | .exit id => some (.exit id)
  | .scope b => match comp b with
    | none => none
    | some b => some (.scope b)
  | .label _ => some .skip
  | .ret => some .ret
  | .goto _ => some .fail
  | .refuse _ => some .fail

def cRes : ResultVar → Option ARes
  | .tmp t => some (.tmp t)
  | .cell a t => match tvar P t with
    | some (agg, n) => some (.cell a agg n)
    | none => none

def compFn (f : FuncId) : Option FnI :=
  match P.funcs[f]? with
  | none => none
  | some fn => match fn.body with
    | none => none
    | some c => match comp P fn.ntmps c with
      | none => none
      | some code => match mapO (cRes P) fn.results.toList with
        | none => none
        | some res => match fn.name == "runtime.NumGoroutine" with
          | true => none
          | false => some ⟨fn.ntmps, res, code⟩
end comp
end Go.Proofs.YtkahmlbhgahbbaaGreat.Abs
