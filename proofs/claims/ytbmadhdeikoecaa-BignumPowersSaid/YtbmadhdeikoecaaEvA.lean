/- A plain evaluator of the model's code over values that know no memory (slices as lists): definitions only; no condition. -/
import Derived.WalkKit
import Derived.KernelRfl
import Derived.Orders
namespace Go.Ev

/-- what a slice holds, element by element -/
inductive Seq (α : Type) where
  | ints (k : IntKind) (l : List Int)
  | strs (l : List ByteArray)
  | avs (l : List α)
  | fn (n : Nat) (f : Nat → α)

/-- values: 'sl': a slice that nobody writes any more; 'row': a slice of a row of the call's own; 'ip': a pointer to cells that nobody writes; 'rp': to an element of an own row; 'ptr': to a cell of an own variable -/
inductive AV where
  | v (x : Value)
  | junk
  | fl (k : FloatKind) (x : Nat)
  | agg (cs : List AV)
  | tup (vs : List AV)
  | sl (sz : Nat) (q : Seq AV) (tight : Bool)
  | row (k off len ver : Nat) (tight : Bool)
  | ip (cs : List AV)
  | rp (k i ver off : Nat)
  | ptr (k off : Nat)
  | fnv (f : Fn) (first captured : List AV)
  | ifc (t : TypeId) (x : AV)

def Seq.len {α : Type} : Seq α → Nat
  | .ints _ l => l.length
  | .strs l => l.length
  | .avs l => l.length
  | .fn n _ => n

def Seq.get (q : Seq AV) (i : Nat) : AV :=
  match q with
  | .ints k l => .v (.int k (l.getD i 0))
  | .strs l => .v (.string (l.getD i ByteArray.empty))
  | .avs l => l.getD i .junk
  | .fn _ f => f i

def AV.cells : AV → List AV
  | .agg cs => cs
  | x => [x]

/-- what lies at an own key: a variable's cells; a row: its element type, the element's size, its contents, and the least version that may be read -/
inductive AObj where
  | cells (T : TypeId) (cs : List AV)
  | row (T : TypeId) (sz : Nat) (q : Seq AV) (floor : Nat)

structure AS where
  n : Nat
  fr : List (Nat × AV)
  hp : List (Nat × AObj)
  nx : Nat

inductive Hint where
  | b (b : Bool)
  | is (a : AV)
  | wrap
  | own
  | part

def look {α : Type} : List (Nat × α) → Nat → Option α
  | [], _ => none
  | (k, a) :: r, t => match Nat.beq k t with
    | true => some a
    | false => look r t

def drop1 {α : Type} : List (Nat × α) → Nat → List (Nat × α)
  | [], _ => []
  | (k, a) :: r, t => match Nat.beq k t with
    | true => drop1 r t
    | false => (k, a) :: drop1 r t

def put1 {α : Type} (l : List (Nat × α)) (t : Nat) (a : α) : List (Nat × α) := (t, a) :: drop1 l t

def keep {α : Type} (l : List (Nat × α)) : List Nat → List (Nat × α)
  | [] => []
  | t :: r => match look l t with
    | some a => (t, a) :: keep l r
    | none => keep l r

def applyUpd (hp : List (Nat × AObj)) : List (Nat × Option AObj) → List (Nat × AObj)
  | [] => hp
  | (k, some o) :: r => applyUpd (put1 hp k o) r
  | (k, none) :: r => applyUpd (drop1 hp k) r

/-- what an operation comes to: a value, own objects that turn, what is left to be shown -/
structure R where
  val : AV
  upd : List (Nat × Option AObj)
  cond : List Prop

def AllP : List Prop → Prop
  | [] => True
  | p :: r => p ∧ AllP r

/-- the number lies within its kind -/
def inR : IntKind → Int → Prop
  | .i8, n => -128 ≤ n ∧ n ≤ 127
  | .i16, n => -32768 ≤ n ∧ n ≤ 32767
  | .i32, n => -2147483648 ≤ n ∧ n ≤ 2147483647
  | .i64, n => -9223372036854775808 ≤ n ∧ n ≤ 9223372036854775807
  | .u8, n => 0 ≤ n ∧ n ≤ 255
  | .u16, n => 0 ≤ n ∧ n ≤ 65535
  | .u32, n => 0 ≤ n ∧ n ≤ 4294967295
  | .u64, n => 0 ≤ n ∧ n ≤ 18446744073709551615

def vR (x : Value) : Option R := some ⟨.v x, [], []⟩
def aR (x : AV) : Option R := some ⟨x, [], []⟩

/-- a reckoned number: wrapped where the hint says so, else bare and within its kind -/
def arith (h : Option Hint) (k : IntKind) (n : Int) : R :=
  match h with
  | some .wrap => ⟨.v (.int k (k.wrap n)), [], []⟩
  | _ => ⟨.v (.int k n), [], [inR k n]⟩

def kindEq : IntKind → IntKind → Bool
  | .i8, .i8 | .i16, .i16 | .i32, .i32 | .i64, .i64 | .u8, .u8 | .u16, .u16 | .u32, .u32 | .u64, .u64 => true
  | _, _ => false

/-- the bits of two numbers -/
def bitsOf (op : BinOp) (k : IntKind) (x y : Int) : Int :=
  match op with
  | .and => k.wrap (BitVec.ofInt k.bits x &&& BitVec.ofInt k.bits y).toNat
  | .or => k.wrap (BitVec.ofInt k.bits x ||| BitVec.ofInt k.bits y).toNat
  | .xor => k.wrap (BitVec.ofInt k.bits x ^^^ BitVec.ofInt k.bits y).toNat
  | _ => k.wrap (BitVec.ofInt k.bits x &&& ~~~BitVec.ofInt k.bits y).toNat

def intOp (h : Option Hint) (op : BinOp) (k : IntKind) (x y : Int) : Option R :=
  match op with
  | .add => some (arith h k (x + y))
  | .sub => some (arith h k (x - y))
  | .mul => some (arith h k (x * y))
  | .quo => let r := arith h k (x.tdiv y); some { r with cond := (y ≠ 0) :: r.cond }
  | .rem => some ⟨.v (.int k (x.tmod y)), [], [y ≠ 0]⟩
  | .and => vR (.int k (bitsOf .and k x y))
  | .or => vR (.int k (bitsOf .or k x y))
  | .xor => vR (.int k (bitsOf .xor k x y))
  | .andNot => vR (.int k (bitsOf .andNot k x y))
  | .eql => vR (.bool (x == y))
  | .neq => vR (.bool (x != y))
  | .lss => vR (.bool (decide (x < y)))
  | .leq => vR (.bool (decide (x ≤ y)))
  | .gtr => vR (.bool (decide (x > y)))
  | .geq => vR (.bool (decide (x ≥ y)))
  | _ => none

def shiftOp (h : Option Hint) (op : BinOp) (k : IntKind) (x y : Int) : Option R :=
  match op with
  | .shl => let r := arith h k (x * 2 ^ (min y.toNat k.bits)); some { r with cond := (0 ≤ y) :: r.cond }
  | .shr => some ⟨.v (.int k (x.fdiv (2 ^ (min y.toNat k.bits)))), [], [0 ≤ y]⟩
  | _ => none

def strOp (h : Option Hint) (op : BinOp) (x y : ByteArray) : Option R :=
  match op with
  | .add => some ⟨.v (.string (x ++ y)), [], [((x.size + y.size : Nat) : Int) ≤ 9223372036854775807]⟩
  | .eql => vR (.bool (x.toList == y.toList))
  | .neq => vR (.bool (!(x.toList == y.toList)))
  | .lss => vR (.bool (Op.bytesLess x.toList y.toList))
  | .leq => vR (.bool (Op.bytesLess x.toList y.toList || x.toList == y.toList))
  | .gtr => vR (.bool (!(Op.bytesLess x.toList y.toList || x.toList == y.toList)))
  | .geq => vR (.bool (!(Op.bytesLess x.toList y.toList)))
  | _ => none

def nilP : AV → Option Bool
  | .v (.pointer none) => some true
  | .ip _ | .rp _ _ _ _ | .ptr _ _ => some false
  | _ => none

def nilF : AV → Option Bool
  | .v .nilFunc => some true
  | .fnv _ _ _ => some false
  | _ => none

/-- a pointer or a function held against nil -/
def nilA (P : Program) (op : BinOp) (t : TypeId) (x y : AV) : Option R :=
  match P.underlying t, y with
  | some (.pointer _), .v (.pointer none) => match nilP x, op with
    | some a, .eql => vR (.bool a)
    | some a, .neq => vR (.bool (!a))
    | _, _ => none
  | some (.func _ _ _), .v .nilFunc => match nilF x, op with
    | some a, .eql => vR (.bool a)
    | some a, .neq => vR (.bool (!a))
    | _, _ => none
  | _, _ => none

def binA (P : Program) (h : Option Hint) (op : BinOp) (t : TypeId) (x y : AV) : Option R :=
  match x, y with
  | .v (.int k a), .v (.int yk b) =>
    match op with
    | .shl | .shr => shiftOp h op k a b
    | _ => match kindEq k yk with
      | true => intOp h op k a b
      | false => none
  | .v (.string a), .v (.string b) => strOp h op a b
  | .v (.bool a), .v (.bool b) =>
    match P.underlying t, op with
    | some .bool, .eql => vR (.bool (a == b))
    | some .bool, .neq => vR (.bool (!(a == b)))
    | _, _ => none
  | _, _ => none

def unA (h : Option Hint) (op : UnOp) (x : AV) : Option R :=
  match op, x with
  | .neg, .v (.int k n) => some (arith h k (0 - n))
  | .xor, .v (.int k n) => vR (.int k (bitsOf .xor k (if k.signed then -1 else k.max) n))
  | .not, .v (.bool b) => vR (.bool (!b))
  | _, _ => none

/-- every number of the one kind is one of the other -/
def widens : IntKind → IntKind → Bool
  | .u8, .u16 | .u8, .u32 | .u8, .u64 | .u8, .i16 | .u8, .i32 | .u8, .i64 => true
  | .u16, .u32 | .u16, .u64 | .u16, .i32 | .u16, .i64 => true
  | .u32, .u64 | .u32, .i64 => true
  | .i8, .i16 | .i8, .i32 | .i8, .i64 | .i16, .i32 | .i16, .i64 | .i32, .i64 => true
  | a, b => kindEq a b

def strOfInts (l : List Int) : ByteArray := ⟨(l.map fun n => UInt8.ofNat n.toNat).toArray⟩
def intsOfStr (s : ByteArray) : List Int := s.data.toList.map fun b => (b.toNat : Int)

def seqEmpty (d : Option TypeDesc) : Seq AV :=
  match d with
  | some (.int k) => .ints k []
  | some .string => .strs []
  | _ => .avs []

def intsOf (k : IntKind) : List AV → Option (List Int)
  | [] => some []
  | .v (.int k' n) :: r => match kindEq k k', intsOf k r with
    | true, some l => some (n :: l)
    | _, _ => none
  | _ => none

def strsOf : List AV → Option (List ByteArray)
  | [] => some []
  | .v (.string s) :: r => match strsOf r with
    | some l => some (s :: l)
    | none => none
  | _ => none

def seqOf (d : Option TypeDesc) (l : List AV) : Option (Seq AV) :=
  match d with
  | some (.int k) => match intsOf k l with
    | some l => some (.ints k l)
    | none => none
  | some .string => match strsOf l with
    | some l => some (.strs l)
    | none => none
  | _ => some (.avs l)

def Seq.app (q r : Seq AV) : Option (Seq AV) :=
  match q, r with
  | .ints k l, .ints k' l' => match kindEq k k' with
    | true => some (.ints k (l ++ l'))
    | false => none
  | .strs l, .strs l' => some (.strs (l ++ l'))
  | .avs l, .avs l' => some (.avs (l ++ l'))
  | _, _ => none

def Seq.set (q : Seq AV) (i : Nat) (x : AV) : Option (Seq AV) :=
  match q, x with
  | .ints k l, .v (.int k' n) => match kindEq k k' with
    | true => some (.ints k (l.set i n))
    | false => none
  | .strs l, .v (.string s) => some (.strs (l.set i s))
  | .avs l, x => some (.avs (l.set i x))
  | _, _ => none

def Seq.take (q : Seq AV) (n : Nat) : Seq AV :=
  match q with
  | .ints k l => .ints k (l.take n)
  | .strs l => .strs (l.take n)
  | .avs l => .avs (l.take n)
  | .fn m f => .fn (min n m) f

def Seq.drop (q : Seq AV) (n : Nat) : Seq AV :=
  match q with
  | .ints k l => .ints k (l.drop n)
  | .strs l => .strs (l.drop n)
  | .avs l => .avs (l.drop n)
  | .fn m f => .fn (m - n) fun i => f (n + i)

def elemOf (P : Program) (t : TypeId) : Option TypeId :=
  match P.underlying t with
  | some (.slice e) => some e
  | _ => none

def sizeA (P : Program) (t : TypeId) : Option Nat := (P.info? t).map (·.size)
def bytesA (P : Program) (t : TypeId) : Option Nat := (P.info? t).map (·.bytes)

def isAggA (P : Program) (t : TypeId) : Option Bool :=
  match P.underlying t with
  | some (.struct _) | some (.array _ _) => some true
  | some _ => some false
  | none => none

/-- the own keys that a value names by itself -/
def keyOf : AV → List Nat
  | .row k _ _ _ _ | .rp k _ _ _ | .ptr k _ => [k]
  | _ => []

def keysOf : AV → List Nat
  | .agg cs => cs.flatMap keyOf
  | .tup cs => cs.flatMap keyOf
  | x => keyOf x

/-- a value without own keys, at the depth that the evaluator looks at -/
def plain1 : AV → Bool
  | .row _ _ _ _ _ | .rp _ _ _ _ | .ptr _ _ | .fnv _ _ _ | .junk => false
  | .agg _ | .tup _ | .ifc _ _ => false
  | _ => true

def plainA : AV → Bool
  | .agg cs => cs.all plain1
  | .tup cs => cs.all fun
    | .agg ds => ds.all plain1
    | x => plain1 x
  | .fnv _ [] [] => true
  | .ifc _ x => plain1 x
  | x => plain1 x

/-- a value without memory -/
def flat1 : AV → Bool
  | .v _ | .fl _ _ => true
  | _ => false

def flat : AV → Bool
  | .agg cs => cs.all flat1
  | .tup cs => cs.all fun
    | .agg ds => ds.all flat1
    | x => flat1 x
  | x => flat1 x

/-- are a row's elements without own keys? -/
def seqPlain : Seq AV → Bool
  | .ints _ _ => true
  | .strs _ => true
  | .avs l => l.all fun x => x.cells.all plain1
  | .fn _ _ => false

/-- an own row as what it holds -/
def snapRow (hp : Nat → Option AObj) (k off len ver : Nat) (tight : Bool) : Option (AV × List Prop × List Nat) :=
  match hp k with
  | some (.row _ sz q floor) =>
    match seqPlain q, off with
    | true, 0 => some (.sl sz q tight, [len = q.len, floor ≤ ver], [k])
    | true, off + 1 => some (.sl sz ((q.drop (off + 1)).take len) tight, [floor ≤ ver], [k])
    | false, _ => none
  | _ => none

def snap1 (hp : Nat → Option AObj) (x : AV) : Option (AV × List Prop × List Nat) :=
  match x with
  | .row k off len ver tight => snapRow hp k off len ver tight
  | x => match plain1 x with
    | true => some (x, [], [])
    | false => none

def snapL (hp : Nat → Option AObj) : List AV → Option (List AV × List Prop × List Nat)
  | [] => some ([], [], [])
  | x :: xs =>
    match snap1 hp x, snapL hp xs with
    | some (y, c, k), some (ys, cs, ks) => some (y :: ys, c ++ cs, k ++ ks)
    | _, _ => none

/-- a value as it is handed to a call that keeps nothing: own rows as what they hold -/
def snap (P : Program) (hp : Nat → Option AObj) (t : TypeId) (x : AV) : Option (AV × List Prop × List Nat) :=
  match x with
  | .row k off len ver tight => snapRow hp k off len ver tight
  | .v (.slice none 0 0) =>
    match elemOf P t with
    | some e => match sizeA P e with
      | some sz => some (.sl sz (seqEmpty (P.underlying e)) true, [], [])
      | none => none
    | none => none
  | .agg cs => match snapL hp cs with
    | some (ds, c, k) => some (.agg ds, c, k)
    | none => none
  | x => match plainA x with
    | true => some (x, [], [])
    | false => none

def snaps (P : Program) (hp : Nat → Option AObj) : List TypeId → List AV → Option (List AV × List Prop × List Nat)
  | ts, x :: xs =>
    match snap P hp (ts.headD 0) x, snaps P hp ts.tail xs with
    | some (y, c, k), some (ys, cs, ks) => some (y :: ys, c ++ cs, k ++ ks)
    | _, _ => none
  | _, [] => some ([], [], [])

/-- cells 'xs' laid over 'cs' from place 'off' on -/
def lay (cs : List AV) (off : Nat) (xs : List AV) : Option (List AV) :=
  match Nat.ble (off + xs.length) cs.length with
  | true => some (cs.take off ++ xs ++ cs.drop (off + xs.length))
  | false => none

def isJunk : AV → Bool
  | .junk => true
  | .tup _ | .agg _ => true
  | _ => false

/-- the cells of a value that is stored: none of them unknown -/
def stored (x : AV) (sz : Nat) : Option (List AV) :=
  match x.cells.any isJunk, Nat.beq x.cells.length sz with
  | false, true => some x.cells
  | _, _ => none

def fillA (place : Nat → Option (Nat × Nat)) (cells : List AV) : List (Nat × AV) → Option (List AV)
  | [] => some cells
  | (i, x) :: rest =>
    match place i with
    | none => none
    | some (off, size) =>
      match stored x size with
      | some xs => match lay cells off xs with
        | some cells => fillA place cells rest
        | none => none
      | none => none

def scalarV : Value → Bool
  | .agg _ | .tuple _ => false
  | _ => true

def constA (x : Value) : AV :=
  match x with
  | .agg cs => match cs.toList.all scalarV with
    | true => .agg (cs.toList.map .v)
    | false => .junk
  | .tuple _ => .junk
  | x => .v x

def zeroCellsA (P : Program) (t : TypeId) : Option (List AV) :=
  match (P.info? t).bind (·.zero) with
  | some z => match z.cells.toList.all scalarV with
    | true => some (z.cells.toList.map .v)
    | false => none
  | none => none

def chunk (sz : Nat) : Nat → List AV → List AV
  | 0, _ => []
  | n + 1, l => (match sz with | 1 => l.headD .junk | _ => .agg (l.take sz)) :: chunk sz n (l.drop sz)

def partA (P : Program) (t : TypeId) (cs : List AV) (off : Nat) : Option AV :=
  match isAggA P t, sizeA P t with
  | some true, some sz => match Nat.ble (off + sz) cs.length with
    | true => some (.agg ((cs.drop off).take sz))
    | false => none
  | some false, some _ => cs[off]?
  | _, _ => none

def byteAt (s : ByteArray) (i : Nat) : Int := ((s.data.toList.getD i 0).toNat : Int)

def zip2 {α β : Type} : List α → List β → List (α × β)
  | a :: as, b :: bs => (a, b) :: zip2 as bs
  | _, _ => []

section
variable (P : Program) (SG : List (FuncId × (List AV → Option (AV × List Prop))))

/-- what a row or a slice that nobody writes holds, elements of type e: contents, what is to be shown -/
def contents (hp : Nat → Option AObj) (e : TypeId) (x : AV) : Option (Seq AV × List Prop) :=
  match sizeA P e with
  | none => none
  | some s =>
    match x with
    | .sl sz q _ => match Nat.beq sz s with
      | true => some (q, [])
      | false => none
    | .row k off len ver _ => match snapRow hp k off len ver false with
      | some (.sl sz q _, c, _) => match Nat.beq sz s with
        | true => some (q, c)
        | false => none
      | _ => none
    | .v (.slice none 0 0) => some (seqEmpty (P.underlying e), [])
    | .v (.string t) => match P.underlying e, Nat.beq s 1 with
      | some (.int .u8), true => some (.ints .u8 (intsOfStr t), [])
      | _, _ => none
    | _ => none

def notInt (xt : TypeId) : Bool :=
  match P.underlying xt with
  | some (.slice _) => true
  | some .string => true
  | _ => false

/-- has the type's zero value as many cells as the type? -/
def zeroOk (e : TypeId) : Bool :=
  match zeroCellsA P e, sizeA P e with
  | some z, some sz => Nat.beq z.length sz
  | _, _ => false

def appA (sz sz' : Nat) (q r : Seq AV) : Option (Seq AV) :=
  match Nat.beq sz' sz with
  | true => q.app r
  | false => none

def appendA (key : Nat) (hp : Nat → Option AObj) (t xt : TypeId) (s x : AV) : Option R :=
  match elemOf P t with
  | none => none
  | some e =>
    match sizeA P e, bytesA P e, contents P hp e x, notInt P xt && zeroOk P e with
    | some (sz + 1), some (by1 + 1), some (r, c), true =>
      match s with
      | .v (.slice none 0 0) =>
        some ⟨.row key 0 r.len r.len false, [(key, some (.row e (sz + 1) r 0))], [r.len * (by1 + 1) ≤ 140737488355328] ++ c⟩
      | .row k 0 len ver _ =>
        match hp k with
        | some (.row T sz' q floor) =>
          match Nat.beq T e, appA (sz + 1) sz' q r with
          | true, some q' => some ⟨.row k 0 q'.len q'.len false, [(k, some (.row e (sz + 1) q' floor))], [len = q.len, ver = q.len, q'.len * (by1 + 1) ≤ 140737488355328] ++ c⟩
          | _, _ => none
        | _ => none
      | .sl sz' q true =>
        match appA (sz + 1) sz' q r with
        | some q' => some ⟨.row key 0 q'.len q'.len false, [(key, some (.row e (sz + 1) q' 0))], [1 ≤ r.len, q'.len * (by1 + 1) ≤ 140737488355328] ++ c⟩
        | none => none
      | _ => none
    | _, _, _, _ => none

def builtinA (key : Nat) (hp : Nat → Option AObj) (b : Builtin) (ts : List TypeId) (xs : List AV) : Option R :=
  match b, ts, xs with
  | .len, [t], [x] =>
    match P.underlying t, x with
    | some .string, .v (.string s) => vR (.int .i64 s.size)
    | some (.slice _), .sl _ q _ => vR (.int .i64 q.len)
    | some (.slice _), .row _ _ len _ _ => vR (.int .i64 len)
    | some (.slice _), .v (.slice none 0 0) => vR (.int .i64 0)
    | some (.array n _), _ => vR (.int .i64 n)
    | _, _ => none
  | .append, [t, xt], [s, x] => appendA P key hp t xt s x
  | .max, _, [.v (.int k x), .v (.int _ y)] => vR (.int k (if y > x then y else x))
  | .min, _, [.v (.int k x), .v (.int _ y)] => vR (.int k (if y < x then y else x))
  | _, _, _ => none

def ixPlus (off i : Nat) : Nat :=
  match off with
  | 0 => i
  | o => o + i

/-- is this the size of a slice type's elements? -/
def elemSz (t : TypeId) (sz : Nat) : Bool :=
  match elemOf P t with
  | some e => match sizeA P e with
    | some s => Nat.beq s sz
    | none => false
  | none => false

def rowSz (hp : Nat → Option AObj) (k : Nat) : Option Nat :=
  match hp k with
  | some (.row _ sz _ _) => some sz
  | _ => none

def cutHi (hi : Option AV) (len : Nat) (tight : Bool) : Option (Nat × Bool × List Prop) :=
  match hi with
  | none => some (len, tight, [])
  | some (.v (.int _ h)) => some (h.toNat, false, [0 ≤ h ∧ h ≤ (len : Int)])
  | _ => none

def cutMx (mx : Option AV) (h : Nat) (t : Bool) : Option (Bool × List Prop) :=
  match mx with
  | none => some (t, [])
  | some (.v (.int _ m)) => some (true, [m = (h : Int)])
  | _ => none

def cutLo (lo : Option AV) (h : Nat) : Option (Nat × List Prop) :=
  match lo with
  | none => some (0, [])
  | some (.v (.int _ l)) => some (l.toNat, [0 ≤ l ∧ l ≤ (h : Int)])
  | _ => none

/-- the part of a slice from l to h -/
def cutA (lo hi mx : Option AV) (len : Nat) (tight : Bool) : Option (Nat × Nat × Bool × List Prop) :=
  match cutHi hi len tight, hi.isSome || mx.isNone with
  | some (h, t1, c1), true =>
    match cutMx mx h t1, cutLo lo h with
    | some (t2, c2), some (l, c3) => some (l, h, t2, c1 ++ (c2 ++ c3))
    | _, _ => none
  | _, _ => none

def cutSeq (q : Seq AV) (l h : Nat) (hasLo hasHi : Bool) : Seq AV :=
  match hasLo, hasHi with
  | false, false => q
  | false, true => q.take h
  | true, false => q.drop l
  | true, true => (q.take h).drop l

def rowOff (lo : Option AV) (off l : Nat) : Nat :=
  match lo with
  | none => off
  | some _ => ixPlus off l

def rowLen (lo : Option AV) (l h : Nat) : Nat :=
  match lo with
  | none => h
  | some _ => h - l

def sliceA (hp : Nat → Option AObj) (t : TypeId) (x : AV) (lo hi mx : Option AV) : Option R :=
  match x with
  | .v (.string s) =>
    match P.underlying t, mx, cutA lo hi none s.size false with
    | some .string, none, some (l, h, _, c) => some ⟨.v (.string (s.extract l h)), [], c⟩
    | _, _, _ => none
  | .sl sz q tight =>
    match elemSz P t sz, cutA lo hi mx q.len tight with
    | true, some (l, h, t, c) => some ⟨.sl sz (cutSeq q l h lo.isSome hi.isSome) t, [], c⟩
    | _, _ => none
  | .row k off len ver tight =>
    match rowSz hp k, cutA lo hi mx len tight with
    | some sz, some (l, h, tt, c) => match elemSz P t sz with
      | true => some ⟨.row k (rowOff lo off l) (rowLen lo l h) ver tt, [], c⟩
      | false => none
    | _, _ => none
  | _ => none

def isSliceA : AV → Bool
  | .sl _ _ _ => true
  | .row _ _ _ _ _ => true
  | .v (.slice none 0 0) => true
  | _ => false

def convA (hp : Nat → Option AObj) (src dst : TypeId) (x : AV) : Option R :=
  match P.underlying src, P.underlying dst, x with
  | some _, some (.int k), .v (.int k' n) =>
    match widens k' k with
    | true => some ⟨.v (.int k n), [], [inR k n]⟩
    | false => vR (.int k (k.wrap n))
  | some _, some .string, .v (.string s) => vR (.string s)
  | some .string, some (.slice e), .v (.string s) =>
    match P.underlying e with
    | some (.int .u8) => aR (.sl 1 (.ints .u8 (intsOfStr s)) false)
    | _ => none
  | some (.slice e), some .string, x =>
    match P.underlying e, contents P hp e x, isSliceA x with
    | some (.int .u8), some (.ints .u8 l, c), true => some ⟨.v (.string (strOfInts l)), [], c⟩
    | _, _, _ => none
  | _, _, _ => none

/-- the cells from a pointer on -/
def cellsA (hp : Nat → Option AObj) (a : AV) : Option (List AV × List Prop) :=
  match a with
  | .ip cs => some (cs, [])
  | .ptr k off => match hp k with
    | some (.cells _ cs) => some (cs.drop off, [])
    | _ => none
  | .rp k i ver off => match hp k with
    | some (.row _ _ q floor) => some ((q.get i).cells.drop off, [floor ≤ ver])
    | _ => none
  | _ => none

def loadFin (agg : Bool) (sz : Nat) (cs : List AV) (c : List Prop) : Option R :=
  match agg with
  | true => match Nat.ble sz cs.length with
    | true => some ⟨.agg (cs.take sz), [], c⟩
    | false => none
  | false => match cs with
    | x :: _ => some ⟨x, [], c⟩
    | [] => none

def loadA (hp : Nat → Option AObj) (t : TypeId) (a : AV) : Option R :=
  match sizeA P t, isAggA P t, cellsA hp a with
  | some sz, some agg, some (cs, c) => loadFin agg sz cs c
  | _, _, _ => none

def storeA (hp : Nat → Option AObj) (t : TypeId) (a x : AV) : Option R :=
  match sizeA P t with
  | none => none
  | some sz =>
    match stored x sz with
    | none => none
    | some xs =>
      match a with
      | .ptr k off => match hp k with
        | some (.cells T cs) => match lay cs off xs with
          | some cs' => some ⟨.junk, [(k, some (.cells T cs'))], []⟩
          | none => none
        | _ => none
      | .rp k i ver off => match hp k with
        | some (.row T s q _) =>
          match off, Nat.beq s sz with
          | 0, true => match q.set i x with
            | some q' => some ⟨.junk, [(k, some (.row T s q' q.len))], [ver = q.len]⟩
            | none => none
          | off, _ => match lay (q.get i).cells off xs with
            | some ys => match q.set i (.agg ys) with
              | some q' => some ⟨.junk, [(k, some (.row T s q' q.len))], [ver = q.len]⟩
              | none => none
            | none => none
        | _ => none
      | _ => none

def fieldPlaceA (t : TypeId) (f : Nat) : Option Nat :=
  match P.underlying t with
  | some (.struct fields) => match fields[f]? with
    | some fd => match sizeA P fd.type with
      | some (_ + 1) => some fd.offset
      | _ => none
    | none => none
  | _ => none

def indexAddrA (hp : Nat → Option AObj) (t : TypeId) (x i : AV) : Option R :=
  match x, i with
  | .sl sz q _, .v (.int _ i) => match elemSz P t sz with
    | true => some ⟨.ip (q.get i.toNat).cells, [], [0 ≤ i ∧ i < (q.len : Int)]⟩
    | false => none
  | .row k off len ver _, .v (.int _ i) => match rowSz hp k with
    | some sz => match elemSz P t sz with
      | true => some ⟨.rp k (ixPlus off i.toNat) ver 0, [], [0 ≤ i ∧ i < (len : Int)]⟩
      | false => none
    | none => none
  | _, _ => none

def indexA (t : TypeId) (x i : AV) : Option R :=
  match P.underlying t, x, i with
  | some .string, .v (.string s), .v (.int _ i) => some ⟨.v (.int .u8 (byteAt s i.toNat)), [], [0 ≤ i ∧ i < (s.size : Int)]⟩
  | some (.array n e), .agg cs, .v (.int _ i) =>
    match sizeA P e with
    | some sz => match partA P e cs (i.toNat * sz) with
      | some x => some ⟨x, [], [0 ≤ i ∧ i < (n : Int)]⟩
      | none => none
    | none => none
  | _, _, _ => none

def callA (hp : Nat → Option AObj) (f : AV) (xs : List AV) : Option R :=
  match f with
  | .fnv (.func g) first captured =>
    match look SG g, snaps P hp (((P.funcs[g]?).map (·.params.toList)).getD []) (first ++ xs ++ captured) with
    | some sig, some (ys, c, ks) => match sig ys with
      | some (r, c') => match plainA r with
        | true => some ⟨r, (match flat r with | true => [] | false => ks.map fun k => (k, none)), c ++ c'⟩
        | false => none
      | none => none
    | _, _ => none
  | _ => none

def placesA : List Field → Option (List (Nat × Nat))
  | [] => some []
  | f :: r => match sizeA P f.type, placesA r with
    | some s, some l => some ((f.offset, s) :: l)
    | _, _ => none

def buildA (t : TypeId) (z : List AV) (parts : List (Nat × AV)) : Option (List AV) :=
  match P.underlying t with
  | some (.struct fields) => match placesA P fields.toList with
    | some l => fillA (fun i => l[i]?) z parts
    | none => none
  | some (.array _ e) => match sizeA P e with
    | some s => fillA (fun i => some (i * s, s)) z parts
    | none => none
  | _ => none

def buildSliceA (key : Nat) (h : Option Hint) (t : TypeId) (len : Nat) (parts : List (Nat × AV)) : Option R :=
  match elemOf P t with
  | none => none
  | some e => match sizeA P e, zeroCellsA P e with
    | some (sz + 1), some z =>
      match Nat.ble (len * (sz + 1)) 16777216 && Nat.beq z.length (sz + 1), fillA (fun i => some (i * (sz + 1), sz + 1)) ((List.replicate len z).flatten) parts with
      | true, some cells => match seqOf (P.underlying e) (chunk (sz + 1) len cells) with
        | some q => match h with
          | some .own => some ⟨.row key 0 q.len q.len true, [(key, some (.row e (sz + 1) q 0))], []⟩
          | _ => match cells.all plain1 with
            | true => aR (.sl (sz + 1) q true)
            | false => none
        | none => none
      | _, _ => none
    | _, _ => none

/-- so many elements of zero -/
def seqZero (d : Option TypeDesc) (n : Nat) (z : AV) : Option (Seq AV) :=
  match d, z with
  | some (.int k), .v (.int k' m) => match kindEq k k' with
    | true => some (.ints k (List.replicate n m))
    | false => none
  | some .string, .v (.string s) => some (.strs (List.replicate n s))
  | some (.int _), _ | some .string, _ => none
  | _, z => some (.avs (List.replicate n z))

def makeSliceA (key : Nat) (t : TypeId) (l c : AV) : Option R :=
  match elemOf P t, l, c with
  | some e, .v (.int _ n), .v (.int _ m) => match sizeA P e, bytesA P e, zeroCellsA P e with
    | some (sz + 1), some bytes, some z =>
      match Nat.beq z.length (sz + 1), seqZero (P.underlying e) n.toNat (match sz, z with | 0, [x] => x | _, z => .agg z) with
      | true, some q => some ⟨.row key 0 n.toNat n.toNat false, [(key, some (.row e (sz + 1) q 0))], [0 ≤ n ∧ n ≤ m, m * (bytes : Int) ≤ 281474976710656 ∧ m ≤ 9223372036854775807]⟩
      | _, _ => none
    | _, _, _ => none
  | _, _, _ => none

/-- one operation, over what its operands are and the own objects that they name -/
def opA (key : Nat) (h : Option Hint) (o : Op) (ev : Operand → AV) (hp : Nat → Option AObj) : Option R :=
  match o with
  | .move x | .assign x => aR (ev x)
  | .pick c a b => match ev c with
    | .v (.bool true) => aR (ev a)
    | .v (.bool false) => aR (ev b)
    | _ => none
  | .alloc T => match zeroCellsA P T with
    | some z => some ⟨.ptr key 0, [(key, some (.cells T z))], []⟩
    | none => none
  | .box T x => match sizeA P T with
    | some sz => match stored (ev x) sz with
      | some cs => some ⟨.ptr key 0, [(key, some (.cells T cs))], []⟩
      | none => none
    | none => none
  | .build t parts => match zeroCellsA P t with
    | some z => match buildA P t z (parts.toList.map fun p => (p.1, ev p.2)) with
      | some cs => aR (.agg cs)
      | none => none
    | none => none
  | .buildSlice t len parts => buildSliceA P key h t len (parts.toList.map fun p => (p.1, ev p.2))
  | .load t a => loadA P hp t (ev a)
  | .store t a x => storeA P hp t (ev a) (ev x)
  | .nilCheck x => match ev x with
    | .ip cs => aR (.ip cs)
    | .rp k i ver off => aR (.rp k i ver off)
    | .ptr k off => aR (.ptr k off)
    | .fnv (.func g) a b => aR (.fnv (.func g) a b)
    | _ => none
  | .binOp op t x y _ => match binA P h op t (ev x) (ev y) with
    | some r => some r
    | none => nilA P op t (ev x) (ev y)
  | .unOp op _ x => unA h op (ev x)
  | .convert src dst x => convA P hp src dst (ev x)
  | .makeFunc fn first captured => aR (.fnv fn (first.toList.map ev) (captured.toList.map ev))
  | .makeSlice t l c => makeSliceA P key t (ev l) (ev c)
  | .slice t x lo hi mx => sliceA P hp t (ev x) (lo.map ev) (hi.map ev) (mx.map ev)
  | .fieldAddr s x f => match fieldPlaceA P s f, ev x with
    | some o, .ip cs => aR (.ip (cs.drop o))
    | some o, .ptr k off => aR (.ptr k (off + o))
    | some o, .rp k i ver off => aR (.rp k i ver (off + o))
    | _, _ => none
  | .field t x f => match P.underlying t, ev x with
    | some (.struct fields), .agg cs => match fields[f]? with
      | some fd => match partA P fd.type cs fd.offset with
        | some x => aR x
        | none => none
      | none => none
    | _, _ => none
  | .indexAddr t x i => indexAddrA P hp t (ev x) (ev i)
  | .index t x i => indexA P t (ev x) (ev i)
  | .extract x i => match ev x with
    | .tup vs => match vs[i]? with
      | some x => aR x
      | none => none
    | _ => none
  | .call c => match c.callee with
    | .builtin b => builtinA P key hp b c.argTypes.toList (c.args.toList.map ev)
    | .value f => callA P SG hp (ev f) (c.args.toList.map ev)
    | _ => none
  | _ => none

/-- the hint's word on a value -/
def hinted (h : Option Hint) (r : R) : R :=
  match h with
  | some (.b c) => match r.val with
    | .v (.bool x) => { r with val := .v (.bool c), cond := (x = c) :: r.cond }
    | _ => r
  | some (.is a) => { r with val := a, cond := (r.val = a) :: r.cond }
  | _ => r

def evalA (fr : List (Nat × AV)) : Operand → AV
  | .tmp t => (look fr t).getD .junk
  | .const v => constA v
  | .global _ => .junk
  | .func f => .fnv (.func f) [] []

def restr (hp : List (Nat × AObj)) (ks : List Nat) (k : Nat) : Option AObj :=
  match ks.any (Nat.beq k) with
  | true => look hp k
  | false => none

structure Took where
  A : AS
  cond : List Prop
  need : List Nat
  ups : List Nat

/-- is the operation wanted? -/
def wantedA (ops : List Oper) (fr : List (Nat × AV)) (o : Oper) : Option Bool :=
  match o.guard with
  | none => some true
  | some (j, want) => match ops[j]? with
    | some g => match g.dst with
      | some d => match look fr d with
        | some (.v (.bool b)) => some (b == want)
        | _ => none
      | none => none
    | none => none

def putA (A : AS) (dst : Option Tmp) (x : AV) : Option AS :=
  match dst with
  | none => some A
  | some d => match Nat.blt d A.n with
    | true => some { A with fr := put1 A.fr d x }
    | false => none

/-- operation number i of a region -/
def takeOp (hs : List (Nat × Hint)) (ops : List Oper) (i : Nat) (A : AS) : Option Took :=
  match ops[i]? with
  | none => none
  | some o =>
    match wantedA ops A.fr o with
    | none => none
    | some false => match putA A o.dst .junk with
      | some A' => some ⟨A', [], [], []⟩
      | none => none
    | some true =>
      let need := o.op.operands.toList.flatMap fun x => keysOf (evalA A.fr x)
      match opA P SG (A.nx + i) (look hs i) o.op (evalA A.fr) (restr A.hp need) with
      | none => none
      | some r0 =>
        let r := hinted (look hs i) r0
        match putA { A with hp := applyUpd A.hp r.upd } o.dst r.val with
        | some A' => some ⟨A', r.cond, need, r.upd.map (·.1)⟩
        | none => none

/-- the operations in the text's order; the footprints last first -/
def takeOps (hs : List (Nat × Hint)) (ops : List Oper) : Nat → Nat → AS → Option (AS × List Prop × List (List Nat × List Nat))
  | 0, _, A => some (A, [], [])
  | n + 1, i, A => match takeOp P SG hs ops i A with
    | none => none
    | some t => match takeOps hs ops n (i + 1) t.A with
      | some (A', c, fs) => some (A', t.cond ++ c, (t.need, t.ups) :: fs)
      | none => none

def meets (a b : List Nat) : Bool := a.any fun x => b.any (Nat.beq x)

/-- two operations whose order makes no difference -/
def indep (ops : Array Oper) (x y : Oper) (f g : List Nat × List Nat) : Bool :=
  x.apart ops y && !(meets f.2 g.1) && !(meets f.2 g.2) && !(meets g.2 f.1)

/-- no operation waits for a later one -/
def backOk : List Oper → Nat → Bool
  | [], _ => true
  | o :: r, i => (o.after.all fun e => !Region.binds .any e || Nat.blt e.on i) && backOk r (i + 1)

/-- each pair of a region's operations: one behind the other, or apart -/
def drawOk (ops : Array Oper) (fs : List (List Nat × List Nat)) : Bool :=
  backOk ops.toList 0 &&
  (List.range ops.size).all fun j => (List.range j).all fun i =>
    ((Region.before ops).getD j 0).testBit i ||
    match ops[i]?, ops[j]?, fs[i]?, fs[j]? with
    | some x, some y, some f, some g => indep ops x y f g
    | _, _, _, _ => false

inductive CHint where
  | ops (id : Nat) (h : List (Nat × Hint))
  | loop (slots keys : List Nat) (nx : Nat) (e : Exit) (A : AS)

def hintsAt (id : Nat) : List CHint → List (Nat × Hint) × List CHint
  | .ops i h :: r => match Nat.beq i id with
    | true => (h, r)
    | false => ([], .ops i h :: r)
  | r => ([], r)

/-- no key from n on -/
def below1 (n : Nat) (x : AV) : Bool := (keyOf x).all fun k => Nat.blt k n

def belowA (n : Nat) : AV → Bool
  | .agg cs | .tup cs => cs.all fun
    | .agg _ | .tup _ | .fnv _ _ _ | .ifc _ _ => false
    | x => below1 n x
  | .fnv _ a b => a.all (below1 n) && b.all (below1 n) && (a ++ b).all fun
    | .agg _ | .tup _ | .fnv _ _ _ | .ifc _ _ => false
    | _ => true
  | .ifc _ x => match x with
    | .agg _ | .tup _ | .fnv _ _ _ | .ifc _ _ => false
    | x => below1 n x
  | x => below1 n x

def belowO (n : Nat) : AObj → Bool
  | .cells _ cs => cs.all (belowA n)
  | .row _ _ q _ => match q with
    | .ints _ _ | .strs _ => true
    | .avs l => l.all fun x => x.cells.all (belowA n)
    | .fn _ _ => false

def weaken (A : AS) (slots keys : List Nat) (nx : Nat) : Option AS :=
  let fr := keep A.fr slots
  let hp := keep A.hp keys
  match fr.all (fun x => belowA nx x.2) && hp.all (fun x => Nat.blt x.1 nx && belowO nx x.2) && Nat.ble nx A.nx with
  | true => some { n := A.n, fr, hp, nx }
  | false => none

variable (LT : Code → AS → Exit → AS → Prop)

def evCode : Code → List CHint → AS → Option (Exit × AS × List Prop × List CHint)
  | .skip, hs, A => some (.normal, A, [], hs)
  | .region id ops draw, hs, A =>
    match takeOps P SG (hintsAt id hs).1 ops.toList ops.size 0 A with
    | none => none
    | some (A', c, fs) =>
      match !draw || drawOk ops fs with
      | true => some (.normal, { A' with nx := A'.nx + ops.size }, c, (hintsAt id hs).2)
      | false => none
  | .seq a b, hs, A => match evCode a hs A with
    | some (.normal, A', c, hs') => match evCode b hs' A' with
      | some (e, A'', c', hs'') => some (e, A'', c ++ c', hs'')
      | none => none
    | r => r
  | .cond x a b, hs, A => match evalA A.fr x with
    | .v (.bool true) => evCode a hs A
    | .v (.bool false) => evCode b hs A
    | _ => none
  | .block id a, hs, A => match evCode a hs A with
    | some (.exit i, A', c, hs') => match Nat.beq i id with
      | true => some (.normal, A', c, hs')
      | false => some (.exit i, A', c, hs')
    | r => r
  | .loop a, hs, A => match hs with
    | .loop slots keys nx e A' :: hs' => match weaken A slots keys nx with
      | some A0 => some (e, A', [LT a A0 e A'], hs')
      | none => none
    | _ => none
  | .exit id, hs, A => some (.exit id, A, [], hs)
  | .ret, hs, A => some (.ret, A, [], hs)
  | _, _, _ => none

/-- code, and what is kept behind it -/
def evW (c : Code) (hs : List CHint) (A : AS) (slots keys : List Nat) (nx : Nat) : Option (Exit × AS × List Prop) :=
  match evCode P SG LT c hs A with
  | some (e, A', c, []) => match weaken A' slots keys nx with
    | some A'' => some (e, A'', c)
    | none => none
  | _ => none

def argsFr : Nat → List AV → List (Nat × AV)
  | _, [] => []
  | i, x :: xs => (i, x) :: argsFr (i + 1) xs

/-- a slice of which it isn't said that it is full -/
def loose1 (ti : Bool) : AV → AV
  | .sl sz q t => .sl sz q (t && ti)
  | x => x

def loose (ti : Bool) : AV → AV
  | .agg cs => .agg (cs.map (loose1 ti))
  | x => loose1 ti x

/-- what a function hands back: own rows as what they hold -/
def resA (ti : Bool) (A : AS) (t : TypeId) (r : ResultVar) : Option (AV × List Prop) :=
  match r with
  | .tmp s => match look A.fr s with
    | some x => match snap P (restr A.hp (keysOf x)) t x with
      | some (x, c, _) => some (loose ti x, c)
      | none => none
    | none => none
  | .cell _ _ => none

def resAs (ti : Bool) (A : AS) : List TypeId → List ResultVar → Option (List AV × List Prop)
  | ts, r :: rs => match resA P ti A (ts.headD 0) r, resAs ti A ts.tail rs with
    | some (x, c), some (xs, cs) => some (x :: xs, c ++ cs)
    | _, _ => none
  | _, [] => some ([], [])

def resOf (ti : Bool) (A : AS) (ts : List TypeId) (rs : List ResultVar) : Option (AV × List Prop) :=
  match resAs P ti A ts rs with
  | some ([x], c) => some (x, c)
  | some (xs, c) => some (.tup xs, c)
  | none => none

def startA (fn : Func) (args : List AV) : AS := { n := args.length + (fn.ntmps - args.length), fr := argsFr 0 args, hp := [], nx := 0 }

/-- a whole function -/
def evFn (ti : Bool) (fn : Func) (hs : List CHint) (args : List AV) : Option (AV × List Prop) :=
  match fn.body with
  | none => none
  | some c => match evCode P SG LT c hs (startA fn args) with
    | some (.ret, A, c, []) | some (.normal, A, c, []) => match resOf P ti A fn.resultTypes.toList fn.results.toList with
      | some (r, c') => some (r, c ++ c')
      | none => none
    | _ => none

end
end Go.Ev
