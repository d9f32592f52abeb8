/- An evaluator of the model's code, proved right. No condition. -/
import Derived.WalkKit
import Derived.KernelRfl
import Derived.Orders
import Derived.Laws.StructEq
set_option linter.unusedSimpArgs false
set_option linter.unusedVariables false
set_option linter.unusedSectionVars false
/- A plain evaluator of the model's code over values that know no memory (slices as lists): definitions only; no condition. -/
namespace Go.Ev

/-- what a slice holds, element by element; 'frz': bytes of a row whose head strings may share: nobody writes them -/
inductive Seq (α : Type) where
  | ints (k : IntKind) (l : List Int)
  | frz (l : List Int)
  | strs (l : List ByteArray)
  | avs (l : List α)
  | fn (n : Nat) (f : Nat → α)

/-- values: 'sl': a slice that nobody writes any more; 'sle': an empty one that is not nil; 'row': a slice of a row of the call's own; 'ip': a pointer to cells that nobody writes; 'rp': to an element of an own row; 'ptr': to a cell of an own variable; 'gp': to a package-level variable; 'mp': a map that nobody writes any more; 'mpk': an own map -/
inductive AV where
  | v (x : Value)
  | junk
  | fl (k : FloatKind) (x : Nat)
  | agg (cs : List AV)
  | tup (vs : List AV)
  | sl (sz : Nat) (q : Seq AV) (tight : Bool)
  | sle
  | row (k off len ver : Nat) (tight : Bool)
  | ip (cs : List AV)
  | rp (k i ver off : Nat)
  | ptr (k off : Nat)
  | fnv (f : Fn) (first captured : List AV)
  | ifc (t : TypeId) (x : AV)
  | gp (g : Nat)
  | mp (ks : List Value) (vs : List AV)
  | mpk (k : Nat)

def Seq.len {α : Type} : Seq α → Nat
  | .ints _ l => l.length
  | .frz l => l.length
  | .strs l => l.length
  | .avs l => l.length
  | .fn n _ => n

/-- .. read alone -/
def Seq.thaw {α : Type} : Seq α → Seq α
  | .frz l => .ints .u8 l
  | q => q

def Seq.get (q : Seq AV) (i : Nat) : AV :=
  match q with
  | .ints k l => .v (.int k (l.getD i 0))
  | .frz l => .v (.int .u8 (l.getD i 0))
  | .strs l => .v (.string (l.getD i ByteArray.empty))
  | .avs l => l.getD i .junk
  | .fn _ f => f i

/-- package-level tables that nobody writes: number, an element's size, what they hold -/
class Globs where
  tab : List (Nat × Nat × Seq AV)

def AV.cells : AV → List AV
  | .agg cs => cs
  | x => [x]

/-- what lies at an own key: a variable's cells; a row: its element type, the element's size, its contents, and the least version that may be read -/
inductive AObj where
  | cells (T : TypeId) (cs : List AV)
  | row (T : TypeId) (sz : Nat) (q : Seq AV) (floor : Nat)
  | map (es : List (Value × AV))

/-- a contract: 'p': of a function that keeps nothing; 's': of one to which own objects are lent (mask: which arguments name them): the objects are numbered from rsv on -/
inductive Sig where
  | p (f : List AV → Option (AV × List Prop))
  | s (mask : List Bool) (f : List AObj → List AV → Option (AV × List AObj × List Prop))

abbrev SGT := List (FuncId × Sig)

/-- keys from here on are those of objects that were lent by the caller -/
def rsv : Nat := 4294967296

structure AS where
  n : Nat
  fr : List (Nat × AV)
  hp : List (Nat × AObj)
  nx : Nat

inductive Hint where
  | b (b : Bool)
  | is (a : AV)
  | wrap
  | own
  | part
  | at (i : Nat)
  | nil (T : TypeId)
  | nils (T : TypeId)

def look {α : Type} : List (Nat × α) → Nat → Option α
  | [], _ => none
  | (k, a) :: r, t => match Nat.beq k t with
    | true => some a
    | false => look r t

def drop1 {α : Type} : List (Nat × α) → Nat → List (Nat × α)
  | [], _ => []
  | (k, a) :: r, t => match Nat.beq k t with
    | true => drop1 r t
    | false => (k, a) :: drop1 r t

def put1 {α : Type} (l : List (Nat × α)) (t : Nat) (a : α) : List (Nat × α) := (t, a) :: drop1 l t

def keep {α : Type} (l : List (Nat × α)) : List Nat → List (Nat × α)
  | [] => []
  | t :: r => match look l t with
    | some a => (t, a) :: keep l r
    | none => keep l r

def applyUpd (hp : List (Nat × AObj)) : List (Nat × Option AObj) → List (Nat × AObj)
  | [] => hp
  | (k, some o) :: r => applyUpd (put1 hp k o) r
  | (k, none) :: r => applyUpd (drop1 hp k) r

/-- what an operation comes to: a value, own objects that turn, what is left to be shown -/
structure R where
  val : AV
  upd : List (Nat × Option AObj)
  cond : List Prop

def AllP : List Prop → Prop
  | [] => True
  | p :: r => p ∧ AllP r

/-- the number lies within its kind -/
def inR : IntKind → Int → Prop
  | .i8, n => -128 ≤ n ∧ n ≤ 127
  | .i16, n => -32768 ≤ n ∧ n ≤ 32767
  | .i32, n => -2147483648 ≤ n ∧ n ≤ 2147483647
  | .i64, n => -9223372036854775808 ≤ n ∧ n ≤ 9223372036854775807
  | .u8, n => 0 ≤ n ∧ n ≤ 255
  | .u16, n => 0 ≤ n ∧ n ≤ 65535
  | .u32, n => 0 ≤ n ∧ n ≤ 4294967295
  | .u64, n => 0 ≤ n ∧ n ≤ 18446744073709551615

def vR (x : Value) : Option R := some ⟨.v x, [], []⟩
def aR (x : AV) : Option R := some ⟨x, [], []⟩

/-- a reckoned number: wrapped where the hint says so, else bare and within its kind -/
def arith (h : Option Hint) (k : IntKind) (n : Int) : R :=
  match h with
  | some .wrap => ⟨.v (.int k (k.wrap n)), [], []⟩
  | _ => ⟨.v (.int k n), [], [inR k n]⟩

def kindEq : IntKind → IntKind → Bool
  | .i8, .i8 | .i16, .i16 | .i32, .i32 | .i64, .i64 | .u8, .u8 | .u16, .u16 | .u32, .u32 | .u64, .u64 => true
  | _, _ => false

/-- the bits of two numbers -/
def bitsOf (op : BinOp) (k : IntKind) (x y : Int) : Int :=
  match op with
  | .and => k.wrap (BitVec.ofInt k.bits x &&& BitVec.ofInt k.bits y).toNat
  | .or => k.wrap (BitVec.ofInt k.bits x ||| BitVec.ofInt k.bits y).toNat
  | .xor => k.wrap (BitVec.ofInt k.bits x ^^^ BitVec.ofInt k.bits y).toNat
  | _ => k.wrap (BitVec.ofInt k.bits x &&& ~~~BitVec.ofInt k.bits y).toNat

def intOp (h : Option Hint) (op : BinOp) (k : IntKind) (x y : Int) : Option R :=
  match op with
  | .add => some (arith h k (x + y))
  | .sub => some (arith h k (x - y))
  | .mul => some (arith h k (x * y))
  | .quo => let r := arith h k (x.tdiv y); some { r with cond := (y ≠ 0) :: r.cond }
  | .rem => some ⟨.v (.int k (x.tmod y)), [], [y ≠ 0]⟩
  | .and => vR (.int k (bitsOf .and k x y))
  | .or => vR (.int k (bitsOf .or k x y))
  | .xor => vR (.int k (bitsOf .xor k x y))
  | .andNot => vR (.int k (bitsOf .andNot k x y))
  | .eql => vR (.bool (x == y))
  | .neq => vR (.bool (x != y))
  | .lss => vR (.bool (decide (x < y)))
  | .leq => vR (.bool (decide (x ≤ y)))
  | .gtr => vR (.bool (decide (x > y)))
  | .geq => vR (.bool (decide (x ≥ y)))
  | _ => none

def shiftOp (h : Option Hint) (op : BinOp) (k : IntKind) (x y : Int) : Option R :=
  match op with
  | .shl => let r := arith h k (x * 2 ^ (min y.toNat k.bits)); some { r with cond := (0 ≤ y) :: r.cond }
  | .shr => some ⟨.v (.int k (x / (2 ^ (min y.toNat k.bits)))), [], [0 ≤ y]⟩
  | _ => none

def strOp (h : Option Hint) (op : BinOp) (x y : ByteArray) : Option R :=
  match op with
  | .add => some ⟨.v (.string (x ++ y)), [], [((x.size + y.size : Nat) : Int) ≤ 9223372036854775807]⟩
  | .eql => vR (.bool (x.toList == y.toList))
  | .neq => vR (.bool (!(x.toList == y.toList)))
  | .lss => vR (.bool (Op.bytesLess x.toList y.toList))
  | .leq => vR (.bool (Op.bytesLess x.toList y.toList || x.toList == y.toList))
  | .gtr => vR (.bool (!(Op.bytesLess x.toList y.toList || x.toList == y.toList)))
  | .geq => vR (.bool (!(Op.bytesLess x.toList y.toList)))
  | _ => none

def nilP : AV → Option Bool
  | .v (.pointer none) => some true
  | .ip _ | .rp _ _ _ _ | .ptr _ _ | .gp _ => some false
  | _ => none

def nilF : AV → Option Bool
  | .v .nilFunc => some true
  | .fnv _ _ _ => some false
  | _ => none

def nilS : AV → Option (Bool × List Prop)
  | .v (.slice none 0 0) => some (true, [])
  | .sle => some (false, [])
  | .sl _ q _ => some (false, [0 < q.len])
  | _ => none

/-- a pointer, a function or a slice held against nil -/
def nilA (P : Program) (op : BinOp) (t : TypeId) (x y : AV) : Option R :=
  match P.underlying t, y with
  | some (.pointer _), .v (.pointer none) => match nilP x, op with
    | some a, .eql => vR (.bool a)
    | some a, .neq => vR (.bool (!a))
    | _, _ => none
  | some (.func _ _ _), .v .nilFunc => match nilF x, op with
    | some a, .eql => vR (.bool a)
    | some a, .neq => vR (.bool (!a))
    | _, _ => none
  | some (.slice _), .v (.slice none 0 0) => match nilS x, op with
    | some (a, c), .eql => some ⟨.v (.bool a), [], c⟩
    | some (a, c), .neq => some ⟨.v (.bool (!a)), [], c⟩
    | _, _ => none
  | _, _ => none

def fkEq : FloatKind → FloatKind → Bool
  | .f32, .f32 | .f64, .f64 => true
  | _, _ => false

def feq (k : FloatKind) (a b : Nat) : Bool := k.format.order a b == some .eq
def flt (k : FloatKind) (a b : Nat) : Bool := k.format.order a b == some .lt
def fgt (k : FloatKind) (a b : Nat) : Bool := k.format.order a b == some .gt

/-- two floats held against each other -/
def floatOp (op : BinOp) (k : FloatKind) (a b : Nat) : Option R :=
  match op with
  | .eql => vR (.bool (feq k a b))
  | .neq => vR (.bool (!(feq k a b)))
  | .lss => vR (.bool (flt k a b))
  | .leq => vR (.bool (flt k a b || feq k a b))
  | .gtr => vR (.bool (fgt k a b))
  | .geq => vR (.bool (fgt k a b || feq k a b))
  | _ => none

/-- a float's bits, as far as they are known: of a NaN not which one -/
def fbits : AV → Option Nat
  | .v (.float .f64 a) => some a
  | .fl .f64 a => some a
  | _ => none

/-- what stands for every NaN -/
def qnan : Nat := 9221120237041090560
def fadd (a b : Nat) : Nat := (FloatKind.f64.format.add a b).getD qnan
def fsub (a b : Nat) : Nat := (FloatKind.f64.format.sub a b).getD qnan
def fmul (a b : Nat) : Nat := (FloatKind.f64.format.mul a b).getD qnan
def fdiv (a b : Nat) : Nat := (FloatKind.f64.format.div a b).getD qnan
def fneg (a : Nat) : Nat := Op.negFloat .f64 a
def fofI (n : Int) : Nat := FloatKind.f64.nearest n
def ftoI (a : Nat) : Int := ((FloatKind.f64.decode a).toInt .zero).getD 0
def fhasI (a : Nat) : Prop := ((FloatKind.f64.decode a).toInt .zero).isSome = true

/-- two floats reckoned with -/
def fbinA (op : BinOp) (x y : AV) : Option R :=
  match fbits x, fbits y with
  | some a, some b => match op with
    | .add => aR (.fl .f64 (fadd a b))
    | .sub => aR (.fl .f64 (fsub a b))
    | .mul => aR (.fl .f64 (fmul a b))
    | .quo => aR (.fl .f64 (fdiv a b))
    | op => floatOp op .f64 a b
  | _, _ => none

def funA (op : UnOp) (x : AV) : Option R :=
  match op, x with
  | .neg, .v (.float .f64 a) => vR (.float .f64 (fneg a))
  | .neg, .fl .f64 a => aR (.fl .f64 (fneg a))
  | _, _ => none

/-- conversions of floats -/
def fconvA (P : Program) (src dst : TypeId) (x : AV) : Option R :=
  match P.underlying src, P.underlying dst, x with
  | some _, some (.float .f64), .v (.int _ n) => vR (.float .f64 (fofI n))
  | some _, some (.float .f64), .v (.float .f64 a) => vR (.float .f64 a)
  | some _, some (.float .f64), .fl .f64 a => aR (.fl .f64 a)
  | some _, some (.int k), x => match fbits x with
    | some a => some ⟨.v (.int k (ftoI a)), [], [fhasI a, inR k (ftoI a)]⟩
    | none => none
  | _, _, _ => none

def binA (P : Program) (h : Option Hint) (op : BinOp) (t : TypeId) (x y : AV) : Option R :=
  match x, y with
  | .v (.float k a), .v (.float k' b) => match fkEq k k' with
    | true => floatOp op k a b
    | false => none
  | .v (.int k a), .v (.int yk b) =>
    match op with
    | .shl | .shr => shiftOp h op k a b
    | _ => match kindEq k yk with
      | true => intOp h op k a b
      | false => none
  | .v (.string a), .v (.string b) => strOp h op a b
  | .v (.bool a), .v (.bool b) =>
    match P.underlying t, op with
    | some .bool, .eql => vR (.bool (a == b))
    | some .bool, .neq => vR (.bool (!(a == b)))
    | _, _ => none
  | _, _ => none

def unA (h : Option Hint) (op : UnOp) (x : AV) : Option R :=
  match op, x with
  | .neg, .v (.int k n) => some (arith h k (0 - n))
  | .xor, .v (.int k n) => vR (.int k (bitsOf .xor k (if k.signed then -1 else k.max) n))
  | .not, .v (.bool b) => vR (.bool (!b))
  | _, _ => none

/-- every number of the one kind is one of the other -/
def widens : IntKind → IntKind → Bool
  | .u8, .u16 | .u8, .u32 | .u8, .u64 | .u8, .i16 | .u8, .i32 | .u8, .i64 => true
  | .u16, .u32 | .u16, .u64 | .u16, .i32 | .u16, .i64 => true
  | .u32, .u64 | .u32, .i64 => true
  | .i8, .i16 | .i8, .i32 | .i8, .i64 | .i16, .i32 | .i16, .i64 | .i32, .i64 => true
  | a, b => kindEq a b

def strOfInts (l : List Int) : ByteArray := ⟨(l.map fun n => UInt8.ofNat n.toNat).toArray⟩
def intsOfStr (s : ByteArray) : List Int := s.data.toList.map fun b => (b.toNat : Int)

def seqEmpty (d : Option TypeDesc) : Seq AV :=
  match d with
  | some (.int k) => .ints k []
  | some .string => .strs []
  | _ => .avs []

def intsOf (k : IntKind) : List AV → Option (List Int)
  | [] => some []
  | .v (.int k' n) :: r => match kindEq k k', intsOf k r with
    | true, some l => some (n :: l)
    | _, _ => none
  | _ => none

def strsOf : List AV → Option (List ByteArray)
  | [] => some []
  | .v (.string s) :: r => match strsOf r with
    | some l => some (s :: l)
    | none => none
  | _ => none

def seqOf (d : Option TypeDesc) (l : List AV) : Option (Seq AV) :=
  match d with
  | some (.int k) => match intsOf k l with
    | some l => some (.ints k l)
    | none => none
  | some .string => match strsOf l with
    | some l => some (.strs l)
    | none => none
  | _ => some (.avs l)

def Seq.app (q r : Seq AV) : Option (Seq AV) :=
  match q, r with
  | .ints k l, .ints k' l' => match kindEq k k' with
    | true => some (.ints k (l ++ l'))
    | false => none
  | .frz l, .ints .u8 l' => some (.frz (l ++ l'))
  | .strs l, .strs l' => some (.strs (l ++ l'))
  | .avs l, .avs l' => some (.avs (l ++ l'))
  | .avs [], .fn n f => some (.fn n f)
  | .fn n f, .avs l => some (.fn (n + l.length) fun i => match Nat.blt i n with | true => f i | false => l.getD (i - n) .junk)
  | _, _ => none

def Seq.set (q : Seq AV) (i : Nat) (x : AV) : Option (Seq AV) :=
  match q, x with
  | .ints k l, .v (.int k' n) => match kindEq k k' with
    | true => some (.ints k (l.set i n))
    | false => none
  | .strs l, .v (.string s) => some (.strs (l.set i s))
  | .avs l, x => some (.avs (l.set i x))
  | _, _ => none

def Seq.take (q : Seq AV) (n : Nat) : Seq AV :=
  match q with
  | .ints k l => .ints k (l.take n)
  | .frz l => .ints .u8 (l.take n)
  | .strs l => .strs (l.take n)
  | .avs l => .avs (l.take n)
  | .fn m f => .fn (min n m) f

def Seq.drop (q : Seq AV) (n : Nat) : Seq AV :=
  match q with
  | .ints k l => .ints k (l.drop n)
  | .frz l => .ints .u8 (l.drop n)
  | .strs l => .strs (l.drop n)
  | .avs l => .avs (l.drop n)
  | .fn m f => .fn (m - n) fun i => f (n + i)

def elemOf (P : Program) (t : TypeId) : Option TypeId :=
  match P.underlying t with
  | some (.slice e) => some e
  | _ => none

def sizeA (P : Program) (t : TypeId) : Option Nat := (P.info? t).map (·.size)
def bytesA (P : Program) (t : TypeId) : Option Nat := (P.info? t).map (·.bytes)

def isAggA (P : Program) (t : TypeId) : Option Bool :=
  match P.underlying t with
  | some (.struct _) | some (.array _ _) => some true
  | some _ => some false
  | none => none

/-- the own keys that a value names by itself -/
def keyOf : AV → List Nat
  | .row k _ _ _ _ | .rp k _ _ _ | .ptr k _ | .mpk k => [k]
  | _ => []

def keysOf : AV → List Nat
  | .agg cs => cs.flatMap keyOf
  | .tup cs => cs.flatMap keyOf
  | x => keyOf x

/-- the own keys that a variable's cells name -/
def objKeys : AObj → List Nat
  | .cells _ cs => cs.flatMap keyOf
  | .row _ _ _ _ | .map _ => []

/-- keys, and those that their variables name -/
def deep (hp : List (Nat × AObj)) (ks : List Nat) : List Nat := ks ++ ks.flatMap fun k => match look hp k with
  | some o => objKeys o
  | none => []

/-- a value without own keys, at the depth that the evaluator looks at -/
def plain1 : AV → Bool
  | .row _ _ _ _ _ | .rp _ _ _ _ | .ptr _ _ | .mpk _ | .fnv _ _ _ | .junk => false
  | .agg _ | .tup _ | .ifc _ _ => false
  | _ => true

def plainA : AV → Bool
  | .agg cs => cs.all plain1
  | .tup cs => cs.all fun
    | .agg ds => ds.all plain1
    | x => plain1 x
  | .fnv _ [] [] => true
  | .ifc _ x => plain1 x
  | x => plain1 x

/-- a value without memory -/
def flat1 : AV → Bool
  | .v _ | .fl _ _ => true
  | _ => false

def flat : AV → Bool
  | .agg cs => cs.all flat1
  | .tup cs => cs.all fun
    | .agg ds => ds.all flat1
    | x => flat1 x
  | x => flat1 x

/-- are a row's elements without own keys? -/
def seqPlain : Seq AV → Bool
  | .ints _ _ => true
  | .frz _ => true
  | .strs _ => true
  | .avs l => l.all fun x => x.cells.all plain1
  | .fn _ _ => false

/-- are a row's elements without own keys, at each place? -/
def SeqPlain (q : Seq AV) : Prop := ∀ i, i < q.len → ∀ j (h : j < (q.get i).cells.length), plain1 ((q.get i).cells[j]) = true

/-- an own row as what it holds -/
def snapRow (hp : Nat → Option AObj) (k off len ver : Nat) (tight : Bool) : Option (AV × List Prop × List Nat) :=
  match hp k with
  | some (.row _ sz q floor) =>
    match seqPlain q, off with
    | true, 0 => some (.sl sz q.thaw tight, [len = q.len, floor ≤ ver], [k])
    | true, off + 1 => some (.sl sz ((q.drop (off + 1)).take len) tight, [floor ≤ ver], [k])
    | false, 0 => match q with
      | .fn n f => some (.sl sz (.fn n f) tight, [len = n, floor ≤ ver, ∀ i, i < n → (f i).cells.all plain1 = true], [k])
      | _ => none
    | false, _ => none
  | _ => none

def snap1 (hp : Nat → Option AObj) (x : AV) : Option (AV × List Prop × List Nat) :=
  match x with
  | .row k off len ver tight => snapRow hp k off len ver tight
  | x => match plain1 x with
    | true => some (x, [], [])
    | false => none

def snapL (hp : Nat → Option AObj) : List AV → Option (List AV × List Prop × List Nat)
  | [] => some ([], [], [])
  | x :: xs =>
    match snap1 hp x, snapL hp xs with
    | some (y, c, k), some (ys, cs, ks) => some (y :: ys, c ++ cs, k ++ ks)
    | _, _ => none

/-- a value as it is handed to a call that keeps nothing: own rows as what they hold -/
def snap (P : Program) (hp : Nat → Option AObj) (t : TypeId) (x : AV) : Option (AV × List Prop × List Nat) :=
  match x with
  | .row k off len ver tight => snapRow hp k off len ver tight
  | .v (.slice none 0 0) =>
    match elemOf P t with
    | some e => match sizeA P e with
      | some sz => some (.sl sz (seqEmpty (P.underlying e)) true, [], [])
      | none => none
    | none => none
  | .agg cs => match snapL hp cs with
    | some (ds, c, k) => some (.agg ds, c, k)
    | none => none
  | x => match plainA x with
    | true => some (x, [], [])
    | false => none

def snaps (P : Program) (hp : Nat → Option AObj) : List TypeId → List AV → Option (List AV × List Prop × List Nat)
  | ts, x :: xs =>
    match snap P hp (ts.headD 0) x, snaps P hp ts.tail xs with
    | some (y, c, k), some (ys, cs, ks) => some (y :: ys, c ++ cs, k ++ ks)
    | _, _ => none
  | _, [] => some ([], [], [])

/-- cells 'xs' laid over 'cs' from place 'off' on -/
def lay (cs : List AV) (off : Nat) (xs : List AV) : Option (List AV) :=
  match Nat.ble (off + xs.length) cs.length with
  | true => some (cs.take off ++ xs ++ cs.drop (off + xs.length))
  | false => none

def isJunk : AV → Bool
  | .junk => true
  | .tup _ | .agg _ => true
  | _ => false

/-- the cells of a value that is stored: none of them unknown -/
def stored (x : AV) (sz : Nat) : Option (List AV) :=
  match x.cells.any isJunk, Nat.beq x.cells.length sz with
  | false, true => some x.cells
  | _, _ => none

def fillA (place : Nat → Option (Nat × Nat)) (cells : List AV) : List (Nat × AV) → Option (List AV)
  | [] => some cells
  | (i, x) :: rest =>
    match place i with
    | none => none
    | some (off, size) =>
      match stored x size with
      | some xs => match lay cells off xs with
        | some cells => fillA place cells rest
        | none => none
      | none => none

def scalarV : Value → Bool
  | .agg _ | .tuple _ => false
  | _ => true

def constA (x : Value) : AV :=
  match x with
  | .agg cs => match cs.toList.all scalarV with
    | true => .agg (cs.toList.map .v)
    | false => .junk
  | .tuple _ => .junk
  | x => .v x

def zeroCellsA (P : Program) (t : TypeId) : Option (List AV) :=
  match (P.info? t).bind (·.zero) with
  | some z => match z.cells.toList.all scalarV with
    | true => some (z.cells.toList.map .v)
    | false => none
  | none => none

def chunk (sz : Nat) : Nat → List AV → List AV
  | 0, _ => []
  | n + 1, l => (match sz with | 1 => l.headD .junk | _ => .agg (l.take sz)) :: chunk sz n (l.drop sz)

def partA (P : Program) (t : TypeId) (cs : List AV) (off : Nat) : Option AV :=
  match isAggA P t, sizeA P t with
  | some true, some sz => match Nat.ble (off + sz) cs.length with
    | true => some (.agg ((cs.drop off).take sz))
    | false => none
  | some false, some _ => cs[off]?
  | _, _ => none

/-- the parts of two structs, held against each other -/
def eqFs (P : Program) (E : TypeId → AV → AV → Option Bool) (xs ys : List AV) : List Field → Option Bool
  | [] => some true
  | f :: fs => match f.name == "_" with
    | true => eqFs P E xs ys fs
    | false => match partA P f.type xs f.offset, partA P f.type ys f.offset with
      | some a, some b => match E f.type a b, eqFs P E xs ys fs with
        | some r, some s => some (r && s)
        | _, _ => none
      | _, _ => none

/-- two values held against each other -/
def eqCell (P : Program) : Nat → TypeId → AV → AV → Option Bool
  | 0, _, _, _ => none
  | d + 1, t, x, y => match P.underlying t, x, y with
    | some .bool, .v (.bool a), .v (.bool b) => some (a == b)
    | some (.int _), .v (.int k a), .v (.int k' b) => match kindEq k k' with
      | true => some (a == b)
      | false => none
    | some (.float _), .v (.float k a), .v (.float k' b) => match fkEq k k' with
      | true => some (Op.floatEq k a b)
      | false => none
    | some .string, .v (.string a), .v (.string b) => some (a.toList == b.toList)
    | some (.struct fs), .agg xs, .agg ys => match P.stoodInHeld t with
      | false => eqFs P (eqCell P d) xs ys fs.toList
      | true => none
    | _, _, _ => none

def aggEqA (P : Program) (op : BinOp) (t : TypeId) (x y : AV) : Option R :=
  match x, y with
  | .agg _, .agg _ => match P.eqGuardType P.depth t with
    | false => match eqCell P 8 t x y, op with
      | some r, .eql => vR (.bool r)
      | some r, .neq => vR (.bool (!r))
      | _, _ => none
    | true => none
  | _, _ => none

/-- one pointer held against itself -/
def ptrEqA (P : Program) (hp : Nat → Option AObj) (op : BinOp) (t : TypeId) (x y : AV) : Option R :=
  match P.underlying t, x, y with
  | some (.pointer e), .ptr k off, .ptr k' off' => match Nat.beq k k' && Nat.beq off off', hp k, P.info? e with
    | true, some (.cells _ _), some _ => match op with
      | .eql => vR (.bool true)
      | .neq => vR (.bool false)
      | _ => none
    | _, _, _ => none
  | _, _, _ => none

def byteAt (s : ByteArray) (i : Nat) : Int := ((s.data.toList.getD i 0).toNat : Int)

def zip2 {α β : Type} : List α → List β → List (α × β)
  | a :: as, b :: bs => (a, b) :: zip2 as bs
  | _, _ => []

/-- what an own row's part holds -/
def contRow (hp : Nat → Option AObj) (k off len ver : Nat) : Option (Nat × Seq AV × List Prop) :=
  match hp k with
  | some (.row _ sz q floor) => match off with
    | 0 => some (sz, q.thaw, [len = q.len, floor ≤ ver])
    | off + 1 => some (sz, (q.drop (off + 1)).take len, [floor ≤ ver])
  | _ => none

section
variable [Globs] (P : Program) (SG : SGT)

/-- what a row or a slice that nobody writes holds, elements of type e: contents, what is to be shown -/
def contents (hp : Nat → Option AObj) (e : TypeId) (x : AV) : Option (Seq AV × List Prop) :=
  match sizeA P e with
  | none => none
  | some s =>
    match x with
    | .sl sz q _ => match Nat.beq sz s with
      | true => some (q, [])
      | false => none
    | .row k off len ver _ => match contRow hp k off len ver with
      | some (sz, q, c) => match Nat.beq sz s with
        | true => some (q, c)
        | false => none
      | none => none
    | .v (.slice none 0 0) => some (seqEmpty (P.underlying e), [])
    | .sle => some (seqEmpty (P.underlying e), [])
    | .v (.string t) => match P.underlying e, Nat.beq s 1 with
      | some (.int .u8), true => some (.ints .u8 (intsOfStr t), [])
      | _, _ => none
    | _ => none

def notInt (xt : TypeId) : Bool :=
  match P.underlying xt with
  | some (.slice _) => true
  | some .string => true
  | _ => false

/-- has the type's zero value as many cells as the type? -/
def zeroOk (e : TypeId) : Bool :=
  match zeroCellsA P e, sizeA P e with
  | some z, some sz => Nat.beq z.length sz
  | _, _ => false

def appA (sz sz' : Nat) (q r : Seq AV) : Option (Seq AV) :=
  match Nat.beq sz' sz with
  | true => q.app r
  | false => none

/-- a slice that holds nothing -/
def emptyA : AV → Bool
  | .sle => true
  | .v (.slice none 0 0) => true
  | _ => false

def appendA (key : Nat) (hp : Nat → Option AObj) (t xt : TypeId) (s x : AV) : Option R :=
  match elemOf P t with
  | none => none
  | some e =>
    match sizeA P e, bytesA P e, contents P hp e x, notInt P xt && zeroOk P e with
    | some (sz + 1), some (by1 + 1), some (r, c), true =>
      match s with
      | .v (.slice none 0 0) =>
        some ⟨.row key 0 r.len r.len false, [(key, some (.row e (sz + 1) r 0))], [r.len * (by1 + 1) ≤ 140737488355328] ++ c⟩
      | .row k 0 len ver _ =>
        match hp k with
        | some (.row T sz' q floor) =>
          match Nat.beq T e, appA (sz + 1) sz' q r with
          | true, some q' => some ⟨.row k 0 q'.len q'.len false, [(k, some (.row e (sz + 1) q' floor))], [len = q.len, ver = q.len, q'.len * (by1 + 1) ≤ 140737488355328] ++ c⟩
          | _, _ => none
        | _ => none
      | .sl sz' q true =>
        match emptyA x with
        | true => some ⟨.sl sz' q true, [], c⟩
        | false => match appA (sz + 1) sz' q r with
        | some q' => some ⟨.row key 0 q'.len q'.len false, [(key, some (.row e (sz + 1) q' 0))], [1 ≤ r.len, q'.len * (by1 + 1) ≤ 140737488355328] ++ c⟩
        | none => none
      | _ => none
    | _, _, _, _ => none

def builtinA (key : Nat) (hp : Nat → Option AObj) (b : Builtin) (ts : List TypeId) (xs : List AV) : Option R :=
  match b, ts, xs with
  | .len, [t], [x] =>
    match P.underlying t, x with
    | some .string, .v (.string s) => vR (.int .i64 s.size)
    | some (.slice _), .sl _ q _ => vR (.int .i64 q.len)
    | some (.slice _), .row _ _ len _ _ => vR (.int .i64 len)
    | some (.slice _), .v (.slice none 0 0) => vR (.int .i64 0)
    | some (.slice _), .sle => vR (.int .i64 0)
    | some (.array n _), _ => vR (.int .i64 n)
    | _, _ => none
  | .append, [t, xt], [s, x] => appendA P key hp t xt s x
  | .max, _, [.v (.int k x), .v (.int _ y)] => vR (.int k (if y > x then y else x))
  | .min, _, [.v (.int k x), .v (.int _ y)] => vR (.int k (if y < x then y else x))
  | _, _, _ => none

/-- what a row of bytes holds -/
def bytesQ : Seq AV → Option (List Int)
  | .ints .u8 l => some l
  | .frz l => some l
  | _ => none

/-- SliceData and String of an own row; nothing appended to nil -/
def unsafeA (h : Option Hint) (hp : Nat → Option AObj) (b : Builtin) (ts : List TypeId) (xs : List AV) : Option R :=
  match b, ts, xs with
  | .unsafeSliceData, [_], [x] =>
    match x with
    | .v (.slice none 0 0) => vR (.pointer none)
    | .row k 0 len ver _ => match hp k with
      | some (.row _ _ _ _) => some ⟨.rp k 0 ver 0, [], [0 < len]⟩
      | _ => none
    | _ => none
  | .unsafeString, [t, _], [x, .v (.int .i64 n)] =>
    match x with
    | .v (.pointer none) => some ⟨.v (.string ByteArray.empty), [], [n = 0]⟩
    | .rp k 0 ver 0 => match hp k, P.underlying t with
      | some (.row T 1 q floor), some (.pointer e) => match bytesQ q, Nat.beq T e, Nat.beq (P.cellsOf T) 1 with
        | some l, true, true => some ⟨.v (.string (strOfInts l)), [(k, some (.row T 1 (.frz l) floor))], [ver = q.len, 0 < q.len, n = (q.len : Int), q.len ≤ 9223372036854775807, ∀ x ∈ l, 0 ≤ x ∧ x ≤ 255]⟩
        | _, _, _ => none
      | _, _ => none
    | _ => none
  | .append, [t, xt], [.v (.slice none 0 0), .v (.string s)] =>
    match h, elemOf P t, P.underlying xt with
    | some .part, some e, some .string => match sizeA P e with
      | some _ => some ⟨.v (.slice none 0 0), [], [s.size = 0]⟩
      | none => none
    | _, _, _ => none
  | _, _, _ => none

def ixPlus (off i : Nat) : Nat :=
  match off with
  | 0 => i
  | o => o + i

/-- is this the size of a slice type's elements? -/
def elemSz (t : TypeId) (sz : Nat) : Bool :=
  match elemOf P t with
  | some e => match sizeA P e with
    | some s => Nat.beq s sz
    | none => false
  | none => false

def rowSz (hp : Nat → Option AObj) (k : Nat) : Option Nat :=
  match hp k with
  | some (.row _ sz _ _) => some sz
  | _ => none

def cutHi (hi : Option AV) (len : Nat) (tight : Bool) : Option (Nat × Bool × List Prop) :=
  match hi with
  | none => some (len, tight, [])
  | some (.v (.int _ h)) => some (h.toNat, false, [0 ≤ h ∧ h ≤ (len : Int)])
  | _ => none

def cutMx (mx : Option AV) (h : Nat) (t : Bool) : Option (Bool × List Prop) :=
  match mx with
  | none => some (t, [])
  | some (.v (.int _ m)) => some (true, [m = (h : Int)])
  | _ => none

def cutLo (lo : Option AV) (h : Nat) : Option (Nat × List Prop) :=
  match lo with
  | none => some (0, [])
  | some (.v (.int _ l)) => some (l.toNat, [0 ≤ l ∧ l ≤ (h : Int)])
  | _ => none

/-- the part of a slice from l to h -/
def cutA (lo hi mx : Option AV) (len : Nat) (tight : Bool) : Option (Nat × Nat × Bool × List Prop) :=
  match cutHi hi len tight, hi.isSome || mx.isNone with
  | some (h, t1, c1), true =>
    match cutMx mx h t1, cutLo lo h with
    | some (t2, c2), some (l, c3) => some (l, h, t2, c1 ++ (c2 ++ c3))
    | _, _ => none
  | _, _ => none

def cutSeq (q : Seq AV) (l h : Nat) (hasLo hasHi : Bool) : Seq AV :=
  match hasLo, hasHi with
  | false, false => q
  | false, true => q.take h
  | true, false => q.drop l
  | true, true => (q.take h).drop l

def rowOff (lo : Option AV) (off l : Nat) : Nat :=
  match lo with
  | none => off
  | some _ => ixPlus off l

def rowLen (lo : Option AV) (l h : Nat) : Nat :=
  match lo with
  | none => h
  | some _ => h - l

def sliceA (hp : Nat → Option AObj) (t : TypeId) (x : AV) (lo hi mx : Option AV) : Option R :=
  match x with
  | .v (.string s) =>
    match P.underlying t, mx, cutA lo hi none s.size false with
    | some .string, none, some (l, h, _, c) => some ⟨.v (.string (s.extract l h)), [], c⟩
    | _, _, _ => none
  | .sl sz q tight =>
    match elemSz P t sz, cutA lo hi mx q.len tight with
    | true, some (l, h, t, c) => some ⟨.sl sz (cutSeq q l h lo.isSome hi.isSome) t, [], c⟩
    | _, _ => none
  | .row k off len ver tight =>
    match rowSz hp k, cutA lo hi mx len tight with
    | some sz, some (l, h, tt, c) => match elemSz P t sz with
      | true => some ⟨.row k (rowOff lo off l) (rowLen lo l h) ver tt, [], c⟩
      | false => none
    | _, _ => none
  | _ => none

def isSliceA : AV → Bool
  | .sl _ _ _ => true
  | .row _ _ _ _ _ => true
  | .v (.slice none 0 0) => true
  | .sle => true
  | _ => false

def convA (hp : Nat → Option AObj) (src dst : TypeId) (x : AV) : Option R :=
  match P.underlying src, P.underlying dst, x with
  | some _, some (.int k), .v (.int k' n) =>
    match widens k' k with
    | true => some ⟨.v (.int k n), [], [inR k n]⟩
    | false => vR (.int k (k.wrap n))
  | some _, some .string, .v (.string s) => vR (.string s)
  | some .string, some (.slice e), .v (.string s) =>
    match P.underlying e with
    | some (.int .u8) => aR (.sl 1 (.ints .u8 (intsOfStr s)) false)
    | _ => none
  | some (.slice e), some .string, x =>
    match P.underlying e, contents P hp e x, isSliceA x with
    | some (.int .u8), some (.ints .u8 l, c), true => some ⟨.v (.string (strOfInts l)), [], c⟩
    | _, _, _ => none
  | some (.pointer t), some .unsafePointer, .ptr k off => match hp k, P.info? t with
    | some (.cells _ cs), some j => match Nat.blt off cs.length, Nat.beq j.size 0 with
      | true, false => aR (.ptr k off)
      | _, _ => none
    | _, _ => none
  | some .unsafePointer, some (.pointer u), .ptr k off => match hp k, P.info? u with
    | some (.cells T cs), some _ => match liesAt P P.depth T (cs.length / P.cellsOf T) off u 1 with
      | true => aR (.ptr k off)
      | false => none
    | _, _ => none
  | _, _, _ => none

/-- the cells from a pointer on -/
def cellsA (hp : Nat → Option AObj) (a : AV) : Option (List AV × List Prop) :=
  match a with
  | .ip cs => some (cs, [])
  | .ptr k off => match hp k with
    | some (.cells _ cs) => some (cs.drop off, [])
    | _ => none
  | .rp k i ver off => match hp k with
    | some (.row _ _ q floor) => some ((q.get i).cells.drop off, [floor ≤ ver])
    | _ => none
  | .gp g => match look Globs.tab g with
    | some (_, q) => match Nat.beq q.len 1 with
      | true => some ((q.get 0).cells, [])
      | false => none
    | none => none
  | _ => none

def loadFin (agg : Bool) (sz : Nat) (cs : List AV) (c : List Prop) : Option R :=
  match agg with
  | true => match Nat.ble sz cs.length with
    | true => some ⟨.agg (cs.take sz), [], c⟩
    | false => none
  | false => match cs with
    | x :: _ => some ⟨x, [], c⟩
    | [] => none

def loadA (hp : Nat → Option AObj) (t : TypeId) (a : AV) : Option R :=
  match sizeA P t, isAggA P t, cellsA hp a with
  | some sz, some agg, some (cs, c) => loadFin agg sz cs c
  | _, _, _ => none

def storeA (hp : Nat → Option AObj) (t : TypeId) (a x : AV) : Option R :=
  match sizeA P t with
  | none => none
  | some sz =>
    match stored x sz with
    | none => none
    | some xs =>
      match a with
      | .ptr k off => match hp k with
        | some (.cells T cs) => match lay cs off xs with
          | some cs' => some ⟨.junk, [(k, some (.cells T cs'))], []⟩
          | none => none
        | _ => none
      | .rp k i ver off => match hp k with
        | some (.row T s q _) =>
          match off, Nat.beq s sz with
          | 0, true => match q.set i x with
            | some q' => some ⟨.junk, [(k, some (.row T s q' q.len))], [ver = q.len]⟩
            | none => none
          | off, _ => match lay (q.get i).cells off xs with
            | some ys => match q.set i (.agg ys) with
              | some q' => some ⟨.junk, [(k, some (.row T s q' q.len))], [ver = q.len]⟩
              | none => none
            | none => none
        | _ => none
      | _ => none

def fieldPlaceA (t : TypeId) (f : Nat) : Option Nat :=
  match P.underlying t with
  | some (.struct fields) => match fields[f]? with
    | some fd => match sizeA P fd.type with
      | some (_ + 1) => some fd.offset
      | _ => none
    | none => none
  | _ => none

def indexAddrA (hp : Nat → Option AObj) (t : TypeId) (x i : AV) : Option R :=
  match x, i with
  | .sl sz q _, .v (.int _ i) => match elemSz P t sz with
    | true => some ⟨.ip (q.get i.toNat).cells, [], [0 ≤ i ∧ i < (q.len : Int)]⟩
    | false => none
  | .row k off len ver _, .v (.int _ i) => match rowSz hp k with
    | some sz => match elemSz P t sz with
      | true => some ⟨.rp k (ixPlus off i.toNat) ver 0, [], [0 ≤ i ∧ i < (len : Int)]⟩
      | false => none
    | none => none
  | .gp g, .v (.int _ i) => match P.underlying t with
    | some (.array n e) => match sizeA P e, look Globs.tab g with
      | some sz, some (sz', q) => match Nat.beq sz sz', Nat.beq n q.len with
        | true, true => some ⟨.ip (q.get i.toNat).cells, [], [0 ≤ i ∧ i < (n : Int)]⟩
        | _, _ => none
      | _, _ => none
    | _ => none
  | _, _ => none

def indexA (t : TypeId) (x i : AV) : Option R :=
  match P.underlying t, x, i with
  | some .string, .v (.string s), .v (.int _ i) => some ⟨.v (.int .u8 (byteAt s i.toNat)), [], [0 ≤ i ∧ i < (s.size : Int)]⟩
  | some (.array n e), .agg cs, .v (.int _ i) =>
    match sizeA P e with
    | some sz => match partA P e cs (i.toNat * sz) with
      | some x => some ⟨x, [], [0 ≤ i ∧ i < (n : Int)]⟩
      | none => none
    | none => none
  | _, _, _ => none

/-- keys of maps: whole numbers and texts -/
def isKeyA : TypeDesc → Value → Bool
  | .int _, .int _ _ => true
  | .string, .string _ => true
  | _, _ => false

def bytesEq (a b : ByteArray) : Bool := a.data.toList == b.data.toList

/-- two keys of one kind held against each other -/
def sameKB : Value → Value → Bool
  | .int k a, .int k' b => match kindEq k k' with
    | true => a == b
    | false => false
  | .string a, .string b => bytesEq a b
  | _, _ => false

/-- keys of one kind -/
def alikeK : Value → Value → Bool
  | .int k _, .int k' _ => kindEq k k'
  | .string _, .string _ => true
  | _, _ => false

def KeysOK (key : Value) (es : List (Value × AV)) : Prop := es.all (fun p => alikeK key p.1) = true

def getM (key : Value) : List (Value × AV) → Option AV
  | [] => none
  | p :: r => match sameKB key p.1 with
    | true => some p.2
    | false => getM key r

/-- where a key stands, or the place behind all -/
def ixM (key : Value) : List (Value × AV) → Nat
  | [] => 0
  | p :: r => match sameKB key p.1 with
    | true => 0
    | false => ixM key r + 1

def putM (key : Value) (x : AV) : List (Value × AV) → List (Value × AV)
  | [] => [(key, x)]
  | p :: r => match sameKB key p.1 with
    | true => (key, x) :: r
    | false => p :: putM key x r

def setM (es : List (Value × AV)) (j : Nat) (x : AV) : List (Value × AV) := es.modify j fun p => (p.1, x)

/-- a map's entries -/
def entsA (hp : Nat → Option AObj) : AV → Option (List (Value × AV))
  | .mpk k => match hp k with
    | some (.map es) => some es
    | _ => none
  | .mp ks vs => some (zip2 ks vs)
  | .v (.map none) => some []
  | _ => none

def zeroA (t : TypeId) : Option AV :=
  match (P.info? t).bind (·.zero) with
  | some z => match constA z with
    | .junk => none
    | y => some y
  | none => none

/-- the value, or the zero value -/
def lookV (z : AV) : Option AV → Bool → AV
  | some v, true => .tup [v, .v (.bool true)]
  | none, true => .tup [z, .v (.bool false)]
  | some v, false => v
  | none, false => z

/-- a map's value at a key -/
def lookupA (hp : Nat → Option AObj) (t : TypeId) (x i : AV) (ok : Bool) : Option R :=
  match P.underlying t, i with
  | some (.map kt et), .v key => match P.underlying kt, entsA hp x, zeroA P et with
    | some kd, some es, some z => match isKeyA kd key with
      | true => some ⟨lookV z (getM key es) ok, [], [KeysOK key es]⟩
      | false => none
    | _, _, _ => none
  | _, _ => none

def mapUpdateA (hp : Nat → Option AObj) (t : TypeId) (m i x : AV) : Option R :=
  match P.underlying t, m, i with
  | some (.map kt _), .mpk k, .v key => match P.underlying kt, hp k with
    | some kd, some (.map es) => match isKeyA kd key with
      | true => some ⟨.junk, [(k, some (.map (putM key x es)))], [KeysOK key es]⟩
      | false => none
    | _, _ => none
  | _, _, _ => none

/-- an entry is made, if it isn't there: what it holds, and where it stands -/
def mapEntryA (hp : Nat → Option AObj) (t : TypeId) (m i : AV) : Option R :=
  match P.underlying t, m, i with
  | some (.map kt et), .mpk k, .v key => match P.underlying kt, hp k, zeroA P et with
    | some kd, some (.map es), some z => match isKeyA kd key with
      | true => some ⟨.tup [lookV z (getM key es) false, .v (.int .i64 (ixM key es))], [(k, some (.map (putM key (lookV z (getM key es) false) es)))], [KeysOK key es]⟩
      | false => none
    | _, _, _ => none
  | _, _, _ => none

def entryStoreA (hp : Nat → Option AObj) (m s x : AV) : Option R :=
  match m, s with
  | .mpk k, .v (.int .i64 j) => match hp k with
    | some (.map es) => some ⟨.junk, [(k, some (.map (setM es j.toNat x)))], [0 ≤ j ∧ j < (es.length : Int)]⟩
    | _ => none
  | _, _ => none

def callP (hp : Nat → Option AObj) (g : FuncId) (sig : List AV → Option (AV × List Prop)) (xs : List AV) : Option R :=
  match snaps P hp (((P.funcs[g]?).map (·.params.toList)).getD []) xs with
  | some (ys, c, ks) => match sig ys with
    | some (r, c') => match plainA r with
      | true => some ⟨r, (match flat r with | true => [] | false => ks.map fun k => (k, none)), c ++ c'⟩
      | false => none
    | none => none
  | none => none

def dedup : List Nat → List Nat
  | [] => []
  | k :: r => match (dedup r).any (Nat.beq k) with
    | true => dedup r
    | false => k :: dedup r

def keyIx : List Nat → Nat → Option Nat
  | [], _ => none
  | j :: r, k => match Nat.beq j k with
    | true => some 0
    | false => match keyIx r k with
      | some i => some (i + 1)
      | none => none

/-- the number that a lent key has in the callee -/
def toR (ρ : List Nat) (k : Nat) : Option Nat :=
  match keyIx ρ k with
  | some i => some (rsv + i)
  | none => none

/-- the caller's key of a number in the callee -/
def fromR (ρ : List Nat) (k : Nat) : Option Nat :=
  match Nat.ble rsv k with
  | true => ρ[k - rsv]?
  | false => none

/-- a value under other keys -/
def ren1 (g : Nat → Option Nat) : AV → Option AV
  | .row k off len ver t => match g k with
    | some j => some (.row j off len ver t)
    | none => none
  | .rp k i ver off => match g k with
    | some j => some (.rp j i ver off)
    | none => none
  | .ptr k off => match g k with
    | some j => some (.ptr j off)
    | none => none
  | x => match plain1 x with
    | true => some x
    | false => none

def renL (g : Nat → Option Nat) : List AV → Option (List AV)
  | [] => some []
  | x :: xs => match ren1 g x, renL g xs with
    | some y, some ys => some (y :: ys)
    | _, _ => none

def ren2 (g : Nat → Option Nat) : AV → Option AV
  | .agg cs => match renL g cs with
    | some ds => some (.agg ds)
    | none => none
  | x => ren1 g x

def renLL (g : Nat → Option Nat) : List AV → Option (List AV)
  | [] => some []
  | x :: xs => match ren2 g x, renLL g xs with
    | some y, some ys => some (y :: ys)
    | _, _ => none

def renA (g : Nat → Option Nat) : AV → Option AV
  | .tup cs => match renLL g cs with
    | some ds => some (.tup ds)
    | none => none
  | .fnv f as bs => match renL g as, renL g bs with
    | some as, some bs => some (.fnv f as bs)
    | _, _ => none
  | x => ren2 g x

def renO (g : Nat → Option Nat) : AObj → Option AObj
  | .cells T cs => match renL g cs with
    | some ds => some (.cells T ds)
    | none => none
  | .row T sz q fl => match seqPlain q with
    | true => some (.row T sz q fl)
    | false => none
  | .map _ => none

/-- the objects of some keys, under other keys -/
def objsA (hp : Nat → Option AObj) (g : Nat → Option Nat) : List Nat → Option (List AObj)
  | [] => some []
  | k :: r => match hp k with
    | some o => match renO g o, objsA hp g r with
      | some o', some os => some (o' :: os)
      | _, _ => none
    | none => none

/-- a row that is read from now on as it is now alone -/
def raised : AObj → AObj
  | .row T sz q _ => .row T sz q q.len
  | o => o

/-- what lent objects are behind the call -/
def backA (g : Nat → Option Nat) : List Nat → List AObj → Option (List (Nat × Option AObj))
  | _, [] => some []
  | k :: ks, o :: os => match renO g o, backA g ks os with
    | some o', some l => some ((k, some (raised o')) :: l)
    | _, _ => none
  | [], _ :: _ => none

/-- arguments: those of the mask under the callee's keys, the others as what they hold -/
def lendA (hp : Nat → Option AObj) (ρ : List Nat) : List Bool → List TypeId → List AV → Option (List AV × List Prop × List Nat)
  | ms, ts, x :: xs =>
    match (match ms.headD false with
      | true => match renA (toR ρ) x with
        | some y => some (y, [], [])
        | none => none
      | false => snap P hp (ts.headD 0) x), lendA hp ρ ms.tail ts.tail xs with
    | some (y, c, k), some (ys, cs, ks) => some (y :: ys, c ++ cs, k ++ ks)
    | _, _ => none
  | _, _, [] => some ([], [], [])

def maskKeys : List Bool → List AV → List Nat
  | true :: ms, x :: xs => keysOf x ++ maskKeys ms xs
  | false :: ms, _ :: xs => maskKeys ms xs
  | _, _ => []

/-- the call of a function to which own objects are lent -/
def callS (key : Nat) (hp : Nat → Option AObj) (g : FuncId) (mask : List Bool) (sig : List AObj → List AV → Option (AV × List AObj × List Prop)) (xs : List AV) : Option R :=
  let ks0 := maskKeys mask xs
  let ρ := dedup (ks0 ++ ks0.flatMap fun k => match hp k with
    | some o => objKeys o
    | none => [])
  match objsA hp (toR ρ) ρ, lendA P hp ρ mask (((P.funcs[g]?).map (·.params.toList)).getD []) xs with
  | some os, some (ys, c, ks) =>
    match ks.any fun k => ρ.any (Nat.beq k) with
    | true => none
    | false => match sig os ys with
      | some (r, os', c') =>
        match Nat.beq os'.length ρ.length || Nat.beq os'.length (ρ.length + 1), renA (fromR (ρ ++ [key])) r, backA (fromR (ρ ++ [key])) (ρ ++ [key]) os' with
        | true, some r', some up => some ⟨r', (ks.map fun k => (k, none)) ++ up, c ++ c'⟩
        | _, _, _ => none
      | none => none
  | _, _ => none

def callA (key : Nat) (hp : Nat → Option AObj) (f : AV) (xs : List AV) : Option R :=
  match f with
  | .fnv (.func g) first captured =>
    match look SG g with
    | some (.p sig) => callP P hp g sig (first ++ xs ++ captured)
    | some (.s mask sig) => callS P key hp g mask sig (first ++ xs ++ captured)
    | none => none
  | _ => none

def placesA : List Field → Option (List (Nat × Nat))
  | [] => some []
  | f :: r => match sizeA P f.type, placesA r with
    | some s, some l => some ((f.offset, s) :: l)
    | _, _ => none

def buildA (t : TypeId) (z : List AV) (parts : List (Nat × AV)) : Option (List AV) :=
  match P.underlying t with
  | some (.struct fields) => match placesA P fields.toList with
    | some l => fillA (fun i => l[i]?) z parts
    | none => none
  | some (.array _ e) => match sizeA P e with
    | some s => fillA (fun i => some (i * s, s)) z parts
    | none => none
  | _ => none

def buildSliceA (key : Nat) (h : Option Hint) (t : TypeId) (len : Nat) (parts : List (Nat × AV)) : Option R :=
  match elemOf P t with
  | none => none
  | some e => match sizeA P e, zeroCellsA P e with
    | some (sz + 1), some z =>
      match Nat.ble (len * (sz + 1)) 16777216 && Nat.beq z.length (sz + 1), fillA (fun i => some (i * (sz + 1), sz + 1)) ((List.replicate len z).flatten) parts with
      | true, some cells => match seqOf (P.underlying e) (chunk (sz + 1) len cells) with
        | some q => match h with
          | some .own => some ⟨.row key 0 q.len q.len true, [(key, some (.row e (sz + 1) q 0))], []⟩
          | _ => match cells.all plain1 with
            | true => aR (.sl (sz + 1) q true)
            | false => some ⟨.row key 0 q.len q.len true, [(key, some (.row e (sz + 1) q 0))], []⟩
        | none => none
      | _, _ => none
    | _, _ => none

/-- so many elements of zero -/
def seqZero (d : Option TypeDesc) (n : Nat) (z : AV) : Option (Seq AV) :=
  match d, z with
  | some (.int k), .v (.int k' m) => match kindEq k k' with
    | true => some (.ints k (List.replicate n m))
    | false => none
  | some .string, .v (.string s) => some (.strs (List.replicate n s))
  | some (.int _), _ | some .string, _ => none
  | _, z => some (.avs (List.replicate n z))

def makeSliceA (key : Nat) (t : TypeId) (l c : AV) : Option R :=
  match elemOf P t, l, c with
  | some e, .v (.int _ n), .v (.int _ m) => match sizeA P e, bytesA P e, zeroCellsA P e with
    | some (sz + 1), some bytes, some z =>
      match Nat.beq z.length (sz + 1), seqZero (P.underlying e) n.toNat (match sz, z with | 0, [x] => x | _, z => .agg z) with
      | true, some q => some ⟨.row key 0 n.toNat n.toNat false, [(key, some (.row e (sz + 1) q 0))], [0 ≤ n ∧ n ≤ m, m * (bytes : Int) ≤ 281474976710656 ∧ m ≤ 9223372036854775807]⟩
      | _, _ => none
    | _, _, _ => none
  | _, _, _ => none

/-- a bound that is told -/
def bndA (o : Option AV) (cap d : Nat) : Option Nat :=
  match o with
  | none => some d
  | some (.v (.int _ i)) => match decide (0 ≤ i) && decide (i ≤ (cap : Int)) with
    | true => some i.toNat
    | false => none
  | _ => none

/-- a row that is as long as it is told, of elements of a type -/
def wholeA (hp : Nat → Option AObj) (e : TypeId) (k n ver : Nat) : Bool :=
  match hp k, sizeA P e with
  | some (.row _ sz q _), some s => Nat.beq sz s && (Nat.beq ver q.len && Nat.beq n q.len)
  | _, _ => false

/-- a part of an array that is a row of its own -/
def arrSlA (hp : Nat → Option AObj) (t : TypeId) (x : AV) (lo hi mx : Option AV) : Option AV :=
  match P.underlying t, x with
  | some (.array n e), .rp k 0 ver 0 => match wholeA P hp e k n ver && (hi.isSome || mx.isNone) with
    | true => match bndA mx n n with
      | some m => match bndA hi m n with
        | some h => match bndA lo h 0 with
          | some l => some (.row k l (h - l) ver (Nat.beq m h))
          | none => none
        | none => none
      | none => none
    | false => none
  | _, _ => none

def arrIxA (hp : Nat → Option AObj) (t : TypeId) (x i : AV) : Option AV :=
  match P.underlying t, x, i with
  | some (.array n e), .rp k 0 ver 0, .v (.int _ i) => match wholeA P hp e k n ver && (decide (0 ≤ i) && decide (i < (n : Int))) with
    | true => some (.rp k i.toNat ver 0)
    | false => none
  | _, _, _ => none

/-- an interface's value held against the literal nil -/
def nilIfA (op : BinOp) (t : TypeId) (x : AV) (y : Operand) : Option R :=
  match P.underlying t, y with
  | some (.interface _), .const .nilIface => match x, op with
    | .v .nilIface, .eql => vR (.bool true)
    | .v .nilIface, .neq => vR (.bool false)
    | .ifc _ _, .eql => vR (.bool false)
    | .ifc _ _, .neq => vR (.bool true)
    | _, _ => none
  | _, _ => none

/-- an array's variable as a row of its own -/
def allocRowA (key : Nat) (T : TypeId) : Option R :=
  match P.underlying T with
  | some (.array (n + 1) e) => match sizeA P e, zeroCellsA P T with
    | some (sz + 1), some z => match Nat.beq z.length ((n + 1) * (sz + 1)), seqOf (P.underlying e) (chunk (sz + 1) (n + 1) z) with
      | true, some q => some ⟨.rp key 0 (n + 1) 0, [(key, some (.row T (sz + 1) q 0))], []⟩
      | _, _ => none
    | _, _ => none
  | _ => none

/-- one operation, over what its operands are and the own objects that they name -/
def opA (key : Nat) (h : Option Hint) (o : Op) (ev : Operand → AV) (hp : Nat → Option AObj) : Option R :=
  match o with
  | .move x | .assign x => match h, ev x with
    | some (.nil T), .v (.slice none 0 0) => match sizeA P T with
      | some (sz + 1) => some ⟨.row key 0 0 0 false, [(key, some (.row T (sz + 1) (seqEmpty (P.underlying T)) 0))], []⟩
      | _ => none
    | some (.nils T), .v (.slice none 0 0) => match sizeA P T with
      | some sz => aR (.sl sz (seqEmpty (P.underlying T)) true)
      | none => none
    | _, x => aR x
  | .pick c a b => match ev c with
    | .v (.bool true) => aR (ev a)
    | .v (.bool false) => aR (ev b)
    | _ => none
  | .alloc T => match h with
    | some .own => allocRowA P key T
    | _ => match zeroCellsA P T with
      | some z => some ⟨.ptr key 0, [(key, some (.cells T z))], []⟩
      | none => none
  | .box T x => match sizeA P T with
    | some sz => match stored (ev x) sz with
      | some cs => some ⟨.ptr key 0, [(key, some (.cells T cs))], []⟩
      | none => none
    | none => none
  | .build t parts => match zeroCellsA P t with
    | some z => match buildA P t z (parts.toList.map fun p => (p.1, ev p.2)) with
      | some cs => aR (.agg cs)
      | none => none
    | none => none
  | .buildSlice t len parts => buildSliceA P key h t len (parts.toList.map fun p => (p.1, ev p.2))
  | .load t a => loadA P hp t (ev a)
  | .store t a x => storeA P hp t (ev a) (ev x)
  | .nilCheck x => match ev x with
    | .ip cs => aR (.ip cs)
    | .rp k i ver off => aR (.rp k i ver off)
    | .ptr k off => aR (.ptr k off)
    | .gp g => aR (.gp g)
    | .fnv (.func g) a b => aR (.fnv (.func g) a b)
    | _ => none
  | .binOp op t x y _ => match binA P h op t (ev x) (ev y) with
    | some r => some r
    | none => match fbinA op (ev x) (ev y) with
    | some r => some r
    | none => match nilA P op t (ev x) (ev y) with
      | some r => some r
      | none => match ptrEqA P hp op t (ev x) (ev y) with
        | some r => some r
        | none => match aggEqA P op t (ev x) (ev y) with
          | some r => some r
          | none => nilIfA P op t (ev x) y
  | .unOp op _ x => match unA h op (ev x) with
    | some r => some r
    | none => funA op (ev x)
  | .convert src dst x => match convA P hp src dst (ev x) with
    | some r => some r
    | none => fconvA P src dst (ev x)
  | .makeFunc fn first captured => aR (.fnv fn (first.toList.map ev) (captured.toList.map ev))
  | .makeSlice t l c => makeSliceA P key t (ev l) (ev c)
  | .slice t x lo hi mx => match arrSlA P hp t (ev x) (lo.map ev) (hi.map ev) (mx.map ev) with
    | some x => aR x
    | none => sliceA P hp t (ev x) (lo.map ev) (hi.map ev) (mx.map ev)
  | .fieldAddr s x f => match fieldPlaceA P s f, ev x with
    | some o, .ip cs => aR (.ip (cs.drop o))
    | some o, .ptr k off => aR (.ptr k (off + o))
    | some o, .rp k i ver off => aR (.rp k i ver (off + o))
    | _, _ => none
  | .field t x f => match P.underlying t, ev x with
    | some (.struct fields), .agg cs => match fields[f]? with
      | some fd => match partA P fd.type cs fd.offset with
        | some x => aR x
        | none => none
      | none => none
    | _, _ => none
  | .indexAddr t x i => match arrIxA P hp t (ev x) (ev i) with
    | some x => aR x
    | none => indexAddrA P hp t (ev x) (ev i)
  | .index t x i => indexA P t (ev x) (ev i)
  | .makeMap _ none => match h with
    | some .part => aR (.mp [] [])
    | _ => some ⟨.mpk key, [(key, some (.map []))], []⟩
  | .lookup t x i ok => lookupA P hp t (ev x) (ev i) ok
  | .insert t m i x => mapUpdateA P hp t (ev m) (ev i) (ev x)
  | .mapUpdate t m i x => mapUpdateA P hp t (ev m) (ev i) (ev x)
  | .mapEntry t m i => mapEntryA P hp t (ev m) (ev i)
  | .entryStore _ m s x => entryStoreA hp (ev m) (ev s) (ev x)
  | .extract x i => match ev x with
    | .tup vs => match vs[i]? with
      | some x => aR x
      | none => none
    | _ => none
  | .call c => match c.callee with
    | .builtin b => match unsafeA P h hp b c.argTypes.toList (c.args.toList.map ev) with
      | some r => some r
      | none => builtinA P key hp b c.argTypes.toList (c.args.toList.map ev)
    | .value f => callA P SG key hp (ev f) (c.args.toList.map ev)
    | _ => none
  | _ => none

/-- the hint's word on a value -/
def hinted (h : Option Hint) (r : R) : R :=
  match h with
  | some (.b c) => match r.val with
    | .v (.bool x) => { r with val := .v (.bool c), cond := (x = c) :: r.cond }
    | _ => r
  | some (.is a) => { r with val := a, cond := (r.val = a) :: r.cond }
  | _ => r

def evalA (fr : List (Nat × AV)) : Operand → AV
  | .tmp t => (look fr t).getD .junk
  | .const v => constA v
  | .global g => .gp g
  | .func f => .fnv (.func f) [] []

def restr (hp : List (Nat × AObj)) (ks : List Nat) (k : Nat) : Option AObj :=
  match ks.any (Nat.beq k) with
  | true => look hp k
  | false => none

structure Took where
  A : AS
  cond : List Prop
  need : List Nat
  ups : List Nat

/-- is the operation wanted? -/
def wantedA (ops : List Oper) (fr : List (Nat × AV)) (o : Oper) : Option Bool :=
  match o.guard with
  | none => some true
  | some (j, want) => match ops[j]? with
    | some g => match g.dst with
      | some d => match look fr d with
        | some (.v (.bool b)) => some (b == want)
        | some (.tup []) => some false
        | _ => none
      | none => none
    | none => none

def putA (A : AS) (dst : Option Tmp) (x : AV) : Option AS :=
  match dst with
  | none => some A
  | some d => match Nat.blt d A.n with
    | true => some { A with fr := put1 A.fr d x }
    | false => none

/-- what an operation looks at of the own objects -/
inductive OpKind where
  | full
  | shape
  | none

def opKind : Op → OpKind
  | .indexAddr _ _ _ | .slice _ _ _ _ _ | .binOp _ _ _ _ _ => .shape
  | .move _ | .assign _ | .pick _ _ _ | .nilCheck _ | .unOp _ _ _ | .makeFunc _ _ _ | .fieldAddr _ _ _ | .field _ _ _ | .index _ _ _ | .extract _ _ => .none
  | .call c => match c.callee with
    | .builtin .len => .none
    | _ => .full
  | _ => .full

/-- a row's element type and size alone -/
def shapeO : AObj → AObj
  | .cells T _ => .cells T []
  | .row T sz q _ => .row T sz (.fn q.len fun _ => .junk) 0
  | .map _ => .map []

/-- the objects as an operation of a kind sees them -/
def seen (hp : List (Nat × AObj)) (kd : OpKind) (ks : List Nat) : Nat → Option AObj :=
  match kd with
  | .full => restr hp (deep hp ks)
  | .shape => fun k => match restr hp ks k with
    | some o => some (shapeO o)
    | none => none
  | .none => fun _ => none

def isStore : Op → Bool
  | .store _ _ _ => true
  | _ => false

def dbl : List Nat → List Nat
  | [] => []
  | k :: r => 2 * k :: dbl r
def dbl1 : List Nat → List Nat
  | [] => []
  | k :: r => (2 * k + 1) :: dbl1 r

/-- footprints: 2k: what key k holds; 2k + 1: of what kind it is -/
def looksA (hp : List (Nat × AObj)) (kd : OpKind) (ks : List Nat) : List Nat :=
  match kd with
  | .full => dbl (deep hp ks)
  | .shape => dbl1 ks
  | .none => []

def turnsA (o : Op) (ks : List Nat) : List Nat :=
  match isStore o with
  | true => dbl ks
  | false => dbl ks ++ dbl1 ks

/-- operation number i of a region -/
def takeOp (hs : List (Nat × Hint)) (ops : List Oper) (i : Nat) (A : AS) : Option Took :=
  match ops[i]? with
  | none => none
  | some o =>
    match wantedA ops A.fr o with
    | none => none
    | some false => match putA A o.dst (.tup []) with
      | some A' => some ⟨A', [], [], []⟩
      | none => none
    | some true =>
      let ks := o.op.operands.toList.flatMap fun x => keysOf (evalA A.fr x)
      match opA P SG (A.nx + i) (look hs i) o.op (evalA A.fr) (seen A.hp (opKind o.op) ks) with
      | none => none
      | some r0 =>
        let r := hinted (look hs i) r0
        match putA { A with hp := applyUpd A.hp r.upd } o.dst r.val with
        | some A' => some ⟨A', r.cond, looksA A.hp (opKind o.op) ks, turnsA o.op (r.upd.map (·.1))⟩
        | none => none

/-- the operations in the text's order; the footprints last first -/
def takeOps (hs : List (Nat × Hint)) (ops : List Oper) : Nat → Nat → AS → Option (AS × List Prop × List (List Nat × List Nat))
  | 0, _, A => some (A, [], [])
  | n + 1, i, A => match takeOp P SG hs ops i A with
    | none => none
    | some t => match takeOps hs ops n (i + 1) t.A with
      | some (A', c, fs) => some (A', t.cond ++ c, (t.need, t.ups) :: fs)
      | none => none

def meets (a b : List Nat) : Bool := a.any fun x => b.any (Nat.beq x)

/-- two operations whose order makes no difference -/
def indep (ops : Array Oper) (x y : Oper) (f g : List Nat × List Nat) : Bool :=
  x.apart ops y && !(meets f.2 g.1) && !(meets f.2 g.2) && !(meets g.2 f.1)

/-- no operation waits for a later one -/
def backOk : List Oper → Nat → Bool
  | [], _ => true
  | o :: r, i => (o.after.all fun e => !Region.binds .any e || Nat.blt e.on i) && backOk r (i + 1)

/-- each pair of a region's operations: one behind the other, or apart -/
def drawOk (ops : Array Oper) (fs : List (List Nat × List Nat)) : Bool :=
  backOk ops.toList 0 &&
  (List.range ops.size).all fun j => (List.range j).all fun i =>
    ((Region.before ops).getD j 0).testBit i ||
    match ops[i]?, ops[j]?, fs[i]?, fs[j]? with
    | some x, some y, some f, some g => indep ops x y f g
    | _, _, _, _ => false

inductive CHint where
  | ops (id : Nat) (h : List (Nat × Hint))
  | loop (slots keys : List Nat) (nx : Nat) (e : Exit) (A : AS)

def hintsAt (id : Nat) : List CHint → List (Nat × Hint) × List CHint
  | .ops i h :: r => match Nat.beq i id with
    | true => (h, r)
    | false => ([], .ops i h :: r)
  | r => ([], r)

/-- no key from n on -/
def below1 (n : Nat) (x : AV) : Bool := (keyOf x).all fun k => Nat.blt k n || Nat.ble rsv k

def belowA (n : Nat) : AV → Bool
  | .agg cs | .tup cs => cs.all fun
    | .agg _ | .tup _ | .fnv _ _ _ | .ifc _ _ => false
    | x => below1 n x
  | .fnv _ a b => a.all (below1 n) && b.all (below1 n) && (a ++ b).all fun
    | .agg _ | .tup _ | .fnv _ _ _ | .ifc _ _ => false
    | _ => true
  | .ifc _ x => match x with
    | .agg _ | .tup _ | .fnv _ _ _ | .ifc _ _ => false
    | x => below1 n x
  | x => below1 n x

def belowO (n : Nat) : AObj → Bool
  | .cells _ cs => cs.all (belowA n)
  | .row _ _ q _ => match q with
    | .ints _ _ | .frz _ | .strs _ => true
    | .avs l => l.all fun x => x.cells.all (belowA n)
    | .fn _ _ => false
  | .map es => es.all fun p => belowA n p.2

def weaken (A : AS) (slots keys : List Nat) (nx : Nat) : Option AS :=
  let fr := keep A.fr slots
  let hp := keep A.hp keys
  match fr.all (fun x => belowA nx x.2) && hp.all (fun x => (Nat.blt x.1 nx || Nat.ble rsv x.1) && belowO nx x.2) && Nat.ble nx A.nx with
  | true => some { n := A.n, fr, hp, nx }
  | false => none

variable (LT : Code → AS → Exit → AS → Prop)

def evCode : Code → List CHint → AS → Option (Exit × AS × List Prop × List CHint)
  | .skip, hs, A => some (.normal, A, [], hs)
  | .region id ops draw, hs, A =>
    match takeOps P SG (hintsAt id hs).1 ops.toList ops.size 0 A with
    | none => none
    | some (A', c, fs) =>
      match (!draw || drawOk ops fs) && Nat.ble (A'.nx + ops.size) rsv with
      | true => some (.normal, { A' with nx := A'.nx + ops.size }, c, (hintsAt id hs).2)
      | false => none
  | .seq a b, hs, A => match evCode a hs A with
    | some (.normal, A', c, hs') => match evCode b hs' A' with
      | some (e, A'', c', hs'') => some (e, A'', c ++ c', hs'')
      | none => none
    | r => r
  | .cond x a b, hs, A => match evalA A.fr x with
    | .v (.bool true) => evCode a hs A
    | .v (.bool false) => evCode b hs A
    | _ => none
  | .block id a, hs, A => match evCode a hs A with
    | some (.exit i, A', c, hs') => match Nat.beq i id with
      | true => some (.normal, A', c, hs')
      | false => some (.exit i, A', c, hs')
    | r => r
  | .loop a, hs, A => match hs with
    | .loop slots keys nx e A' :: hs' => match weaken A slots keys nx with
      | some A0 => some (e, A', [LT a A0 e A'], hs')
      | none => none
    | _ => none
  | .exit id, hs, A => some (.exit id, A, [], hs)
  | .ret, hs, A => some (.ret, A, [], hs)
  | _, _, _ => none

/-- code, and what is kept behind it -/
def evW (c : Code) (hs : List CHint) (A : AS) (slots keys : List Nat) (nx : Nat) : Option (Exit × AS × List Prop) :=
  match evCode P SG LT c hs A with
  | some (e, A', c, []) => match weaken A' slots keys nx with
    | some A'' => some (e, A'', c)
    | none => none
  | _ => none

def argsFr : Nat → List AV → List (Nat × AV)
  | _, [] => []
  | i, x :: xs => (i, x) :: argsFr (i + 1) xs

/-- a slice of which it isn't said that it is full -/
def loose1 (ti : Bool) : AV → AV
  | .sl sz q t => .sl sz q (t && ti)
  | x => x

def loose (ti : Bool) : AV → AV
  | .agg cs => .agg (cs.map (loose1 ti))
  | x => loose1 ti x

/-- what a function hands back: own rows as what they hold -/
def resA (ti : Bool) (A : AS) (t : TypeId) (r : ResultVar) : Option (AV × List Prop) :=
  match r with
  | .tmp s => match look A.fr s with
    | some x => match snap P (restr A.hp (keysOf x)) t x with
      | some (x, c, _) => some (loose ti x, c)
      | none => none
    | none => none
  | .cell s ct => match look A.fr s with
    | some x => match loadA P (restr A.hp (keysOf x)) ct x with
      | some r => match snap P (restr A.hp (keysOf r.val)) t r.val with
        | some (y, c, _) => some (loose ti y, r.cond ++ c)
        | none => none
      | none => none
    | none => none

def resAs (ti : Bool) (A : AS) : List TypeId → List ResultVar → Option (List AV × List Prop)
  | ts, r :: rs => match resA P ti A (ts.headD 0) r, resAs ti A ts.tail rs with
    | some (x, c), some (xs, cs) => some (x :: xs, c ++ cs)
    | _, _ => none
  | _, [] => some ([], [])

def resOf (ti : Bool) (A : AS) (ts : List TypeId) (rs : List ResultVar) : Option (AV × List Prop) :=
  match resAs P ti A ts rs with
  | some ([x], c) => some (x, c)
  | some (xs, c) => some (.tup xs, c)
  | none => none

def startA (fn : Func) (args : List AV) : AS := { n := args.length + (fn.ntmps - args.length), fr := argsFr 0 args, hp := [], nx := 0 }

/-- a whole function -/
def evFn (ti : Bool) (fn : Func) (hs : List CHint) (args : List AV) : Option (AV × List Prop) :=
  match fn.body with
  | none => none
  | some c => match evCode P SG LT c hs (startA fn args) with
    | some (.ret, A, c, []) | some (.normal, A, c, []) => match resOf P ti A fn.resultTypes.toList fn.results.toList with
      | some (r, c') => some (r, c ++ c')
      | none => none
    | _ => none

/-- the lent objects' heap -/
def startH : Nat → List AObj → List (Nat × AObj)
  | _, [] => []
  | i, o :: os => (rsv + i, o) :: startH (i + 1) os

def startS (fn : Func) (os : List AObj) (args : List AV) : AS := { n := args.length + (fn.ntmps - args.length), fr := argsFr 0 args, hp := startH 0 os, nx := 0 }

def lentKeys : Nat → Nat → List Nat
  | _, 0 => []
  | i, n + 1 => (rsv + i) :: lentKeys (i + 1) n

/-- the names of what is handed back: lent objects keep theirs, a new one gets the next number -/
def outK (m : Nat) (ex : List Nat) (k : Nat) : Option Nat := toR (lentKeys 0 m ++ ex) k

/-- a result of a function to which objects were lent -/
def resS1 (m : Nat) (ex : List Nat) (hp : Nat → Option AObj) (t : TypeId) (x : AV) : Option (AV × List Prop × List Nat) :=
  match renA (outK m ex) x with
  | some y => some (y, [], [])
  | none => snap P hp t x

def resS (m : Nat) (ex : List Nat) (ti : Bool) (A : AS) (t : TypeId) (r : ResultVar) : Option (AV × List Prop × List Nat) :=
  match r with
  | .tmp s => match look A.fr s with
    | some x => match resS1 P m ex (restr A.hp (keysOf x)) t x with
      | some (x, c, ks) => some (loose ti x, c, ks)
      | none => none
    | none => none
  | .cell _ _ => none

def resSs (m : Nat) (ex : List Nat) (ti : Bool) (A : AS) : List TypeId → List ResultVar → Option (List AV × List Prop × List Nat)
  | ts, r :: rs => match resS P m ex ti A (ts.headD 0) r, resSs m ex ti A ts.tail rs with
    | some (x, c, k), some (xs, cs, ks) => some (x :: xs, c ++ cs, k ++ ks)
    | _, _ => none
  | _, [] => some ([], [], [])

/-- what the objects are at the end -/
def outObjs (g : Nat → Option Nat) (hp : List (Nat × AObj)) : List Nat → Option (List AObj)
  | [] => some []
  | k :: r => match look hp k with
    | some o => match renO g o, outObjs g hp r with
      | some o', some os => some (o' :: os)
      | _, _ => none
    | none => none

/-- a whole function to which objects are lent; ex: the key of a new object that is handed back -/
def evFnS (ti : Bool) (ex : List Nat) (fn : Func) (hs : List CHint) (os : List AObj) (args : List AV) : Option (AV × List AObj × List Prop) :=
  match fn.body with
  | none => none
  | some c => match evCode P SG LT c hs (startS fn os args) with
    | some (.ret, A, c, []) | some (.normal, A, c, []) =>
      match resSs P os.length ex ti A fn.resultTypes.toList fn.results.toList, outObjs (outK os.length ex) A.hp (lentKeys 0 os.length ++ ex) with
      | some (rs, c', ks), some os' =>
        match ks.any (fun k => (lentKeys 0 os.length ++ ex).any (Nat.beq k)) || Nat.blt 1 ex.length || ex.any (Nat.ble rsv) with
        | true => none
        | false => match rs with
          | [r] => some (r, os', c ++ c')
          | rs => some (.tup rs, os', c ++ c')
      | _, _ => none
    | _ => none

end
end Go.Ev

/- What the evaluator's values mean in the model's memory; how they live on while memory turns. -/
namespace Go.Ev
variable [Globs]

def okV : Value → Prop
  | .agg _ | .tuple _ => False
  | _ => True

def nanB (k : FloatKind) (b : Nat) : Prop := k.format.order b b = none

/-- values whose memory nobody writes: U: the blocks that nobody owns -/
inductive RepI (w : World) (U : Nat → Prop) : Value → AV → Prop
  | v (x : Value) : okV x → RepI w U x (.v x)
  | fl (k : FloatKind) (b x : Nat) : (b = x ∨ (nanB k b ∧ nanB k x)) → RepI w U (.float k b) (.fl k x)
  | agg (arr : Array Value) (cs : List AV) : arr.size = cs.length → (∀ i (h : i < cs.length), RepI w U (arr.getD i undef) cs[i]) → RepI w U (.agg arr) (.agg cs)
  | tup (arr : Array Value) (cs : List AV) : arr.size = cs.length → (∀ i (h : i < cs.length), RepI w U (arr.getD i undef) cs[i]) → RepI w U (.tuple arr) (.tup cs)
  | slNil (sz : Nat) (q : Seq AV) (t : Bool) : q.len = 0 → RepI w U (.slice none 0 0) (.sl sz q t)
  | sl (ad : Addr) (n c sz : Nat) (q : Seq AV) (t : Bool) (u : Nat → Nat → Value) : n = q.len → q.len ≤ c → (t = true → c = q.len) → 0 < sz → (0 < q.len → U ad.block) →
      (∀ i, i < q.len → (q.get i).cells.length = sz) → (∀ i j, i < q.len → j < sz → w.cell? (ad.add (i * sz + j)) = some (u i j) ∧ okV (u i j)) →
      (∀ i j, i < q.len → ∀ h : j < (q.get i).cells.length, RepI w U (u i j) ((q.get i).cells[j])) → RepI w U (.slice (some ad) n c) (.sl sz q t)
  | sle (ad : Addr) (c : Nat) : RepI w U (.slice (some ad) 0 c) .sle
  | ip (ad : Addr) (cs : List AV) (u : Nat → Value) : (0 < cs.length → U ad.block) → (∀ j, j < cs.length → w.cell? (ad.add j) = some (u j)) →
      (∀ j (h : j < cs.length), RepI w U (u j) cs[j]) → RepI w U (.pointer (some ad)) (.ip cs)
  | fnv (f : Fn) (a b : Array Value) (as bs : List AV) : a.size = as.length → (∀ i (h : i < as.length), RepI w U (a.getD i undef) as[i]) →
      b.size = bs.length → (∀ i (h : i < bs.length), RepI w U (b.getD i undef) bs[i]) → RepI w U (.func f a b) (.fnv f as bs)
  | ifc (t : TypeId) (x : Value) (y : AV) : RepI w U x y → RepI w U (.iface t x) (.ifc t y)
  | gp (g : Nat) : RepI w U (.pointer (some ⟨g, 0, none⟩)) (.gp g)
  | mp (r : Nat) (arr : Array MapEntry) (clock : Nat) (ks : List Value) (vs : List AV) : U r → w.heap[r]? = some (.map arr clock) → arr.size = ks.length → ks.length = vs.length →
      (∀ i, i < vs.length → (arr.getD i default).key = ks.getD i undef) → (∀ i (h : i < vs.length), RepI w U (arr.getD i default).val vs[i]) → RepI w U (.map (some r)) (.mp ks vs)

/-- memory, and who owns which block: 'some none': somebody else; 'some (some k)': own key k; of each key: the block that counts, a row's length, size, least version -/
structure St where
  w : World
  own : Nat → Option (Option Nat)
  cur : Nat → Option Nat
  len : Nat → Nat
  sz : Nat → Nat
  floor : Nat → Nat
  isRow : Nat → Bool
  live : Nat → Prop
  used : Nat → Prop

def St.free (S : St) (b : Nat) : Prop := S.own b = none

/-- the block that counts is owned -/
def CurOwn (S : St) (k : Nat) : Prop := ∀ b, S.cur k = some b → S.own b = some (some k)

/-- the package-level tables lie where they lie, and nobody owns them -/
def Glob (S : St) : Prop := ∀ g sz q, look Globs.tab g = some (sz, q) → S.own g = none ∧ g < S.w.heap.size ∧ ∀ i, i < q.len → (q.get i).cells.length = sz ∧
  ∀ j (h : j < (q.get i).cells.length), ∃ x, (q.get i).cells[j] = .v x ∧ okV x ∧ S.w.cell? ⟨g, i * sz + j, none⟩ = some x

structure St.wf (S : St) : Prop where
  bound : ∀ b o, S.own b = some o → b < S.w.heap.size
  kept : ∀ k, S.live k → CurOwn S k
  lu : ∀ k, S.live k → S.used k
  glob : Glob S

def blockSize (w : World) (b : Nat) : Nat :=
  match w.heap[b]? with
  | some (.cells c _ _) => c.size
  | _ => 0

def curCell (S : St) (k i : Nat) : Option Value :=
  match S.cur k with
  | some b => S.w.cell? ⟨b, i, none⟩
  | none => none

def RowOK (S : St) (v : Value) (k off len ver : Nat) (tight : Bool) : Prop :=
  S.isRow k = true ∧ ∃ a c, v = .slice a len c ∧ off + len ≤ ver ∧ ver ≤ S.len k ∧ len ≤ c ∧ (tight = true → c = len) ∧
    (0 < len → ∃ ad, a = some ad ∧ (S.floor k ≤ ver → S.own ad.block = some (some k) ∧ (S.cur k = some ad.block → ad = ⟨ad.block, off * S.sz k, none⟩) ∧
      ∀ j, j < len * S.sz k → S.w.cell? (ad.add j) = curCell S k (off * S.sz k + j) ∧ (S.w.cell? (ad.add j)).isSome)) ∧
    (ver = S.len k → match S.cur k with
      | none => a = none ∧ c = 0 ∧ len = 0
      | some b => (0 < c → a = some ⟨b, off * S.sz k, none⟩) ∧ (off + c) * S.sz k ≤ blockSize S.w b)

def RpOK (S : St) (v : Value) (k i ver off : Nat) : Prop :=
  S.isRow k = true ∧ ∃ ad, v = .pointer (some ad) ∧ i < ver ∧ ver ≤ S.len k ∧
    (S.floor k ≤ ver → S.own ad.block = some (some k) ∧ (S.cur k = some ad.block → ad = ⟨ad.block, i * S.sz k + off, none⟩) ∧ ∀ j, off + j < S.sz k → S.w.cell? (ad.add j) = curCell S k (i * S.sz k + off + j) ∧ (S.w.cell? (ad.add j)).isSome) ∧
    (ver = S.len k → ∃ b, S.cur k = some b ∧ ad = ⟨b, i * S.sz k + off, none⟩)

def PtrOK (S : St) (v : Value) (k off : Nat) : Prop := S.isRow k = false ∧ ∃ b, S.cur k = some b ∧ v = .pointer (some ⟨b, off, none⟩)

inductive Rep (S : St) : Value → AV → Prop
  | i (x : Value) (y : AV) : RepI S.w S.free x y → Rep S x y
  | junk (x : Value) : Rep S x .junk
  | agg (arr : Array Value) (cs : List AV) : arr.size = cs.length → (∀ i (h : i < cs.length), Rep S (arr.getD i undef) cs[i]) → Rep S (.agg arr) (.agg cs)
  | tup (arr : Array Value) (cs : List AV) : arr.size = cs.length → (∀ i (h : i < cs.length), Rep S (arr.getD i undef) cs[i]) → Rep S (.tuple arr) (.tup cs)
  | row (x : Value) (k off len ver : Nat) (t : Bool) : S.used k → (S.live k → RowOK S x k off len ver t) → (∃ a c, x = .slice a len c ∧ (a = none → c = 0)) → Rep S x (.row k off len ver t)
  | rp (x : Value) (k i ver off : Nat) : S.used k → (S.live k → RpOK S x k i ver off) → (∃ ad, x = .pointer (some ad)) → Rep S x (.rp k i ver off)
  | ptr (x : Value) (k off : Nat) : S.used k → (S.live k → PtrOK S x k off) → (∃ ad, x = .pointer (some ad)) → Rep S x (.ptr k off)
  | mpk (b k : Nat) : S.used k → (S.live k → PtrOK S (.pointer (some ⟨b, 0, none⟩)) k 0) → Rep S (.map (some b)) (.mpk k)
  | fnv (f : Fn) (a b : Array Value) (as bs : List AV) : a.size = as.length → (∀ i (h : i < as.length), Rep S (a.getD i undef) as[i]) →
      b.size = bs.length → (∀ i (h : i < bs.length), Rep S (b.getD i undef) bs[i]) → Rep S (.func f a b) (.fnv f as bs)
  | ifc (t : TypeId) (x : Value) (y : AV) : Rep S x y → Rep S (.iface t x) (.ifc t y)

/-- a row's part that strings share: none, or within what is told -/
def FzOK (q : Seq AV) (sz : Nat) (fz : Nat × Nat) : Prop :=
  match q with
  | .frz _ => fz.2 ≤ q.len * sz
  | _ => fz = (0, 0)

theorem fzOK_zero (q : Seq AV) (sz : Nat) : FzOK q sz (0, 0) := by
  unfold FzOK
  split
  · exact Nat.zero_le _
  · rfl

theorem fzOK_le {q : Seq AV} {sz : Nat} {fz : Nat × Nat} (h : FzOK q sz fz) : fz.2 ≤ q.len * sz := by
  unfold FzOK at h
  split at h
  · exact h
  · subst h; exact Nat.zero_le _

def ObjOK (S : St) (k : Nat) : AObj → Prop
  | .cells T cs => S.isRow k = false ∧ ∃ b arr, S.cur k = some b ∧ S.own b = some (some k) ∧ S.w.heap[b]? = some (.cells arr T (0, 0)) ∧ arr.size = cs.length ∧
      ∀ i (h : i < cs.length), Rep S (arr.getD i undef) cs[i]
  | .row T sz q floor => S.isRow k = true ∧ S.sz k = sz ∧ 0 < sz ∧ S.len k = q.len ∧ S.floor k = floor ∧ floor ≤ q.len ∧ (∀ i, i < q.len → (q.get i).cells.length = sz) ∧
      match S.cur k with
      | none => q.len = 0
      | some b => S.own b = some (some k) ∧ ∃ arr, (∃ fz, S.w.heap[b]? = some (.cells arr T fz) ∧ FzOK q sz fz) ∧ q.len * sz ≤ arr.size ∧
          ∀ i j, i < q.len → ∀ h : j < (q.get i).cells.length, Rep S (arr.getD (i * sz + j) undef) ((q.get i).cells[j]) ∧ okV (arr.getD (i * sz + j) undef)
  | .map es => S.isRow k = false ∧ ∃ b arr, S.cur k = some b ∧ S.own b = some (some k) ∧ S.w.heap[b]? = some (.map arr es.length) ∧ arr.size = es.length ∧
      ∀ i (h : i < es.length), (arr.getD i default).key = es[i].1 ∧ (arr.getD i default).born = i ∧ Rep S (arr.getD i default).val es[i].2

def HeapOK (S : St) (hp : List (Nat × AObj)) : Prop := ∀ k o, look hp k = some o → S.used k ∧ S.live k ∧ ObjOK S k o
def FrOK (S : St) (n : Nat) (fr : List (Nat × AV)) (tmps : Array Value) : Prop := ∀ t x, look fr t = some x → t < n ∧ Rep S (tmps.getD t undef) x

structure Rel (S : St) (A : AS) (a : Act) : Prop where
  wf : S.wf
  size : a.tmps.size = A.n
  defers : a.defers = []
  fr : FrOK S A.n A.fr a.tmps
  hp : HeapOK S A.hp
  used : ∀ k, S.used k → k < A.nx ∨ rsv ≤ k

/-- what was there is there still, but for what is one's own; nothing that lives has moved -/
structure Grows (w w' : World) : Prop where
  size : w.heap.size ≤ w'.heap.size
  os : w'.os = w.os
  tape : w'.tape = w.tape
  output : w'.output = w.output
  block : ∀ b, b < w.heap.size → w'.heap[b]? = w.heap[b]?

theorem Grows.refl (w : World) : Grows w w := ⟨Nat.le_refl _, rfl, rfl, rfl, fun _ _ => rfl⟩
theorem Grows.trans {a b c : World} (h : Grows a b) (k : Grows b c) : Grows a c :=
  ⟨Nat.le_trans h.size k.size, k.os.trans h.os, k.tape.trans h.tape, k.output.trans h.output, fun i hi => (k.block i (Nat.lt_of_lt_of_le hi h.size)).trans (h.block i hi)⟩

/-- what is known of a key's object behind a while: a row has become longer, or lies where it lay -/
structure Moves (S S' : St) (k : Nat) : Prop where
  isRow : S'.isRow k = S.isRow k
  sz : S'.sz k = S.sz k
  len : S.len k ≤ S'.len k
  cur : S'.len k = S.len k → S'.cur k = S.cur k
  var : S.isRow k = false → S'.cur k = S.cur k
  size : S'.len k = S.len k → ∀ b, S.cur k = some b → blockSize S.w b ≤ blockSize S'.w b

theorem Moves.refl (S : St) (k : Nat) : Moves S S k := ⟨rfl, rfl, Nat.le_refl _, fun _ => rfl, fun _ => rfl, fun _ _ _ => Nat.le_refl _⟩

theorem Moves.trans {S S' S'' : St} {k : Nat} (h : Moves S S' k) (g : Moves S' S'' k) : Moves S S'' k := by
  have h1 := h.len
  have g1 := g.len
  refine ⟨g.isRow.trans h.isRow, g.sz.trans h.sz, Nat.le_trans h1 g1, fun e => (g.cur (by omega)).trans (h.cur (by omega)), fun e => (g.var (h.isRow.trans e)).trans (h.var e), fun e b hb => ?_⟩
  have e1 : S'.len k = S.len k := by omega
  have e2 : S''.len k = S'.len k := by omega
  exact Nat.le_trans (h.size e1 b hb) (g.size e2 b ((h.cur e1).trans hb))

structure Ext (S S' : St) : Prop where
  size : S.w.heap.size ≤ S'.w.heap.size
  os : S'.w.os = S.w.os
  tape : S'.w.tape = S.w.tape
  output : S'.w.output = S.w.output
  old : ∀ b, b < S.w.heap.size → (∀ k, S.own b ≠ some (some k)) → S'.w.heap[b]? = S.w.heap[b]? ∧ S'.own b = S.own b
  used : ∀ k, S.used k → S'.used k
  keys : ∀ k, S.used k → S'.live k → S.live k ∧ (∀ v off len ver t, RowOK S v k off len ver t → RowOK S' v k off len ver t) ∧
    (∀ v i ver off, RpOK S v k i ver off → RpOK S' v k i ver off) ∧ (∀ v off, PtrOK S v k off → PtrOK S' v k off) ∧ Moves S S' k

theorem Ext.refl (S : St) : Ext S S := ⟨Nat.le_refl _, rfl, rfl, rfl, fun _ _ _ => ⟨rfl, rfl⟩, fun _ h => h, fun k _ h => ⟨h, fun _ _ _ _ _ h => h, fun _ _ _ _ h => h, fun _ _ h => h, Moves.refl S k⟩⟩

theorem Ext.trans {S S' S'' : St} (h : Ext S S') (g : Ext S' S'') : Ext S S'' := by
  refine ⟨Nat.le_trans h.size g.size, g.os.trans h.os, g.tape.trans h.tape, g.output.trans h.output, fun b hb ho => ?_, fun k hk => g.used k (h.used k hk), fun k hk hl => ?_⟩
  · obtain ⟨h1, h2⟩ := h.old b hb ho
    obtain ⟨g1, g2⟩ := g.old b (Nat.lt_of_lt_of_le hb h.size) (fun k => by rw [h2]; exact ho k)
    exact ⟨g1.trans h1, g2.trans h2⟩
  · obtain ⟨g1, g2, g3, g4, g5⟩ := g.keys k (h.used k hk) hl
    obtain ⟨h1, h2, h3, h4, h5⟩ := h.keys k hk g1
    exact ⟨h1, fun v off len ver t x => g2 _ _ _ _ _ (h2 _ _ _ _ _ x), fun v i ver off x => g3 _ _ _ _ (h3 _ _ _ _ x), fun v off x => g4 _ _ (h4 _ _ x), h5.trans g5⟩

theorem cell_block {w : World} {ad : Addr} {v : Value} (h : w.cell? ad = some v) : ad.block < w.heap.size := World.block_lt_of_cell? w ad h

theorem cell_same {w w' : World} {ad : Addr} (h : w'.heap[ad.block]? = w.heap[ad.block]?) : w'.cell? ad = w.cell? ad := by
  unfold World.cell?
  rw [h]

theorem add_block (ad : Addr) (n : Nat) : (ad.add n).block = ad.block := by unfold Addr.add; split <;> rfl

theorem Glob.keep {S S' : St} (h : Glob S) (hb : ∀ b, b < S.w.heap.size → S.own b = none → S'.w.heap[b]? = S.w.heap[b]? ∧ S'.own b = none) (hs : S.w.heap.size ≤ S'.w.heap.size) : Glob S' := by
  intro g sz q hg
  obtain ⟨h1, h2, h3⟩ := h g sz q hg
  obtain ⟨k1, k2⟩ := hb g h2 h1
  refine ⟨k2, Nat.lt_of_lt_of_le h2 hs, fun i hi => ?_⟩
  obtain ⟨h4, h5⟩ := h3 i hi
  refine ⟨h4, fun j hj => ?_⟩
  obtain ⟨x, e1, e2, e3⟩ := h5 j hj
  exact ⟨x, e1, e2, by rw [cell_same (w := S.w) (w' := S'.w) k1]; exact e3⟩

/-- what is nobody's own lives on -/
theorem RepI.ext {w w' : World} {U U' : Nat → Prop} (hb : ∀ b, b < w.heap.size → U b → w'.heap[b]? = w.heap[b]? ∧ U' b) {x : Value} {y : AV} (h : RepI w U x y) : RepI w' U' x y := by
  induction h with
  | v x hx => exact .v x hx
  | fl k b x hx => exact .fl k b x hx
  | agg arr cs hs _ ih => exact .agg arr cs hs ih
  | tup arr cs hs _ ih => exact .tup arr cs hs ih
  | slNil sz q t hq => exact .slNil sz q t hq
  | sl ad n c sz q t u hn hc ht hsz hU hl hcell _ ih =>
    have hblk : 0 < q.len → ad.block < w.heap.size := fun h0 => by
      have := cell_block (hcell 0 0 h0 hsz).1
      rwa [add_block] at this
    refine .sl ad n c sz q t u hn hc ht hsz (fun h0 => (hb _ (hblk h0) (hU h0)).2) hl (fun i j hi hj => ?_) ih
    have h0 : 0 < q.len := by omega
    rw [cell_same (w := w) (w' := w') (by rw [add_block]; exact (hb _ (hblk h0) (hU h0)).1)]
    exact hcell i j hi hj
  | sle ad c => exact .sle ad c
  | ip ad cs u hU hcell _ ih =>
    have hblk : 0 < cs.length → ad.block < w.heap.size := fun h0 => by
      have := cell_block (hcell 0 h0)
      rwa [add_block] at this
    refine .ip ad cs u (fun h0 => (hb _ (hblk h0) (hU h0)).2) (fun j hj => ?_) ih
    have h0 : 0 < cs.length := by omega
    rw [cell_same (w := w) (w' := w') (by rw [add_block]; exact (hb _ (hblk h0) (hU h0)).1)]
    exact hcell j hj
  | fnv f a b as bs h1 _ h2 _ ih1 ih2 => exact .fnv f a b as bs h1 ih1 h2 ih2
  | ifc t x y _ ih => exact .ifc t x y ih
  | gp g => exact .gp g
  | mp r arr clock ks vs hU hh h1 h2 h3 _ ih =>
    have hlt : r < w.heap.size := by
      rcases Nat.lt_or_ge r w.heap.size with h | h
      · exact h
      · rw [Array.getElem?_eq_none h] at hh; cases hh
    exact .mp r arr clock ks vs (hb r hlt hU).2 ((hb r hlt hU).1.trans hh) h1 h2 h3 ih

theorem Rep.ext {S S' : St} (e : Ext S S') {x : Value} {y : AV} (h : Rep S x y) : Rep S' x y := by
  induction h with
  | i x y h => exact .i x y (h.ext fun b hb hU => by
      have := e.old b hb (fun k hk => by unfold St.free at hU; rw [hU] at hk; cases hk)
      exact ⟨this.1, this.2.trans hU⟩)
  | junk x => exact .junk x
  | agg arr cs hs _ ih => exact .agg arr cs hs ih
  | tup arr cs hs _ ih => exact .tup arr cs hs ih
  | row x k off len ver t hu hr hx => exact .row x k off len ver t (e.used k hu) (fun hl => (e.keys k hu hl).2.1 _ _ _ _ _ (hr (e.keys k hu hl).1)) hx
  | rp x k i ver off hu hr hx => exact .rp x k i ver off (e.used k hu) (fun hl => (e.keys k hu hl).2.2.1 _ _ _ _ (hr (e.keys k hu hl).1)) hx
  | ptr x k off hu hr hx => exact .ptr x k off (e.used k hu) (fun hl => (e.keys k hu hl).2.2.2.1 _ _ (hr (e.keys k hu hl).1)) hx
  | mpk b k hu hr => exact .mpk b k (e.used k hu) fun hl => (e.keys k hu hl).2.2.2.1 _ _ (hr (e.keys k hu hl).1)
  | fnv f a b as bs h1 _ h2 _ ih1 ih2 => exact .fnv f a b as bs h1 ih1 h2 ih2
  | ifc t x y _ ih => exact .ifc t x y ih

/-- key k is as it was -/
structure Same (S S' : St) (k : Nat) : Prop where
  cur : S'.cur k = S.cur k
  len : S'.len k = S.len k
  sz : S'.sz k = S.sz k
  floor : S'.floor k = S.floor k
  isRow : S'.isRow k = S.isRow k
  block : ∀ b, S.own b = some (some k) → S'.w.heap[b]? = S.w.heap[b]? ∧ S'.own b = some (some k)

theorem Same.moves {S S' : St} {k : Nat} (h : Same S S' k) (ho : CurOwn S k) : Moves S S' k := by
  refine ⟨h.isRow, h.sz, by rw [h.len]; exact Nat.le_refl _, fun _ => h.cur, fun _ => h.cur, fun _ b hb => ?_⟩
  unfold blockSize
  rw [(h.block b (ho b hb)).1]
  exact Nat.le_refl _

theorem Same.curOwn {S S' : St} {k : Nat} (h : Same S S' k) (ho : ∀ b, S.cur k = some b → S.own b = some (some k)) (i : Nat) : curCell S' k i = curCell S k i := by
  unfold curCell
  rw [h.cur]
  cases hc : S.cur k with
  | none => rfl
  | some b => exact cell_same (h.block b (ho b hc)).1

theorem Same.row {S S' : St} {k : Nat} (h : Same S S' k) (ho : CurOwn S k) {v : Value} {off len ver : Nat} {t : Bool} (r : RowOK S v k off len ver t) : RowOK S' v k off len ver t := by
  obtain ⟨hrow, a, c, hv, h1, h2, h3, h4, h5, h6⟩ := r
  refine ⟨h.isRow.trans hrow, a, c, hv, h1, by rw [h.len]; exact h2, h3, h4, fun hl => ?_, fun hv => ?_⟩
  · obtain ⟨ad, ha, hrest⟩ := h5 hl
    refine ⟨ad, ha, fun hf => ?_⟩
    rw [h.floor] at hf
    obtain ⟨hown, hcur, hcell⟩ := hrest hf
    refine ⟨(h.block _ hown).2, by rw [h.cur, h.sz]; exact hcur, fun j hj => ?_⟩
    rw [h.sz] at hj
    rw [h.sz, h.curOwn ho, cell_same (w := S.w) (w' := S'.w) (by rw [add_block]; exact (h.block _ hown).1)]
    exact hcell j hj
  · rw [h.len] at hv
    have := h6 hv
    rw [h.cur]
    cases hc : S.cur k with
    | none => rw [hc] at this; exact this
    | some b =>
      rw [hc] at this
      refine ⟨by rw [h.sz]; exact this.1, ?_⟩
      rw [h.sz]
      unfold blockSize
      rw [(h.block b (ho b hc)).1]
      exact this.2

theorem Same.rp {S S' : St} {k : Nat} (h : Same S S' k) (ho : CurOwn S k) {v : Value} {i ver off : Nat} (r : RpOK S v k i ver off) : RpOK S' v k i ver off := by
  obtain ⟨hrow, ad, hv, h1, h2, h3, h4⟩ := r
  refine ⟨h.isRow.trans hrow, ad, hv, h1, by rw [h.len]; exact h2, fun hf => ?_, fun hv => ?_⟩
  · rw [h.floor] at hf
    obtain ⟨hown, hcur, hcell⟩ := h3 hf
    refine ⟨(h.block _ hown).2, by rw [h.cur, h.sz]; exact hcur, fun j hj => ?_⟩
    rw [h.sz] at hj
    rw [h.sz, h.curOwn ho, cell_same (w := S.w) (w' := S'.w) (by rw [add_block]; exact (h.block _ hown).1)]
    exact hcell j hj
  · rw [h.len] at hv
    obtain ⟨b, hb, ha⟩ := h4 hv
    exact ⟨b, by rw [h.cur]; exact hb, by rw [h.sz]; exact ha⟩

theorem Same.ptr {S S' : St} {k : Nat} (h : Same S S' k) {v : Value} {off : Nat} (r : PtrOK S v k off) : PtrOK S' v k off := by
  obtain ⟨hrow, b, hb, hv⟩ := r
  exact ⟨h.isRow.trans hrow, b, by rw [h.cur]; exact hb, hv⟩

theorem ObjOK.curOwn {S : St} {k : Nat} {o : AObj} (h : ObjOK S k o) : CurOwn S k := by
  intro b hb
  cases o with
  | cells T cs =>
    obtain ⟨_, b', arr, hc, ho, _⟩ := h
    rw [hb] at hc
    cases hc
    exact ho
  | row T sz q floor =>
    obtain ⟨_, _, _, _, _, _, _, h⟩ := h
    rw [hb] at h
    exact h.1
  | map es =>
    obtain ⟨_, b', arr, hc, ho, _⟩ := h
    rw [hb] at hc
    cases hc
    exact ho

theorem ObjOK.same {S S' : St} (e : Ext S S') {k : Nat} {o : AObj} (h : ObjOK S k o) (hs : Same S S' k) : ObjOK S' k o := by
  cases o with
  | cells T cs =>
    obtain ⟨hrow, b, arr, hc, ho, hh, hl, hr⟩ := h
    exact ⟨hs.isRow.trans hrow, b, arr, by rw [hs.cur]; exact hc, (hs.block b ho).2, (hs.block b ho).1.trans hh, hl, fun i hi => (hr i hi).ext e⟩
  | row T sz q floor =>
    obtain ⟨hrow, h1, h2, h3, h4, hfl, h5, h6⟩ := h
    refine ⟨hs.isRow.trans hrow, hs.sz.trans h1, h2, hs.len.trans h3, hs.floor.trans h4, hfl, h5, ?_⟩
    rw [hs.cur]
    cases hc : S.cur k with
    | none => rw [hc] at h6; exact h6
    | some b =>
      rw [hc] at h6
      obtain ⟨ho, arr, hh, hl, hr⟩ := h6
      obtain ⟨fz, hh, hfz⟩ := hh
      exact ⟨(hs.block b ho).2, arr, ⟨fz, (hs.block b ho).1.trans hh, hfz⟩, hl, fun i j hi hj => ⟨(hr i j hi hj).1.ext e, (hr i j hi hj).2⟩⟩
  | map es =>
    obtain ⟨hrow, b, arr, hc, ho, hh, hl, hr⟩ := h
    exact ⟨hs.isRow.trans hrow, b, arr, by rw [hs.cur]; exact hc, (hs.block b ho).2, (hs.block b ho).1.trans hh, hl, fun i hi => ⟨(hr i hi).1, (hr i hi).2.1, (hr i hi).2.2.ext e⟩⟩

theorem FrOK.ext {S S' : St} (e : Ext S S') {n : Nat} {fr : List (Nat × AV)} {tmps : Array Value} (h : FrOK S n fr tmps) : FrOK S' n fr tmps :=
  fun t x hx => ⟨(h t x hx).1, (h t x hx).2.ext e⟩

/-! ### the ways in which memory turns -/

/-- more memory that nobody owns; nothing else -/
def St.at (S : St) (w : World) : St := { S with w := w }

theorem same_at {S : St} {w : World} (g : Grows S.w w) (hwf : S.wf) (k : Nat) : Same S (S.at w) k :=
  ⟨rfl, rfl, rfl, rfl, rfl, fun b hb => ⟨g.block b (hwf.bound b _ hb), hb⟩⟩

theorem ext_at {S : St} {w : World} (g : Grows S.w w) (hwf : S.wf) : Ext S (S.at w) :=
  ⟨g.size, g.os, g.tape, g.output, fun b hb _ => ⟨g.block b hb, rfl⟩, fun _ h => h, fun k _ hl =>
    ⟨hl, fun _ _ _ _ _ r => (same_at g hwf k).row (hwf.kept k hl) r, fun _ _ _ _ r => (same_at g hwf k).rp (hwf.kept k hl) r, fun _ _ r => (same_at g hwf k).ptr r, (same_at g hwf k).moves (hwf.kept k hl)⟩⟩

theorem wf_at {S : St} {w : World} (g : Grows S.w w) (hwf : S.wf) : (S.at w).wf :=
  ⟨fun b o hb => Nat.lt_of_lt_of_le (hwf.bound b o hb) g.size, hwf.kept, hwf.lu, hwf.glob.keep (fun b hb ho => ⟨g.block b hb, ho⟩) g.size⟩

theorem heap_at {S : St} {w : World} (g : Grows S.w w) (hwf : S.wf) {hp : List (Nat × AObj)} (h : HeapOK S hp) : HeapOK (S.at w) hp :=
  fun k o ho => ⟨(h k o ho).1, (h k o ho).2.1, (h k o ho).2.2.same (ext_at g hwf) (same_at g hwf k)⟩

end Go.Ev

/- Each operation of the evaluator comes to what the model's operation comes to: the ways in which memory turns; small laws. -/
namespace Go.Ev
variable [Globs]

/-! ### lists with keys -/
theorem look_put_self {α : Type} (l : List (Nat × α)) (t : Nat) (a : α) : look (put1 l t a) t = some a := by
  simp [put1, look]

theorem look_drop_self {α : Type} (l : List (Nat × α)) (t : Nat) : look (drop1 l t) t = none := by
  induction l with
  | nil => rfl
  | cons x r ih =>
    obtain ⟨k, a⟩ := x
    simp only [drop1]
    cases h : Nat.beq k t with
    | true => exact ih
    | false => simp only [look, h]; exact ih

theorem look_drop_ne {α : Type} (l : List (Nat × α)) {t u : Nat} (h : u ≠ t) : look (drop1 l t) u = look l u := by
  induction l with
  | nil => rfl
  | cons x r ih =>
    obtain ⟨k, a⟩ := x
    simp only [drop1, look]
    cases hk : Nat.beq k t with
    | true =>
      have : k = t := Nat.eq_of_beq_eq_true hk
      subst this
      have hne : Nat.beq k u = false := by
        cases hb : Nat.beq k u with
        | false => rfl
        | true => exact absurd (Nat.eq_of_beq_eq_true hb).symm h
      simp only [hne]
      exact ih
    | false =>
      simp only [look]
      cases Nat.beq k u with
      | true => rfl
      | false => exact ih

theorem look_put_ne {α : Type} (l : List (Nat × α)) {t u : Nat} (a : α) (h : u ≠ t) : look (put1 l t a) u = look l u := by
  have hne : Nat.beq t u = false := by
    cases hb : Nat.beq t u with
    | false => rfl
    | true => exact absurd (Nat.eq_of_beq_eq_true hb).symm h
  simp only [put1, look, hne]
  exact look_drop_ne l h

theorem look_put {α : Type} (l : List (Nat × α)) (t u : Nat) (a : α) : look (put1 l t a) u = if u = t then some a else look l u := by
  split
  · next h => subst h; exact look_put_self l u a
  · next h => exact look_put_ne l a h

theorem look_drop {α : Type} (l : List (Nat × α)) (t u : Nat) : look (drop1 l t) u = if u = t then none else look l u := by
  split
  · next h => subst h; exact look_drop_self l u
  · next h => exact look_drop_ne l h

/-! ### what a value is -/
theorem okV_of_scalar {x : Value} (h : scalarV x = true) : okV x := by
  cases x <;> first | trivial | cases h

theorem rep_v {S : St} {x y : Value} (h : Rep S x (.v y)) : x = y ∧ okV y := by
  cases h with
  | i _ _ h => cases h with | v _ hx => exact ⟨rfl, hx⟩

theorem repI_v {w : World} {U : Nat → Prop} {x y : Value} (h : RepI w U x (.v y)) : x = y ∧ okV y := by
  cases h with | v _ hx => exact ⟨rfl, hx⟩

theorem Rep.v {S : St} {x : Value} (h : okV x) : Rep S x (.v x) := .i _ _ (.v _ h)

theorem rep_const (S : St) (x : Value) : Rep S x (constA x) := by
  cases x with
  | agg cs =>
    simp only [constA]
    split
    · next h =>
      refine .agg cs _ (by simp) fun i hi => ?_
      have hi' : i < cs.size := by simpa using hi
      have hs : scalarV cs[i] = true := by
        have := List.all_eq_true.1 h cs[i] (by simp)
        exact this
      simp only [List.getElem_map, Array.getElem_toList]
      rw [Array.getD_eq_getD_getElem?, Array.getElem?_eq_getElem hi', Option.getD_some]
      exact .v (okV_of_scalar hs)
    · exact .junk _
  | tuple vs => exact .junk _
  | _ => exact .v trivial

theorem rep_eval {S : St} {n : Nat} {fr : List (Nat × AV)} {a : Act} (h : FrOK S n fr a.tmps) (x : Operand) : Rep S (a.eval x) (evalA fr x) := by
  cases x with
  | tmp t =>
    show Rep S (a.tmps.getD t undef) ((look fr t).getD .junk)
    cases hl : look fr t with
    | none => exact .junk _
    | some y => exact (h t y hl).2
  | const v => exact rep_const S v
  | global g => exact .i _ _ (.gp g)
  | func f => exact .fnv _ _ _ _ _ rfl (fun i hi => absurd hi (by simp)) rfl (fun i hi => absurd hi (by simp))

/-- a value of one cell -/
theorem okV_one {x : Value} (h : okV x) : x.oneCell' = true := by
  cases x <;> first | rfl | exact h.elim

theorem okV_cells {x : Value} (h : okV x) : x.cells = #[x] := by
  cases x <;> first | rfl | exact h.elim

/-- what is no aggregate, no tuple and not unknown is one cell -/
theorem rep_one {S : St} {x : Value} {y : AV} (h : Rep S x y) (hy : isJunk y = false) : okV x := by
  cases h with
  | i _ _ h => cases h <;> first | trivial | assumption | (simp [isJunk] at hy)
  | junk => simp [isJunk] at hy
  | agg => simp [isJunk] at hy
  | tup => simp [isJunk] at hy
  | row _ _ _ _ _ _ _ _ hx => obtain ⟨_, _, rfl, _⟩ := hx; trivial
  | rp _ _ _ _ _ _ _ hx => obtain ⟨_, rfl⟩ := hx; trivial
  | ptr _ _ _ _ _ hx => obtain ⟨_, rfl⟩ := hx; trivial
  | mpk => trivial
  | fnv => trivial
  | ifc => trivial

/-- a value's cells are its parts -/
theorem rep_cells {S : St} {x : Value} {y : AV} (h : Rep S x y) (hy : y.cells.any isJunk = false) : x.cells.size = y.cells.length ∧ (∀ i (hi : i < y.cells.length), Rep S (x.cells.getD i undef) y.cells[i]) ∧ ∀ i, i < y.cells.length → okV (x.cells.getD i undef) := by
  have single : y.cells = [y] → x.cells.size = y.cells.length ∧ (∀ i (hi : i < y.cells.length), Rep S (x.cells.getD i undef) y.cells[i]) ∧ ∀ i, i < y.cells.length → okV (x.cells.getD i undef) := by
    intro he
    have hj : isJunk y = false := by rw [he] at hy; simpa using hy
    have hx := okV_cells (rep_one h hj)
    rw [hx]
    refine ⟨by rw [he]; rfl, fun i hi => ?_, fun i hi => ?_⟩
    · have h0 : i = 0 := by rw [he] at hi; simpa using hi
      subst h0
      simp only [he, List.getElem_cons_zero]
      exact h
    · have h0 : i = 0 := by rw [he] at hi; simpa using hi
      subst h0
      exact rep_one h hj
  have parts : ∀ (arr : Array Value) (cs : List AV), x = .agg arr → y = .agg cs → arr.size = cs.length → (∀ i (hi : i < cs.length), Rep S (arr.getD i undef) cs[i]) →
      x.cells.size = y.cells.length ∧ (∀ i (hi : i < y.cells.length), Rep S (x.cells.getD i undef) y.cells[i]) ∧ ∀ i, i < y.cells.length → okV (x.cells.getD i undef) := by
    intro arr cs hx he hs hr
    subst hx
    subst he
    refine ⟨hs, hr, fun i hi => rep_one (hr i hi) ?_⟩
    have := List.any_eq_false.1 hy cs[i] (List.getElem_mem hi)
    simpa using this
  cases h with
  | agg arr cs hs hr => exact parts arr cs rfl rfl hs hr
  | i _ _ h =>
    cases h with
    | agg arr cs hs hr => exact parts arr cs rfl rfl hs fun i hi => .i _ _ (hr i hi)
    | _ => exact single rfl
  | _ => exact single rfl

theorem stored_spec {y : AV} {sz : Nat} {xs : List AV} (h : stored y sz = some xs) : xs = y.cells ∧ y.cells.any isJunk = false ∧ y.cells.length = sz := by
  unfold stored at h
  split at h
  · next h1 h2 => exact ⟨(Option.some.inj h).symm, h1, Nat.eq_of_beq_eq_true h2⟩
  · cases h

/-! ### memory -/
theorem alloc_size (w : World) (o : Obj) : (w.alloc o).heap.size = w.heap.size + 1 := World.size_alloc w o
theorem alloc_old (w : World) (o : Obj) (b : Nat) (h : b < w.heap.size) : (w.alloc o).heap[b]? = w.heap[b]? := by
  show (w.heap.push o)[b]? = w.heap[b]?
  rw [Array.getElem?_push, if_neg (Nat.ne_of_lt h)]
theorem alloc_new (w : World) (o : Obj) : (w.alloc o).heap[w.heap.size]? = some o := by
  show (w.heap.push o)[w.heap.size]? = some o
  simp
theorem alloc_grows (w : World) (o : Obj) : Grows w (w.alloc o) := ⟨by rw [alloc_size]; omega, rfl, rfl, rfl, fun b hb => alloc_old w o b hb⟩
theorem drew_grows (w : World) : Grows w w.drew := ⟨Nat.le_refl _, rfl, rfl, rfl, fun _ _ => rfl⟩

/-- what an operation leaves -/
structure Post (S : St) (key : Nat) (hp : List (Nat × AObj)) (val : AV) (v : Value) (S' : St) : Prop where
  wf : S'.wf
  ext : Ext S S'
  used : ∀ k, S'.used k → S.used k ∨ k = key
  rep : Rep S' v val
  hp : HeapOK S' hp

def Out (P : Program) (S : St) (key : Nat) (hp : List (Nat × AObj)) (val : AV) : Result Next → Prop
  | .ok (.value v) w' => ∃ S', S'.w = w' ∧ Post S key hp val v S'
  | .ok .skip w' => ∃ S', S'.w = w' ∧ Post S key hp val undef S'
  | .ok (.enter f args) w' => w' = S.w ∧ Calls P f args S.w fun e w'' => ∃ v S', e = .returned v ∧ S'.w = w'' ∧ Post S key hp val v S'
  | _ => False

/-- an operation that only reads -/
theorem Out.same {P : Program} {S : St} {key : Nat} {hp : List (Nat × AObj)} {val : AV} {v : Value} {x : Result Next} (hwf : S.wf) (hh : HeapOK S hp) (hx : x = .ok (.value v) S.w) (hr : Rep S v val) : Out P S key hp val x := by
  subst hx
  exact ⟨S, rfl, hwf, Ext.refl S, fun k h => .inl h, hr, hh⟩

/-- memory that nobody owns is laid -/
theorem Out.more {P : Program} {S : St} {key : Nat} {hp : List (Nat × AObj)} {val : AV} {v : Value} {x : Result Next} {w' : World} (hwf : S.wf) (hh : HeapOK S hp) (hx : x = .ok (.value v) w') (hg : Grows S.w w')
    (hr : Rep (S.at w') v val) : Out P S key hp val x := by
  subst hx
  exact ⟨S.at w', rfl, wf_at hg hwf, ext_at hg hwf, fun k h => .inl h, hr, heap_at hg hwf hh⟩

def upd {α : Type} (f : Nat → α) (k : Nat) (x : α) (i : Nat) : α := if i = k then x else f i
theorem upd_self {α : Type} (f : Nat → α) (k : Nat) (x : α) : upd f k x k = x := by simp [upd]
theorem upd_ne {α : Type} (f : Nat → α) {k i : Nat} (x : α) (h : i ≠ k) : upd f k x i = f i := by simp [upd, h]

/-- a new own block: world w (more than S.w, nothing of it owned), then the block -/
def St.new (S : St) (key : Nat) (row : Bool) (w : World) (arr : Array Value) (T : TypeId) (n sz : Nat) : St :=
  { w := w.alloc (.cells arr T), own := upd S.own w.heap.size (some (some key)), cur := upd S.cur key (some w.heap.size), len := upd S.len key n, sz := upd S.sz key sz, floor := upd S.floor key 0, isRow := upd S.isRow key row,
    live := fun k => k = key ∨ S.live k, used := fun k => k = key ∨ S.used k }

section new
variable {S : St} {key : Nat} {row : Bool} {w : World} {arr : Array Value} {T : TypeId} {n sz : Nat}

theorem new_ne_block (hwf : S.wf) (hg : Grows S.w w) {b : Nat} {o : Option Nat} (h : S.own b = some o) : b ≠ w.heap.size := by
  have := hwf.bound b o h
  have := hg.size
  omega

theorem new_same (hwf : S.wf) (hg : Grows S.w w) {k : Nat} (hk : k ≠ key) : Same S (S.new key row w arr T n sz) k := by
  refine ⟨upd_ne _ _ hk, upd_ne _ _ hk, upd_ne _ _ hk, upd_ne _ _ hk, upd_ne _ _ hk, fun b hb => ?_⟩
  have hne := new_ne_block hwf hg hb
  have hlt := hwf.bound b _ hb
  refine ⟨?_, (upd_ne _ _ hne).trans hb⟩
  show (w.alloc _).heap[b]? = _
  rw [alloc_old w _ b (Nat.lt_of_lt_of_le hlt hg.size)]
  exact hg.block b hlt

theorem new_wf (hwf : S.wf) (hg : Grows S.w w) (hkey : ¬ S.used key) : (S.new key row w arr T n sz).wf := by
  refine ⟨fun b o hb => ?_, fun k hl => ?_, fun k hl => hl.imp id (hwf.lu k), hwf.glob.keep (fun b hb ho => ⟨?_, (upd_ne _ _ (by have := hg.size; omega)).trans ho⟩) (by
    show _ ≤ (w.alloc _).heap.size
    rw [alloc_size]; have := hg.size; omega)⟩
  rotate_left 2
  · show (w.alloc _).heap[b]? = _
    rw [alloc_old w _ b (Nat.lt_of_lt_of_le hb hg.size)]
    exact hg.block b hb
  · show b < (w.alloc _).heap.size
    by_cases hbe : b = w.heap.size
    · subst hbe; rw [alloc_size]; omega
    · have : S.own b = some o := by rwa [show (S.new key row w arr T n sz).own b = S.own b from upd_ne _ _ hbe] at hb
      have := hwf.bound b o this
      have := hg.size
      rw [alloc_size]
      omega
  · intro b hb
    by_cases hk : k = key
    · subst hk
      have : w.heap.size = b := Option.some.inj (by rw [← hb]; exact (upd_self _ _ _).symm)
      subst this
      exact upd_self _ _ _
    · have hl' : S.live k := hl.resolve_left hk
      have hc : S.cur k = some b := by rw [← hb]; exact (upd_ne _ _ hk).symm
      have ho := hwf.kept k hl' b hc
      exact (upd_ne _ _ (new_ne_block hwf hg ho)).trans ho

theorem new_ext (hwf : S.wf) (hg : Grows S.w w) (hkey : ¬ S.used key) : Ext S (S.new key row w arr T n sz) := by
  have hsz : S.w.heap.size ≤ (w.alloc (.cells arr T)).heap.size := Nat.le_trans hg.size (by rw [alloc_size]; omega)
  refine ⟨hsz, hg.os, hg.tape, hg.output, fun b hb _ => ⟨?_, upd_ne _ _ (by have := hg.size; omega)⟩, fun k hk => .inr hk, fun k hu hl => ?_⟩
  · show (w.alloc _).heap[b]? = _
    rw [alloc_old w _ b (Nat.lt_of_lt_of_le hb hg.size)]
    exact hg.block b hb
  · have hk : k ≠ key := fun e => hkey (e ▸ hu)
    have hl' : S.live k := hl.resolve_left hk
    have hs := new_same (row := row) (arr := arr) (T := T) (n := n) (sz := sz) hwf hg hk
    exact ⟨hl', fun _ _ _ _ _ r => hs.row (hwf.kept k hl') r, fun _ _ _ _ r => hs.rp (hwf.kept k hl') r, fun _ _ r => hs.ptr r, hs.moves (hwf.kept k hl')⟩

theorem new_heap (hwf : S.wf) (hg : Grows S.w w) (hkey : ¬ S.used key) {hp : List (Nat × AObj)} (hh : HeapOK S hp) {o : AObj} (ho : ObjOK (S.new key row w arr T n sz) key o) : HeapOK (S.new key row w arr T n sz) (put1 hp key o) := by
  intro k o' hk
  rw [look_put] at hk
  split at hk
  · next h => subst h; cases hk; exact ⟨.inl rfl, .inl rfl, ho⟩
  · next h =>
    obtain ⟨h1, h2, h3⟩ := hh k o' hk
    exact ⟨.inr h1, .inr h2, h3.same (new_ext hwf hg hkey) (new_same hwf hg h)⟩
end new

end Go.Ev

/- Operations on numbers, texts and truths come to what the model's come to. -/
namespace Go.Ev
variable [Globs]

theorem wrap_inR {k : IntKind} {n : Int} (h : inR k n) : k.wrap n = n := by
  cases k <;> simp only [inR] at h <;> simp only [IntKind.wrap, IntKind.bits, IntKind.signed] <;> simp <;> omega

theorem arith_val (h : Option Hint) (k : IntKind) (n : Int) (hc : AllP (arith h k n).cond) : (arith h k n).val = .v (.int k (k.wrap n)) ∧ (arith h k n).upd = [] := by
  unfold arith at *
  split
  · exact ⟨rfl, rfl⟩
  · next hh =>
    have : inR k n := by
      cases h with
      | none => exact hc.1
      | some x => cases x <;> first | exact hc.1 | exact absurd rfl (hh)
    rw [wrap_inR this]
    exact ⟨rfl, rfl⟩

theorem kindEq_eq {a b : IntKind} (h : kindEq a b = true) : a = b := by
  cases a <;> cases b <;> first | rfl | cases h

section
variable {P : Program}

theorem intOp_run {h : Option Hint} {op : BinOp} {k : IntKind} {x y : Int} {r : R} (hr : intOp h op k x y = some r) (hc : AllP r.cond) (t : TypeId) (w : World) :
    ∃ v, r.val = .v v ∧ okV v ∧ r.upd = [] ∧ (binOp op t (.int k x) (.int k y)).run P w = .ok v w := by
  cases op <;> simp only [intOp, vR, Option.some.injEq, reduceCtorEq] at hr <;> subst hr
  case add => exact ⟨_, (arith_val h k _ hc).1, trivial, (arith_val h k _ hc).2, by simp [binOp, Op.intArith]⟩
  case sub => exact ⟨_, (arith_val h k _ hc).1, trivial, (arith_val h k _ hc).2, by simp [binOp, Op.intArith]⟩
  case mul => exact ⟨_, (arith_val h k _ hc).1, trivial, (arith_val h k _ hc).2, by simp [binOp, Op.intArith]⟩
  case quo =>
    obtain ⟨hy, hc⟩ := hc
    exact ⟨_, (arith_val h k _ hc).1, trivial, (arith_val h k _ hc).2, by simp [binOp, Op.intDiv, hy]⟩
  case rem =>
    obtain ⟨hy, _⟩ := hc
    exact ⟨_, rfl, trivial, rfl, by simp [binOp, Op.intDiv, hy]⟩
  all_goals exact ⟨_, rfl, trivial, rfl, by simp [binOp, Op.intCmp, Op.intBits, bitsOf]⟩

theorem shiftOp_run {h : Option Hint} {op : BinOp} {k k' : IntKind} {x y : Int} {r : R} (hr : shiftOp h op k x y = some r) (hc : AllP r.cond) (t : TypeId) (w : World) :
    ∃ v, r.val = .v v ∧ okV v ∧ r.upd = [] ∧ (binOp op t (.int k x) (.int k' y)).run P w = .ok v w := by
  cases op <;> simp only [shiftOp, Option.some.injEq, reduceCtorEq] at hr <;> subst hr
  case shl =>
    obtain ⟨hy, hc⟩ := hc
    have hy' : ¬ y < 0 := by omega
    exact ⟨_, (arith_val h k _ hc).1, trivial, (arith_val h k _ hc).2, by simp [binOp, Op.shift, hy']⟩
  case shr =>
    obtain ⟨hy, _⟩ := hc
    have hy' : ¬ y < 0 := by omega
    exact ⟨_, rfl, trivial, rfl, by
      have h2 : (0 : Int) ≤ 2 ^ (min y.toNat k.bits) := Int.le_of_lt (Int.pow_pos (by omega))
      simp [binOp, Op.shift, hy', Int.fdiv_eq_ediv_of_nonneg x h2]⟩

theorem strOp_run {h : Option Hint} {op : BinOp} {x y : ByteArray} {r : R} (hr : strOp h op x y = some r) (hc : AllP r.cond) (t : TypeId) (w : World) :
    ∃ v, r.val = .v v ∧ okV v ∧ r.upd = [] ∧ (binOp op t (.string x) (.string y)).run P w = .ok v w := by
  cases op <;> simp only [strOp, vR, Option.some.injEq, reduceCtorEq] at hr <;> subst hr
  case add =>
    obtain ⟨hy, _⟩ := hc
    have hm : IntKind.i64.max = 9223372036854775807 := by decide
    have hy' : ¬ (9223372036854775807 : Int) < ((x.size + y.size : Nat) : Int) := by omega
    refine ⟨_, rfl, trivial, rfl, ?_⟩
    simp only [binOp, Op.stringOp, hm, gt_iff_lt, if_neg hy', Sem.run_pure]
  all_goals exact ⟨_, rfl, trivial, rfl, by simp [binOp, Op.stringOp]⟩

theorem run_eq_bool {t : TypeId} (ht : P.underlying t = some .bool) (a b : Bool) (w : World) : (Op.equal t (.bool a) (.bool b)).run P w = .ok (a == b) w := by
  have h : ∀ d, (Op.equalIn (d + 1) t (.bool a) (.bool b)).run P w = .ok (a == b) w := fun d => by simp [Op.equalIn, run_underlying ht]
  exact h 9999

theorem fkEq_eq {a b : FloatKind} (h : fkEq a b = true) : a = b := by
  cases a <;> cases b <;> first | rfl | (cases h)

theorem floatOp_run {op : BinOp} {k : FloatKind} {a b : Nat} {r : R} (hr : floatOp op k a b = some r) (t : TypeId) (w : World) :
    ∃ v, r.val = .v v ∧ okV v ∧ r.upd = [] ∧ (binOp op t (.float k a) (.float k b)).run P w = .ok v w := by
  unfold floatOp at hr
  split at hr <;> first
    | (cases hr; exact ⟨_, rfl, trivial, rfl, by simp [binOp, Op.floatCmp, feq, flt, fgt, bne]⟩)
    | (cases hr)

theorem binA_run {h : Option Hint} {op : BinOp} {t : TypeId} {x y : AV} {vx vy : Value} {S : St} {r : R} (hr : binA P h op t x y = some r) (hc : AllP r.cond) (hx : Rep S vx x) (hy : Rep S vy y) (w : World) :
    ∃ v, r.val = .v v ∧ okV v ∧ r.upd = [] ∧ (binOp op t vx vy).run P w = .ok v w ∧ ∀ X Y, (eqGuard op t X Y vx vy).run P w = .ok () w := by
  unfold binA at hr
  split at hr
  · next k a k' b =>
    obtain ⟨rfl, _⟩ := rep_v hx
    obtain ⟨rfl, _⟩ := rep_v hy
    split at hr
    · next hk =>
      have := fkEq_eq hk
      subst this
      obtain ⟨v, h1, h2, h3, h4⟩ := floatOp_run (P := P) hr t w
      exact ⟨v, h1, h2, h3, h4, fun X Y => by unfold eqGuard; cases op <;> simp⟩
    · cases hr
  · next k a yk b =>
    obtain ⟨rfl, _⟩ := rep_v hx
    obtain ⟨rfl, _⟩ := rep_v hy
    have hg : ∀ X Y, (eqGuard op t X Y (.int k a) (.int yk b)).run P w = .ok () w := fun X Y => by
      unfold eqGuard; cases op <;> simp
    split at hr
    · obtain ⟨v, h1, h2, h3, h4⟩ := shiftOp_run (P := P) (k' := yk) hr hc t w
      exact ⟨v, h1, h2, h3, h4, hg⟩
    · obtain ⟨v, h1, h2, h3, h4⟩ := shiftOp_run (P := P) (k' := yk) hr hc t w
      exact ⟨v, h1, h2, h3, h4, hg⟩
    · split at hr
      · next hk =>
        have := kindEq_eq hk
        subst this
        obtain ⟨v, h1, h2, h3, h4⟩ := intOp_run (P := P) hr hc t w
        exact ⟨v, h1, h2, h3, h4, hg⟩
      · cases hr
  · next a b =>
    obtain ⟨rfl, _⟩ := rep_v hx
    obtain ⟨rfl, _⟩ := rep_v hy
    obtain ⟨v, h1, h2, h3, h4⟩ := strOp_run (P := P) hr hc t w
    exact ⟨v, h1, h2, h3, h4, fun X Y => by unfold eqGuard; cases op <;> simp⟩
  · next a b =>
    obtain ⟨rfl, _⟩ := rep_v hx
    obtain ⟨rfl, _⟩ := rep_v hy
    split at hr
    · next ht =>
      cases hr
      exact ⟨_, rfl, trivial, rfl, by simp [binOp, run_eq_bool ht], fun X Y => by unfold eqGuard; simp⟩
    · next ht =>
      cases hr
      exact ⟨_, rfl, trivial, rfl, by simp [binOp, run_eq_bool ht], fun X Y => by unfold eqGuard; simp⟩
    · cases hr
  · cases hr

theorem unA_run {h : Option Hint} {op : UnOp} {x : AV} {vx : Value} {S : St} {r : R} (hr : unA h op x = some r) (hc : AllP r.cond) (hx : Rep S vx x) (w : World) :
    ∃ v, r.val = .v v ∧ okV v ∧ r.upd = [] ∧ (Op.unary op vx).run P w = .ok v w := by
  unfold unA at hr
  split at hr
  · next k n =>
    obtain ⟨rfl, _⟩ := rep_v hx
    cases hr
    exact ⟨_, (arith_val h k _ hc).1, trivial, (arith_val h k _ hc).2, by simp [Op.unary, Op.intArith]⟩
  · next k n =>
    obtain ⟨rfl, _⟩ := rep_v hx
    cases hr
    exact ⟨_, rfl, trivial, rfl, by simp [Op.unary, Op.intBits, bitsOf]⟩
  · next b =>
    obtain ⟨rfl, _⟩ := rep_v hx
    cases hr
    exact ⟨_, rfl, trivial, rfl, by simp [Op.unary]⟩
  · cases hr

theorem nilP_spec {S : St} {x : AV} {v : Value} {a : Bool} (hx : Rep S v x) (h : nilP x = some a) : ∃ b : Option Addr, v = .pointer b ∧ b.isNone = a := by
  unfold nilP at h
  split at h
  · obtain ⟨rfl, _⟩ := rep_v hx; cases h; exact ⟨none, rfl, rfl⟩
  · cases h
    cases hx with
    | i _ _ h => cases h with | ip ad _ _ _ _ _ => exact ⟨some ad, rfl, rfl⟩
  · cases h
    cases hx with
    | i _ _ h => cases h
    | rp _ _ _ _ _ _ _ h => obtain ⟨ad, rfl⟩ := h; exact ⟨some ad, rfl, rfl⟩
  · cases h
    cases hx with
    | i _ _ h => cases h
    | ptr _ _ _ _ _ h => obtain ⟨ad, rfl⟩ := h; exact ⟨some ad, rfl, rfl⟩
  · cases h
    cases hx with
    | i _ _ h => cases h; exact ⟨some _, rfl, rfl⟩
  · cases h

theorem nilF_spec {S : St} {x : AV} {v : Value} {a : Bool} (hx : Rep S v x) (h : nilF x = some a) : (v = .nilFunc ∧ a = true) ∨ (∃ f g k, v = .func f g k ∧ a = false) := by
  unfold nilF at h
  split at h
  · obtain ⟨rfl, _⟩ := rep_v hx; cases h; exact .inl ⟨rfl, rfl⟩
  · cases h
    cases hx with
    | i _ _ h => cases h; exact .inr ⟨_, _, _, rfl, rfl⟩
    | fnv => exact .inr ⟨_, _, _, rfl, rfl⟩
  · cases h

theorem nilS_spec {S : St} {x : AV} {v : Value} {a : Bool} {c : List Prop} (hx : Rep S v x) (h : nilS x = some (a, c)) (hc : AllP c) : ∃ ad n k, v = .slice ad n k ∧ ad.isNone = a := by
  unfold nilS at h
  split at h
  · cases h
    obtain ⟨rfl, _⟩ := rep_v hx
    exact ⟨_, _, _, rfl, rfl⟩
  · cases h
    cases hx with
    | i _ _ h => cases h; exact ⟨_, _, _, rfl, rfl⟩
  · next sz q t =>
    cases h
    cases hx with
    | i _ _ h =>
      cases h with
      | slNil _ _ _ hq => have := hc.1; omega
      | sl => exact ⟨_, _, _, rfl, rfl⟩
  · cases h

theorem nilA_run {op : BinOp} {t : TypeId} {x y : AV} {vx vy : Value} {S : St} {r : R} (hr : nilA P op t x y = some r) (hc : AllP r.cond) (hx : Rep S vx x) (hy : Rep S vy y) (w : World) :
    ∃ v, r.val = .v v ∧ okV v ∧ r.upd = [] ∧ (binOp op t vx vy).run P w = .ok v w ∧ ∀ X Y, (eqGuard op t X Y vx vy).run P w = .ok () w := by
  have hp : ∀ e, P.underlying t = some (.pointer e) → ∀ (a : Option Addr), (Op.equal t (.pointer a) (.pointer none)).run P w = .ok a.isNone w := fun e ht a => by
    have h : ∀ d, (Op.equalIn (d + 1) t (.pointer a) (.pointer none)).run P w = .ok a.isNone w := fun d => by cases a <;> simp [Op.equalIn, run_underlying ht]
    exact h 9999
  have hf : ∀ a b c, P.underlying t = some (.func a b c) → (Op.equal t .nilFunc .nilFunc).run P w = .ok true w := fun a b c ht => by
    have h : ∀ d, (Op.equalIn (d + 1) t .nilFunc .nilFunc).run P w = .ok true w := fun d => by simp [Op.equalIn, run_underlying ht]
    exact h 9999
  have hf' : ∀ a b c, P.underlying t = some (.func a b c) → ∀ f g k, (Op.equal t (.func f g k) .nilFunc).run P w = .ok false w := fun a b c ht f g k => by
    have h : ∀ d, (Op.equalIn (d + 1) t (.func f g k) .nilFunc).run P w = .ok false w := fun d => by simp [Op.equalIn, run_underlying ht]
    exact h 9999
  have hs : ∀ e, P.underlying t = some (.slice e) → ∀ (a : Option Addr) (n k : Nat), (Op.equal t (.slice a n k) (.slice none 0 0)).run P w = .ok a.isNone w := fun e ht a n k => by
    have h : ∀ d, (Op.equalIn (d + 1) t (.slice a n k) (.slice none 0 0)).run P w = .ok a.isNone w := fun d => by cases a <;> simp [Op.equalIn, run_underlying ht]
    exact h 9999
  have guard : ∀ X Y, vy = .pointer none ∨ vy = .nilFunc ∨ vy = .slice none 0 0 → (eqGuard op t X Y vx vy).run P w = .ok () w := by
    intro X Y h
    unfold eqGuard
    rcases h with rfl | rfl | rfl <;> cases op <;> cases vx <;> simp
  unfold nilA at hr
  split at hr
  · next e ht =>
    obtain ⟨rfl, _⟩ := rep_v hy
    split at hr
    · next a ha =>
      cases hr
      obtain ⟨b, rfl, rfl⟩ := nilP_spec hx ha
      exact ⟨_, rfl, trivial, rfl, by simp [binOp, hp e ht], fun X Y => guard X Y (.inl rfl)⟩
    · next a ha =>
      cases hr
      obtain ⟨b, rfl, rfl⟩ := nilP_spec hx ha
      exact ⟨_, rfl, trivial, rfl, by simp [binOp, hp e ht], fun X Y => guard X Y (.inl rfl)⟩
    · cases hr
  · next p q c ht =>
    obtain ⟨rfl, _⟩ := rep_v hy
    split at hr
    · next a ha =>
      cases hr
      rcases nilF_spec hx ha with ⟨rfl, rfl⟩ | ⟨f, g, k, rfl, rfl⟩
      · exact ⟨_, rfl, trivial, rfl, by simp [binOp, hf p q c ht], fun X Y => guard X Y (.inr (.inl rfl))⟩
      · exact ⟨_, rfl, trivial, rfl, by simp [binOp, hf' p q c ht], fun X Y => guard X Y (.inr (.inl rfl))⟩
    · next a ha =>
      cases hr
      rcases nilF_spec hx ha with ⟨rfl, rfl⟩ | ⟨f, g, k, rfl, rfl⟩
      · exact ⟨_, rfl, trivial, rfl, by simp [binOp, hf p q c ht], fun X Y => guard X Y (.inr (.inl rfl))⟩
      · exact ⟨_, rfl, trivial, rfl, by simp [binOp, hf' p q c ht], fun X Y => guard X Y (.inr (.inl rfl))⟩
    · cases hr
  · next e ht =>
    obtain ⟨rfl, _⟩ := rep_v hy
    split at hr
    · next a c ha =>
      cases hr
      obtain ⟨ad, n, k, rfl, rfl⟩ := nilS_spec hx ha hc
      exact ⟨_, rfl, trivial, rfl, by simp [binOp, hs e ht], fun X Y => guard X Y (.inr (.inr rfl))⟩
    · next a c ha =>
      cases hr
      obtain ⟨ad, n, k, rfl, rfl⟩ := nilS_spec hx ha hc
      exact ⟨_, rfl, trivial, rfl, by simp [binOp, hs e ht], fun X Y => guard X Y (.inr (.inr rfl))⟩
    · cases hr
  · cases hr

end
end Go.Ev

/- Operations on memory come to what the model's come to: reading, places, fields, indexes. -/
namespace Go.Ev
variable [Globs]

section
variable {P : Program}

theorem run_sizeOf {t : TypeId} {sz : Nat} (h : sizeA P t = some sz) (w : World) : (sizeOf t).run P w = .ok sz w := by
  unfold sizeA at h
  cases hi : P.info? t with
  | none => rw [hi] at h; cases h
  | some i =>
    rw [hi] at h
    cases h
    simp [sizeOf, typeInfo, hi]

theorem underlying_info {t : TypeId} {d : TypeDesc} (h : P.underlying t = some d) : ∃ i, P.info? t = some i := by
  unfold Program.underlying at h
  cases hi : P.info? t with
  | none => rw [hi] at h; cases h
  | some i => exact ⟨i, rfl⟩

theorem run_isAgg {t : TypeId} {b : Bool} (h : isAggA P t = some b) (w : World) : (isAgg t).run P w = .ok b w := by
  unfold isAggA at h
  split at h
  · next ht => cases h; simp [isAgg, run_underlying ht]
  · next ht => cases h; simp [isAgg, run_underlying ht]
  · next d hs ha ht =>
    cases h
    cases d <;> first | (simp [isAgg, run_underlying ht]; done) | exact (hs _ rfl).elim | exact (ha _ _ rfl).elim
  · cases h

theorem elemOf_spec {t e : TypeId} (h : elemOf P t = some e) : P.underlying t = some (.slice e) := by
  unfold elemOf at h
  split at h
  · next ht => cases h; exact ht
  · cases h

/-- the variable at an address -/
theorem run_loadVar {t : TypeId} {sz : Nat} {agg : Bool} (hs : sizeA P t = some sz) (ha : isAggA P t = some agg) (w : World) (ad : Addr) (u : Nat → Value)
    (hu : ∀ j, j < (if agg then sz else 1) → w.cell? (ad.add j) = some (u j)) : (loadVar t ad).run P w = .ok (if agg then .agg ((List.range sz).map u).toArray else u 0) w := by
  unfold loadVar
  rw [Sem.run_bind, run_isAgg ha]
  cases agg with
  | true =>
    simp only [Result.andThen_ok, if_true, Sem.run_bind, run_sizeOf hs]
    rw [run_loadCells w ad sz u (fun j hj => hu j hj)]
    simp
  | false =>
    have h0 := hu 0 (by simp)
    have : ad.add 0 = ad := rfl
    rw [this] at h0
    simp [h0]

/-! ### where a pointer leads -/

/-- a pointer, and the cells that are known from there on -/
def PtrCells (S : St) (v : Value) (cs : List AV) : Prop :=
  ∃ (ad : Addr) (u : Nat → Value), v = .pointer (some ad) ∧ ∀ j (h : j < cs.length), S.w.cell? (ad.add j) = some (u j) ∧ Rep S (u j) cs[j]

theorem addr_add (b o j : Nat) : (⟨b, o, none⟩ : Addr).add j = ⟨b, o + j, none⟩ := by
  unfold Addr.add; split <;> simp_all

theorem cell_arr {w : World} {b : Nat} {arr : Array Value} {T : TypeId} {fr : Nat × Nat} (h : w.heap[b]? = some (.cells arr T fr)) (i : Nat) : w.cell? ⟨b, i, none⟩ = arr[i]? := by
  simp [World.cell?, h]

theorem ptrCells_ip {S : St} {v : Value} {cs : List AV} (h : Rep S v (.ip cs)) : PtrCells S v cs := by
  cases h with
  | i _ _ h =>
    cases h with
    | ip ad _ u _ hc hr => exact ⟨ad, u, rfl, fun j hj => ⟨hc j hj, .i _ _ (hr j hj)⟩⟩

theorem ptrCells_ptr {S : St} {v : Value} {k off : Nat} {T : TypeId} {cs : List AV} (h : Rep S v (.ptr k off)) (hl : S.live k) (ho : ObjOK S k (.cells T cs)) : PtrCells S v (cs.drop off) := by
  cases h with
  | i _ _ h => cases h
  | ptr _ _ _ _ hp _ =>
    obtain ⟨_, b, hb, rfl⟩ := hp hl
    obtain ⟨_, b', arr, hc, _, hh, hs, hr⟩ := ho
    rw [hb] at hc
    cases hc
    refine ⟨_, fun j => arr.getD (off + j) undef, rfl, fun j hj => ?_⟩
    have hj' : off + j < cs.length := by have := hj; simp at this; omega
    have hja : off + j < arr.size := by omega
    constructor
    · rw [addr_add, cell_arr hh, Array.getElem?_eq_getElem hja]
      simp [hja]
    · have := hr (off + j) hj'
      simpa using this

theorem ptrCells_rp {S : St} {v : Value} {k i ver off : Nat} {T : TypeId} {sz floor : Nat} {q : Seq AV} (h : Rep S v (.rp k i ver off)) (hl : S.live k) (ho : ObjOK S k (.row T sz q floor)) (hf : floor ≤ ver) :
    PtrCells S v ((q.get i).cells.drop off) := by
  cases h with
  | i _ _ h => cases h
  | rp _ _ _ _ _ _ hp _ =>
    obtain ⟨_, ad, rfl, h1, h2, h3, _⟩ := hp hl
    obtain ⟨_, h4, h5, h6, h7, _, h8, h9⟩ := ho
    rw [h7] at h3
    rw [h4] at h3
    obtain ⟨_, _, hcell⟩ := h3 hf
    have hi : i < q.len := by omega
    have hlen := h8 i hi
    cases hc : S.cur k with
    | none => rw [hc] at h9; omega
    | some b =>
      rw [hc] at h9
      obtain ⟨_, arr, ⟨fz, hh, _⟩, hsz, hr⟩ := h9
      refine ⟨ad, fun j => arr.getD (i * sz + (off + j)) undef, rfl, fun j hj => ?_⟩
      have hj' : off + j < (q.get i).cells.length := by have := hj; simp at this; omega
      have hin : i * sz + (off + j) < arr.size := by
        have h1 : i * sz + sz ≤ q.len * sz := by rw [← Nat.succ_mul]; exact Nat.mul_le_mul_right _ hi
        omega
      constructor
      · rw [(hcell j (by omega)).1]
        unfold curCell
        rw [hc]
        show S.w.cell? _ = _
        rw [cell_arr hh, Nat.add_assoc, Array.getElem?_eq_getElem hin]
        simp [hin]
      · have := (hr i (off + j) hi hj').1
        simpa using this

theorem restr_look {hp : List (Nat × AObj)} {ks : List Nat} {k : Nat} {o : AObj} (h : restr hp ks k = some o) : look hp k = some o := by
  unfold restr at h
  split at h
  · exact h
  · cases h

theorem loadFin_run {S : St} {t : TypeId} {sz : Nat} {agg : Bool} {cs : List AV} {c : List Prop} {v : Value} {r : R} (hs : sizeA P t = some sz) (ha : isAggA P t = some agg) (he : loadFin agg sz cs c = some r) (hp : PtrCells S v cs) :
    r.upd = [] ∧ ∃ y, (Instr.loadAt t v).run P S.w = .ok y S.w ∧ Rep S y r.val := by
  obtain ⟨ad, u, rfl, hcs⟩ := hp
  cases agg with
  | true =>
    simp only [loadFin] at he
    split at he
    · next hb =>
      cases he
      have hle : sz ≤ cs.length := Nat.le_of_ble_eq_true hb
      refine ⟨rfl, .agg ((List.range sz).map u).toArray, ?_, ?_⟩
      · simp only [Instr.loadAt, Instr.sureAddr, Sem.run_bind, Sem.run_pure, Result.andThen_ok]
        exact run_loadVar hs ha S.w ad u (fun j hj => (hcs j (by simp at hj; omega)).1)
      · refine .agg _ _ (by simp; omega) fun i hi => ?_
        have hi' : i < sz := by simp at hi; omega
        have := (hcs i (by omega)).2
        simpa [hi', List.getElem_take] using this
    · cases he
  | false =>
    cases cs with
    | nil => cases he
    | cons y ys =>
      cases he
      refine ⟨rfl, u 0, ?_, ?_⟩
      · simp only [Instr.loadAt, Instr.sureAddr, Sem.run_bind, Sem.run_pure, Result.andThen_ok]
        have := run_loadVar hs ha S.w ad u (fun j hj => (hcs j (by simp at hj ⊢; omega)).1)
        simpa using this
      · exact (hcs 0 (by simp)).2

theorem loadFin_cond {sz : Nat} {agg : Bool} {cs : List AV} {c : List Prop} {r : R} (he : loadFin agg sz cs c = some r) : r.cond = c := by
  cases agg with
  | true => simp only [loadFin] at he; split at he <;> cases he; rfl
  | false => cases cs <;> cases he; rfl

theorem ptrCells_gp {S : St} (hwf : S.wf) {v : Value} {g sz : Nat} {q : Seq AV} (h : Rep S v (.gp g)) (hg : look Globs.tab g = some (sz, q)) (hq : 0 < q.len) : PtrCells S v (q.get 0).cells := by
  cases h with
  | i _ _ h =>
    cases h
    obtain ⟨_, _, hcell⟩ := hwf.glob g _ q hg
    obtain ⟨_, hc⟩ := hcell 0 hq
    refine ⟨⟨g, 0, none⟩, fun j => (match (q.get 0).cells[j]? with | some (.v x) => x | _ => .nilIface), rfl, fun j hj => ?_⟩
    obtain ⟨x, h1, h2, h3⟩ := hc j hj
    rw [Nat.zero_mul, Nat.zero_add] at h3
    have e : (q.get 0).cells[j]? = some (.v x) := by rw [List.getElem?_eq_getElem hj, h1]
    simp only [e]
    rw [addr_add, Nat.zero_add, h1]
    exact ⟨h3, .i _ _ (.v x h2)⟩

theorem cellsA_spec {S : St} (hwf : S.wf) {hp : List (Nat × AObj)} {ks : List Nat} {x : AV} {v : Value} {cs : List AV} {c : List Prop} (hh : HeapOK S hp) (he : cellsA (restr hp ks) x = some (cs, c)) (hc : AllP c) (hx : Rep S v x) : PtrCells S v cs := by
  unfold cellsA at he
  split at he
  · cases he; exact ptrCells_ip hx
  · split at he
    · next hk =>
      cases he
      obtain ⟨_, h2, h3⟩ := hh _ _ (restr_look hk)
      exact ptrCells_ptr hx h2 h3
    · cases he
  · split at he
    · next hk =>
      cases he
      obtain ⟨_, h2, h3⟩ := hh _ _ (restr_look hk)
      exact ptrCells_rp hx h2 h3 hc.1
    · cases he
  · split at he
    · next hg =>
      split at he
      · next hq =>
        cases he
        exact ptrCells_gp hwf hx hg (by rw [Nat.eq_of_beq_eq_true hq]; exact Nat.one_pos)
      · cases he
    · cases he
  · cases he

theorem loadA_run {S : St} (hwf : S.wf) {hp : List (Nat × AObj)} {ks : List Nat} {t : TypeId} {x : AV} {v : Value} {r : R} (hh : HeapOK S hp) (hr : loadA P (restr hp ks) t x = some r) (hc : AllP r.cond) (hx : Rep S v x) :
    r.upd = [] ∧ ∃ y, (Instr.loadAt t v).run P S.w = .ok y S.w ∧ Rep S y r.val := by
  unfold loadA at hr
  split at hr
  · next sz agg cs c hs ha he =>
    rw [loadFin_cond hr] at hc
    exact loadFin_run hs ha hr (cellsA_spec hwf hh he hc hx)
  · cases hr

/-! ### places -/

theorem add_add (ad : Addr) (i j : Nat) : (ad.add i).add j = ad.add (i + j) := by
  unfold Addr.add
  by_cases hi : i = 0
  · subst hi; simp
  · by_cases hj : j = 0
    · subst hj; simp [hi]
    · simp [hi, hj, Nat.add_assoc]

theorem run_fieldPlace {t : TypeId} {f o : Nat} (h : fieldPlaceA P t f = some o) (w : World) (ad : Addr) : (Instr.fieldAt t (.pointer (some ad)) f).run P w = .ok (.pointer (some (ad.add o))) w := by
  unfold fieldPlaceA at h
  split at h
  · next fields ht =>
    split at h
    · next fd hf =>
      split at h
      · next s hs =>
        cases h
        simp [Instr.fieldAt, run_underlying ht, hf, Instr.sureAddr, fieldPlace, run_sizeOf hs]
      · cases h
    · cases h
  · cases h

/-- a field's place, in whatever memory a pointer leads to -/
theorem fieldAddr_run {S : St} {t : TypeId} {f o : Nat} {x : AV} {v : Value} (h : fieldPlaceA P t f = some o) (hx : Rep S v x) :
    match x with
    | .ip cs => ∃ y, (Instr.fieldAt t v f).run P S.w = .ok y S.w ∧ Rep S y (.ip (cs.drop o))
    | .ptr k off => ∃ y, (Instr.fieldAt t v f).run P S.w = .ok y S.w ∧ Rep S y (.ptr k (off + o))
    | .rp k i ver off => ∃ y, (Instr.fieldAt t v f).run P S.w = .ok y S.w ∧ Rep S y (.rp k i ver (off + o))
    | _ => True := by
  cases x <;> simp only
  case ip cs =>
    cases hx with
    | i _ _ hx =>
      cases hx with
      | ip ad _ u hU hc hr =>
        refine ⟨_, run_fieldPlace h S.w ad, .i _ _ (.ip _ _ (fun j => u (o + j)) (fun h0 => ?_) (fun j hj => ?_) (fun j hj => ?_))⟩
        · rw [add_block]; exact hU (by simp at h0; omega)
        · rw [add_add]; exact hc _ (by simp at hj; omega)
        · have := hr (o + j) (by simp at hj; omega)
          simpa using this
  case ptr k off =>
    cases hx with
    | i _ _ hx => cases hx
    | ptr _ _ _ hu hp hv =>
      obtain ⟨ad, rfl⟩ := hv
      refine ⟨_, run_fieldPlace h S.w ad, .ptr _ _ _ hu (fun hl => ?_) ⟨_, rfl⟩⟩
      obtain ⟨h1, b, hb, he⟩ := hp hl
      cases he
      exact ⟨h1, b, hb, by rw [addr_add]⟩
  case rp k i ver off =>
    cases hx with
    | i _ _ hx => cases hx
    | rp _ _ _ _ _ hu hp hv =>
      obtain ⟨ad, rfl⟩ := hv
      refine ⟨_, run_fieldPlace h S.w ad, .rp _ _ _ _ _ hu (fun hl => ?_) ⟨_, rfl⟩⟩
      obtain ⟨h0, ad', he, h1, h2, h3, h4⟩ := hp hl
      cases he
      refine ⟨h0, _, rfl, h1, h2, fun hf => ?_, fun hv => ?_⟩
      · obtain ⟨ho, hcur, hc⟩ := h3 hf
        refine ⟨by rw [add_block]; exact ho, fun hcc => ?_, fun j hj => ?_⟩
        · rw [add_block] at hcc ⊢
          have := hcur hcc
          rw [this, addr_add, Nat.add_assoc]
        have := hc (o + j) (by omega)
        rw [add_add, show i * S.sz k + (off + o) + j = i * S.sz k + off + (o + j) by omega]
        exact this
      · obtain ⟨b, hb, he⟩ := h4 hv
        subst he
        exact ⟨b, hb, by rw [addr_add, Nat.add_assoc]⟩

/-- a part of a value -/
theorem partA_run {S : St} {t : TypeId} {arr : Array Value} {cs : List AV} {off : Nat} {x : AV} (h : partA P t cs off = some x) (hs : arr.size = cs.length) (hr : ∀ i (hi : i < cs.length), Rep S (arr.getD i undef) cs[i]) (w : World) :
    ∃ y, (part t arr off).run P w = .ok y w ∧ Rep S y x := by
  unfold partA at h
  split at h
  · next sz ha hz =>
    split at h
    · next hb =>
      cases h
      have hle := Nat.le_of_ble_eq_true hb
      refine ⟨.agg (arr.extract off (off + sz)), ?_, ?_⟩
      · simp [part, run_isAgg ha, run_sizeOf hz]
      · refine .agg _ _ (by simp; omega) fun i hi => ?_
        have hi' : i < sz := by simp at hi; omega
        have := hr (off + i) (by omega)
        have h1 : off + i < arr.size := by omega
        simp only [List.getElem_take, List.getElem_drop]
        rw [Array.getD_eq_getD_getElem?] at this ⊢
        rw [Array.getElem?_extract]
        have h2 : i < min (off + sz) arr.size - off := by omega
        simpa [h2] using this
    · cases h
  · next sz ha hz =>
    have hlt : off < cs.length := by
      rcases Nat.lt_or_ge off cs.length with h' | h'
      · exact h'
      · rw [List.getElem?_eq_none h'] at h; cases h
    rw [List.getElem?_eq_getElem hlt] at h
    cases h
    have h1 : off < arr.size := by omega
    have := hr off hlt
    refine ⟨arr[off], ?_, ?_⟩
    · simp [part, run_isAgg ha, Array.getElem?_eq_getElem h1]
    · rw [Array.getD_eq_getD_getElem?, Array.getElem?_eq_getElem h1] at this
      exact this
  · cases h

theorem rep_agg {S : St} {v : Value} {cs : List AV} (h : Rep S v (.agg cs)) : ∃ arr, v = .agg arr ∧ arr.size = cs.length ∧ ∀ i (hi : i < cs.length), Rep S (arr.getD i undef) cs[i] := by
  cases h with
  | agg arr _ hs hr => exact ⟨arr, rfl, hs, hr⟩
  | i _ _ h => cases h with | agg arr _ hs hr => exact ⟨arr, rfl, hs, fun i hi => .i _ _ (hr i hi)⟩

theorem eqFs_run {S : St} {E : TypeId → AV → AV → Option Bool} {d : Nat} {a b : Array Value} {xs ys : List AV} (ha : a.size = xs.length) (hb : b.size = ys.length)
    (ra : ∀ i (hi : i < xs.length), Rep S (a.getD i undef) xs[i]) (rb : ∀ i (hi : i < ys.length), Rep S (b.getD i undef) ys[i]) (w : World)
    (hE : ∀ t x y r vx vy, E t x y = some r → Rep S vx x → Rep S vy y → (Op.equalIn d t vx vy).run P w = .ok r w) :
    ∀ (fs : List Field) (r : Bool), eqFs P E xs ys fs = some r → (Op.eqFields d a b fs).run P w = .ok r w := by
  intro fs
  induction fs with
  | nil => intro r h; cases h; simp [Op.eqFields]
  | cons f fs ih =>
    intro r h
    unfold eqFs at h
    unfold Op.eqFields
    split at h
    · next hn =>
      have : f.name = "_" := by simpa using hn
      simp only [this, ne_eq, not_true_eq_false, if_false]
      exact ih r h
    · next hn =>
      have : f.name ≠ "_" := by simpa using hn
      simp only [ne_eq, this, not_false_eq_true, if_true]
      split at h
      · next x y hx hy =>
        split at h
        · next r1 s1 h1 h2 =>
          cases h
          obtain ⟨vx, p1, q1⟩ := partA_run hx ha ra w
          obtain ⟨vy, p2, q2⟩ := partA_run hy hb rb w
          have p3 := hE _ _ _ _ _ _ h1 q1 q2
          simp only [Sem.run_bind, p1, p2, p3, Result.andThen_ok]
          cases r1 with
          | false => simp
          | true => simpa using ih s1 h2
        · cases h
      · cases h

theorem eqCell_run {S : St} (w : World) : ∀ (d D : Nat) (t : TypeId) (x y : AV) (r : Bool) (vx vy : Value), d ≤ D → eqCell P d t x y = some r → Rep S vx x → Rep S vy y → (Op.equalIn D t vx vy).run P w = .ok r w := by
  intro d
  induction d with
  | zero => intro D t x y r vx vy _ h; cases h
  | succ d ih =>
    intro D t x y r vx vy hD h hx hy
    obtain ⟨D, rfl⟩ : ∃ D', D = D' + 1 := ⟨D - 1, by omega⟩
    unfold eqCell at h
    split at h
    · next a b ht =>
      obtain ⟨rfl, _⟩ := rep_v hx
      obtain ⟨rfl, _⟩ := rep_v hy
      cases h
      exact run_equalIn_bool' w D t a b ht
    · next k0 k a k' b ht =>
      obtain ⟨rfl, _⟩ := rep_v hx
      obtain ⟨rfl, _⟩ := rep_v hy
      split at h
      · next hk =>
        have := kindEq_eq hk
        subst this
        cases h
        exact run_equalIn_int w D t _ _ a b ht
      · cases h
    · next k0 k a k' b ht =>
      obtain ⟨rfl, _⟩ := rep_v hx
      obtain ⟨rfl, _⟩ := rep_v hy
      split at h
      · next hk =>
        have := fkEq_eq hk
        subst this
        cases h
        simp [Op.equalIn, run_underlying ht]
      · cases h
    · next a b ht =>
      obtain ⟨rfl, _⟩ := rep_v hx
      obtain ⟨rfl, _⟩ := rep_v hy
      cases h
      exact run_equalIn_string w D t a b ht
    · next fs xs ys ht =>
      obtain ⟨a, rfl, ha, ra⟩ := rep_agg hx
      obtain ⟨b, rfl, hb, rb⟩ := rep_agg hy
      split at h
      · next hp =>
        have hf : P.fieldsOf t = fs := by unfold Program.fieldsOf; rw [ht]
        rw [run_equalIn_struct w D t a b (by rw [hf]; exact ht) hp, hf]
        exact eqFs_run ha hb ra rb w (fun t x y r vx vy h1 h2 h3 => ih D t x y r vx vy (by omega) h1 h2 h3) _ _ h
      · cases h
    · cases h

theorem aggEqA_run {S : St} {op : BinOp} {t : TypeId} {x y : AV} {vx vy : Value} {r : R} (hr : aggEqA P op t x y = some r) (hx : Rep S vx x) (hy : Rep S vy y) (w : World) :
    ∃ v, r.val = .v v ∧ okV v ∧ r.upd = [] ∧ (binOp op t vx vy).run P w = .ok v w ∧ ∀ X Y, (eqGuard op t X Y vx vy).run P w = .ok () w := by
  unfold aggEqA at hr
  split at hr
  · next xs ys =>
    split at hr
    · next hg =>
      split at hr
      · next b h =>
        cases hr
        have h1 := eqCell_run w 8 10000 t _ _ b vx vy (by omega) h hx hy
        obtain ⟨a, rfl, _⟩ := rep_agg hx
        obtain ⟨c, rfl, _⟩ := rep_agg hy
        exact ⟨_, rfl, trivial, rfl, by rw [run_eql_struct, h1, Result.andThen_ok], fun X Y => run_eqGuard_agg w _ t X Y a c hg⟩
      · next b h =>
        cases hr
        have h1 := eqCell_run w 8 10000 t _ _ b vx vy (by omega) h hx hy
        obtain ⟨a, rfl, _⟩ := rep_agg hx
        obtain ⟨c, rfl, _⟩ := rep_agg hy
        exact ⟨_, rfl, trivial, rfl, by rw [run_neq_struct, h1, Result.andThen_ok], fun X Y => run_eqGuard_agg w _ t X Y a c hg⟩
      · cases hr
    · cases hr
  · cases hr

theorem rep_tup {S : St} {v : Value} {cs : List AV} (h : Rep S v (.tup cs)) : ∃ arr, v = .tuple arr ∧ arr.size = cs.length ∧ ∀ i (hi : i < cs.length), Rep S (arr.getD i undef) cs[i] := by
  cases h with
  | tup arr _ hs hr => exact ⟨arr, rfl, hs, hr⟩
  | i _ _ h => cases h with | tup arr _ hs hr => exact ⟨arr, rfl, hs, fun i hi => .i _ _ (hr i hi)⟩

theorem extract_run {S : St} {v : Value} {cs : List AV} {i : Nat} {x : AV} (h : Rep S v (.tup cs)) (hx : cs[i]? = some x) (w : World) : ∃ y, (Instr.extract v i).run P w = .ok y w ∧ Rep S y x := by
  obtain ⟨arr, rfl, hs, hr⟩ := rep_tup h
  have hlt : i < cs.length := by
    rcases Nat.lt_or_ge i cs.length with h' | h'
    · exact h'
    · rw [List.getElem?_eq_none h'] at hx; cases hx
  rw [List.getElem?_eq_getElem hlt] at hx
  cases hx
  have h1 : i < arr.size := by omega
  have := hr i hlt
  rw [Array.getD_eq_getD_getElem?, Array.getElem?_eq_getElem h1] at this
  exact ⟨arr[i], by simp [Instr.extract, Array.getElem?_eq_getElem h1], this⟩

/-! ### indexes -/

theorem ixPlus_eq (off i : Nat) : ixPlus off i = off + i := by
  unfold ixPlus
  split
  · omega
  · rfl

theorem run_indexAt {t e : TypeId} {sz : Nat} (ht : P.underlying t = some (.slice e)) (hs : sizeA P e = some sz) (w : World) (ad : Addr) (n c : Nat) (k : IntKind) (i : Int) (h0 : 0 ≤ i) (h1 : i < (n : Int)) :
    (Instr.indexAt t (.slice (some ad) n c) (.int k i)).run P w = .ok (.pointer (some (ad.add (i.toNat * sz)))) w := by
  simp [Instr.indexAt, asIntOf, run_underlying ht, h0, h1, run_sizeOf hs]

theorem run_index_string {t : TypeId} (ht : P.underlying t = some .string) (w : World) (s : ByteArray) (k : IntKind) (i : Int) (h0 : 0 ≤ i) (h1 : i < (s.size : Int)) :
    (Instr.index t (.string s) (.int k i)).run P w = .ok (.int .u8 (byteAt s i.toNat)) w := by
  have hlt : i.toNat < s.size := by omega
  have hl : i.toNat < s.data.toList.length := by simpa using hlt
  have hb : s[i.toNat]? = some s[i.toNat] := by simp [hlt]
  simp only [Instr.index, Sem.run_bind, asIntOf, Sem.run_pure, Result.andThen_ok, run_underlying ht, h0, if_true, hb, byteAt, List.getD_eq_getElem?_getD, List.getElem?_eq_getElem hl, Option.getD_some]
  rfl

theorem indexA_run {S : St} {t : TypeId} {x i : AV} {vx vi : Value} {r : R} (hr : indexA P t x i = some r) (hc : AllP r.cond) (hx : Rep S vx x) (hi : Rep S vi i) (w : World) :
    r.upd = [] ∧ ∃ y, (Instr.index t vx vi).run P w = .ok y w ∧ Rep S y r.val := by
  unfold indexA at hr
  split at hr
  · next s k i ht =>
    cases hr
    obtain ⟨rfl, _⟩ := rep_v hx
    obtain ⟨rfl, _⟩ := rep_v hi
    exact ⟨rfl, _, run_index_string ht w s k i hc.1.1 hc.1.2, .v trivial⟩
  · next n e cs k i ht =>
    obtain ⟨rfl, _⟩ := rep_v hi
    obtain ⟨arr, rfl, hs, hr'⟩ := rep_agg hx
    split at hr
    · next sz hz =>
      split at hr
      · next y hp =>
        cases hr
        obtain ⟨v, h1, h2⟩ := partA_run hp hs hr' w
        refine ⟨rfl, v, ?_, h2⟩
        simp [Instr.index, asIntOf, run_underlying ht, hc.1.1, hc.1.2, run_sizeOf hz, h1]
      · cases hr
    · cases hr
  · cases hr

end
end Go.Ev

/- Slices: places in them, parts of them. -/
namespace Go.Ev
variable [Globs]

theorem Seq.len_take (q : Seq AV) (n : Nat) (h : n ≤ q.len) : (q.take n).len = n := by
  cases q <;> simp_all [Seq.len, Seq.take]

theorem Seq.len_drop (q : Seq AV) (n : Nat) : (q.drop n).len = q.len - n := by
  cases q <;> simp [Seq.len, Seq.drop]

theorem Seq.get_take (q : Seq AV) (n i : Nat) (h : i < n) : (q.take n).get i = q.get i := by
  cases q <;> simp [Seq.get, Seq.take, h]

theorem Seq.get_drop (q : Seq AV) (n i : Nat) : (q.drop n).get i = q.get (n + i) := by
  cases q <;> simp [Seq.get, Seq.drop]

theorem cutSeq_len (q : Seq AV) (l h : Nat) (hl hh : Bool) (h1 : l ≤ h) (h2 : h ≤ q.len) (h3 : hh = false → h = q.len) (h4 : hl = false → l = 0) : (cutSeq q l h hl hh).len = h - l := by
  cases hl <;> cases hh <;> simp only [cutSeq]
  · have := h3 rfl; have := h4 rfl; omega
  · rw [Seq.len_take q h h2]; have := h4 rfl; omega
  · rw [Seq.len_drop]; have := h3 rfl; omega
  · rw [Seq.len_drop, Seq.len_take q h h2]

theorem cutSeq_get (q : Seq AV) (l h : Nat) (hl hh : Bool) (h4 : hl = false → l = 0) (i : Nat) (hi : l + i < h) : (cutSeq q l h hl hh).get i = q.get (l + i) := by
  cases hl <;> cases hh <;> simp only [cutSeq]
  · have := h4 rfl; subst this; rw [Nat.zero_add]
  · have := h4 rfl; subst this; rw [Seq.get_take _ _ _ (by omega), Nat.zero_add]
  · rw [Seq.get_drop]
  · rw [Seq.get_drop, Seq.get_take _ _ _ hi]

section
variable {P : Program}

theorem elemSz_spec {t : TypeId} {sz : Nat} (h : elemSz P t sz = true) : ∃ e, P.underlying t = some (.slice e) ∧ sizeA P e = some sz := by
  unfold elemSz at h
  split at h
  · next e he =>
    split at h
    · next s hs =>
      have := Nat.eq_of_beq_eq_true h
      subst this
      exact ⟨e, elemOf_spec he, hs⟩
    · cases h
  · cases h

theorem rowSz_spec {hp : Nat → Option AObj} {k sz : Nat} (h : rowSz hp k = some sz) : ∃ T q f, hp k = some (.row T sz q f) := by
  unfold rowSz at h
  split at h
  · next hk => cases h; exact ⟨_, _, _, hk⟩
  · cases h

/-- of a slice that nobody writes -/
theorem rep_sl {S : St} {v : Value} {sz : Nat} {q : Seq AV} {t : Bool} (h : Rep S v (.sl sz q t)) : ∃ a c, v = .slice a q.len c ∧ RepI S.w S.free v (.sl sz q t) ∧ q.len ≤ c ∧ (t = true → c = q.len) := by
  cases h with
  | i _ _ h =>
    refine (fun hh => ?_) h
    cases h with
    | slNil _ _ _ hq => exact ⟨none, 0, by rw [hq], hh, by omega, fun _ => hq.symm⟩
    | sl ad n c _ _ _ u hn hc ht => subst hn; exact ⟨some ad, c, rfl, hh, hc, ht⟩

theorem rep_row {S : St} {v : Value} {k off len ver : Nat} {t : Bool} (h : Rep S v (.row k off len ver t)) : S.used k ∧ (S.live k → RowOK S v k off len ver t) ∧ ∃ a c, v = .slice a len c ∧ (a = none → c = 0) := by
  cases h with
  | i _ _ h => cases h
  | row _ _ _ _ _ _ hu hr hx => exact ⟨hu, hr, hx⟩

def plainV : Option AV → Value
  | some (.v x) => x
  | _ => undef

theorem indexAddrA_run {S : St} {hp : List (Nat × AObj)} {ks : List Nat} {t : TypeId} {x i : AV} {vx vi : Value} {r : R} (hwf : S.wf) (hh : HeapOK S hp) (hr : indexAddrA P (restr hp ks) t x i = some r) (hc : AllP r.cond) (hx : Rep S vx x) (hi : Rep S vi i) :
    r.upd = [] ∧ ∃ y, (Instr.indexAt t vx vi).run P S.w = .ok y S.w ∧ Rep S y r.val := by
  unfold indexAddrA at hr
  split at hr
  · next sz q tt k i =>
    obtain ⟨rfl, _⟩ := rep_v hi
    split at hr
    · next he =>
      cases hr
      obtain ⟨e, ht, hs⟩ := elemSz_spec he
      obtain ⟨⟨h0, h1⟩, _⟩ := hc
      have hlt : i.toNat < q.len := by omega
      cases hx with
      | i _ _ hx =>
        cases hx with
        | slNil _ _ _ hq => omega
        | sl ad n c _ _ _ u hn hcap htt hsz hU hl hcell hrep =>
          refine ⟨rfl, _, run_indexAt ht hs S.w ad n c k i h0 (by omega), .i _ _ (.ip _ _ (fun j => u i.toNat j) (fun _ => ?_) (fun j hj => ?_) (fun j hj => ?_))⟩
          · rw [add_block]; exact hU (by omega)
          · rw [add_add]; exact (hcell _ _ hlt (by rw [← hl _ hlt]; exact hj)).1
          · exact hrep _ _ hlt hj
    · cases hr
  · next kk off len ver tt k i =>
    obtain ⟨rfl, _⟩ := rep_v hi
    split at hr
    · next sz hz =>
      split at hr
      · next he =>
        cases hr
        obtain ⟨e, ht, hs⟩ := elemSz_spec he
        obtain ⟨⟨h0, h1⟩, _⟩ := hc
        obtain ⟨T, q, f, hk⟩ := rowSz_spec hz
        obtain ⟨hu, hl, ho⟩ := hh _ _ (restr_look hk)
        obtain ⟨_, hrow, _⟩ := rep_row hx
        obtain ⟨hr1, a, c, rfl, hr2, hr3, hr4, hr5, hr6, hr7⟩ := hrow hl
        obtain ⟨_, ho1, ho2, _⟩ := ho
        have hlen : 0 < len := by omega
        obtain ⟨ad, rfl, hr8⟩ := hr6 hlen
        refine ⟨rfl, _, run_indexAt ht hs S.w ad len c k i h0 h1, .rp _ _ _ _ _ hu (fun _ => ⟨hr1, _, rfl, ?_, hr3, fun hf => ?_, fun hv => ?_⟩) ⟨_, rfl⟩⟩
        · rw [ixPlus_eq]; omega
        · obtain ⟨h2, hcur, h3⟩ := hr8 hf
          refine ⟨by rw [add_block]; exact h2, fun hcc => ?_, fun j hj => ?_⟩
          · rw [add_block] at hcc ⊢
            have := hcur hcc
            rw [this, addr_add, ixPlus_eq, ho1, Nat.add_mul, Nat.add_zero]
          rw [ho1] at hj h3 ⊢
          have hb : i.toNat * sz + j < len * sz := by
            have h1 : i.toNat * sz + sz ≤ len * sz := by rw [← Nat.succ_mul]; exact Nat.mul_le_mul_right _ (by omega)
            omega
          have := h3 (i.toNat * sz + j) hb
          rw [add_add, ixPlus_eq, Nat.add_zero, show (off + i.toNat) * sz + j = off * sz + (i.toNat * sz + j) by rw [Nat.add_mul]; omega]
          exact this
        · have h2 := hr7 hv
          cases hcur : S.cur kk with
          | none => rw [hcur] at h2; omega
          | some b =>
            rw [hcur] at h2
            have h3 := h2.1 (by omega)
            cases h3
            exact ⟨b, rfl, by rw [addr_add, ixPlus_eq, ho1, Nat.add_mul, Nat.add_zero]⟩
      · cases hr
    · cases hr
  · next g k i =>
    obtain ⟨rfl, _⟩ := rep_v hi
    split at hr
    · next n e ht =>
      split at hr
      · next sz sz' q hs hg =>
        split at hr
        · next h1 h2 =>
          cases hr
          have h1 := Nat.eq_of_beq_eq_true h1
          have h2 := Nat.eq_of_beq_eq_true h2
          subst h1
          obtain ⟨⟨h0, h3⟩, _⟩ := hc
          have hlt : i.toNat < q.len := by omega
          obtain ⟨ho, _, hcell⟩ := hwf.glob g _ q hg
          obtain ⟨hl, hcell⟩ := hcell _ hlt
          have hv : vx = .pointer (some ⟨g, 0, none⟩) := by
            cases hx with
            | i _ _ hx => cases hx; rfl
          subst hv
          refine ⟨rfl, .pointer (some ((⟨g, 0, none⟩ : Addr).add (i.toNat * sz))), ?_, .i _ _ (.ip _ _ (fun j => plainV ((q.get i.toNat).cells[j]?)) (fun _ => ?_) (fun j hj => ?_) (fun j hj => ?_))⟩
          · simp [Instr.indexAt, asIntOf, run_underlying ht, h0, h3, run_sizeOf hs, Instr.sureAddr]
          · rw [add_block]; exact ho
          · obtain ⟨x, e1, e2, e3⟩ := hcell j hj
            have : (q.get i.toNat).cells[j]? = some (.v x) := by rw [List.getElem?_eq_getElem hj, e1]
            rw [this, addr_add, addr_add, Nat.zero_add]
            exact e3
          · obtain ⟨x, e1, e2, e3⟩ := hcell j hj
            have : (q.get i.toNat).cells[j]? = some (.v x) := by rw [List.getElem?_eq_getElem hj, e1]
            rw [this, e1]
            exact .v _ e2
        · cases hr
      · cases hr
    · cases hr
  · cases hr

/-! ### parts -/

/-- the values of a slice expression's bounds -/
def RepO (S : St) : Option Value → Option AV → Prop
  | none, none => True
  | some v, some x => Rep S v x
  | _, _ => False

theorem allP_append {a b : List Prop} (h : AllP (a ++ b)) : AllP a ∧ AllP b := by
  induction a with
  | nil => exact ⟨trivial, h⟩
  | cons x a ih => exact ⟨⟨h.1, (ih h.2).1⟩, (ih h.2).2⟩

theorem allP_mk {a b : List Prop} (h : AllP a) (k : AllP b) : AllP (a ++ b) := by
  induction a with
  | nil => exact k
  | cons x a ih => exact ⟨h.1, ih h.2⟩

/-- bounds as numbers -/
def IntO : Option Value → Option Int → Prop
  | none, none => True
  | some v, some n => ∃ k, v = .int k n
  | _, _ => False

def BHi (hi mx : Option Int) (h len : Nat) : Prop :=
  match hi with
  | none => h = len ∧ mx = none
  | some n => 0 ≤ n ∧ h = n.toNat ∧ n ≤ (len : Int)
def BMx (mx : Option Int) (h : Nat) : Prop :=
  match mx with
  | none => True
  | some m => m = (h : Int)
def BLo (lo : Option Int) (l h : Nat) : Prop :=
  match lo with
  | none => l = 0
  | some n => 0 ≤ n ∧ n ≤ (h : Int) ∧ l = n.toNat

theorem run_bounds {vlo vhi vmx : Option Value} {lo hi mx : Option Int} (hlo : IntO vlo lo) (hhi : IntO vhi hi) (hmx : IntO vmx mx) (isS : Bool) (len cap : Nat) (hcap : len ≤ cap) (w : World) (l h : Nat)
    (h1 : BHi hi mx h len) (h2 : BMx mx h) (h3 : BLo lo l h) :
    (Instr.sliceBounds isS len cap vlo vhi vmx).run P w = .ok (l, h, (match mx with | none => cap | some _ => h)) w := by
  have hb : ∀ (k : IntKind) (n : Int) (y : Nat) (code : BoundsCode), 0 ≤ n → n ≤ (y : Int) → (Instr.sliceBound (.int k n) y code).run P w = .ok n.toNat w := fun k n y code a b => run_sliceBound w k n y code a b
  cases vhi with
  | none =>
    cases hi with
    | some _ => exact hhi.elim
    | none =>
    obtain ⟨rfl, rfl⟩ := h1
    cases vmx with
    | some _ => exact hmx.elim
    | none =>
    cases vlo with
    | none => cases lo with
      | some _ => exact hlo.elim
      | none => cases h3; simp [Instr.sliceBounds]
    | some vl => cases lo with
      | none => exact hlo.elim
      | some n =>
        obtain ⟨k, rfl⟩ := hlo
        obtain ⟨a, b, rfl⟩ := h3
        simp [Instr.sliceBounds, hb _ _ _ _ a b]
  | some vh =>
    cases hi with
    | none => exact hhi.elim
    | some n =>
    obtain ⟨kh, rfl⟩ := hhi
    obtain ⟨h0, rfl, hle⟩ := h1
    obtain ⟨n, rfl⟩ := Int.eq_ofNat_of_zero_le h0
    simp only [Int.toNat_natCast] at *
    cases vmx with
    | none => cases mx with
      | some _ => exact hmx.elim
      | none =>
      have hb1 := fun code => hb kh n cap code h0 (by omega)
      simp only [Int.toNat_natCast] at hb1
      cases vlo with
      | none => cases lo with
        | some _ => exact hlo.elim
        | none => cases h3; simp [Instr.sliceBounds, hb1]
      | some vl => cases lo with
        | none => exact hlo.elim
        | some m =>
          obtain ⟨k, rfl⟩ := hlo
          obtain ⟨a, b, rfl⟩ := h3
          simp [Instr.sliceBounds, hb1, hb _ _ _ _ a b]
    | some vm => cases mx with
      | none => exact hmx.elim
      | some m =>
      obtain ⟨km, rfl⟩ := hmx
      cases h2
      have hb0 := fun code => hb km (n : Int) cap code (by omega) (by omega)
      have hb1 := fun code => hb kh n n code h0 (by omega)
      simp only [Int.toNat_natCast] at hb0 hb1
      cases vlo with
      | none => cases lo with
        | some _ => exact hlo.elim
        | none => cases h3; simp [Instr.sliceBounds, hb0, hb1]
      | some vl => cases lo with
        | none => exact hlo.elim
        | some m =>
          obtain ⟨k, rfl⟩ := hlo
          obtain ⟨a, b, rfl⟩ := h3
          simp [Instr.sliceBounds, hb0, hb1, hb _ _ _ _ a b]

theorem cutA_run {S : St} {lo hi mx : Option AV} {vlo vhi vmx : Option Value} {len cap l h : Nat} {tight tt : Bool} {c : List Prop} (hr : cutA lo hi mx len tight = some (l, h, tt, c)) (hc : AllP c)
    (hlo : RepO S vlo lo) (hhi : RepO S vhi hi) (hmx : RepO S vmx mx) (hcap : len ≤ cap) (ht : tight = true → cap = len) (isS : Bool) (w : World) :
    ∃ m, (Instr.sliceBounds isS len cap vlo vhi vmx).run P w = .ok (l, h, m) w ∧ l ≤ h ∧ h ≤ len ∧ h ≤ m ∧ m ≤ cap ∧ (tt = true → m = h) ∧ (mx = none → m = cap) ∧ (lo = none → l = 0) ∧ (hi = none → h = len) := by
  unfold cutA at hr
  split at hr
  case h_2 => cases hr
  next h' t1 c1 hhi' hmm =>
  have hm : hi = none → mx = none := fun h => by
    subst h
    cases mx with
    | none => rfl
    | some _ => simp at hmm
  split at hr
  case h_2 => cases hr
  next t2 c2 l' c3 hmx' hlo' =>
  cases hr
  obtain ⟨hc1, hc23⟩ := allP_append hc
  obtain ⟨hc2, hc3⟩ := allP_append hc23
  -- the three bounds as numbers
  have Hhi : ∃ ih : Option Int, IntO vhi ih ∧ (∀ im, (hi = none → im = none) → BHi ih im h len) ∧ h ≤ len ∧ (hi = none → h = len) ∧ (t1 = true → h = len ∧ tight = true) := by
    unfold cutHi at hhi'
    split at hhi'
    · cases hhi'
      cases vhi with
      | some _ => exact hhi.elim
      | none => exact ⟨none, trivial, fun im h => ⟨rfl, h rfl⟩, Nat.le_refl _, fun _ => rfl, fun h => ⟨rfl, h⟩⟩
    · next k n =>
      cases hhi'
      cases vhi with
      | none => exact hhi.elim
      | some v =>
        obtain ⟨rfl, _⟩ := rep_v hhi
        obtain ⟨⟨a, b⟩, _⟩ := hc1
        exact ⟨some n, ⟨k, rfl⟩, fun _ _ => ⟨a, rfl, b⟩, by omega, (fun h => by cases h), (fun h => by cases h)⟩
    · cases hhi'
  obtain ⟨ih, hih, hih2, hle, hinone, ht1⟩ := Hhi
  have Hmx : ∃ im : Option Int, IntO vmx im ∧ BMx im h ∧ (mx = none ↔ im = none) ∧ (tt = true → mx = none → t1 = true) := by
    unfold cutMx at hmx'
    split at hmx'
    · cases hmx'
      cases vmx with
      | some _ => exact hmx.elim
      | none => exact ⟨none, trivial, trivial, by simp, fun h _ => h⟩
    · next k n =>
      cases hmx'
      cases vmx with
      | none => exact hmx.elim
      | some v =>
        obtain ⟨rfl, _⟩ := rep_v hmx
        exact ⟨some n, ⟨k, rfl⟩, hc2.1, by simp, (fun _ h => by cases h)⟩
    · cases hmx'
  obtain ⟨im, him, him2, himn, ht2⟩ := Hmx
  have Hlo : ∃ il : Option Int, IntO vlo il ∧ BLo il l h ∧ l ≤ h ∧ (lo = none → l = 0) := by
    unfold cutLo at hlo'
    split at hlo'
    · cases hlo'
      cases vlo with
      | some _ => exact hlo.elim
      | none => exact ⟨none, trivial, rfl, Nat.zero_le _, fun _ => rfl⟩
    · next k n =>
      cases hlo'
      cases vlo with
      | none => exact hlo.elim
      | some v =>
        obtain ⟨rfl, _⟩ := rep_v hlo
        obtain ⟨⟨a, b⟩, _⟩ := hc3
        exact ⟨some n, ⟨k, rfl⟩, ⟨a, b, rfl⟩, by omega, (fun h => by cases h)⟩
    · cases hlo'
  obtain ⟨il, hil, hil2, hlh, hl0⟩ := Hlo
  have hrun := run_bounds (P := P) hil hih him isS len cap hcap w l h (hih2 im fun h => himn.1 (hm h)) him2 hil2
  refine ⟨_, hrun, hlh, hle, ?_, ?_, ?_, ?_, hl0, hinone⟩
  · cases im <;> simp only <;> omega
  · cases im <;> simp only <;> omega
  · intro htt
    cases im with
    | none =>
      simp only
      obtain ⟨a, b⟩ := ht1 (ht2 htt (himn.2 rfl))
      have := ht b
      omega
    | some m => rfl
  · intro hmn
    have := himn.1 hmn
    subst this
    rfl

theorem sliceA_run {S : St} {hp : List (Nat × AObj)} {ks : List Nat} {t : TypeId} {x : AV} {lo hi mx : Option AV} {vx : Value} {vlo vhi vmx : Option Value} {r : R} (hh : HeapOK S hp) (hr : sliceA P (restr hp ks) t x lo hi mx = some r) (hc : AllP r.cond)
    (hx : Rep S vx x) (hlo : RepO S vlo lo) (hhi : RepO S vhi hi) (hmx : RepO S vmx mx) :
    r.upd = [] ∧ ∃ y, (Instr.sliceAt t vx vlo vhi vmx).run P S.w = .ok y S.w ∧ Rep S y r.val := by
  unfold sliceA at hr
  split at hr
  · next s =>
    obtain ⟨rfl, _⟩ := rep_v hx
    split at hr
    · next l h tt c ht hct =>
      cases hr
      have hvm : vmx = none := by
        cases vmx with
        | none => rfl
        | some _ => exact hmx.elim
      subst hvm
      obtain ⟨m, hrun, _⟩ := cutA_run (P := P) (cap := s.size) hct hc hlo hhi (vmx := none) trivial (Nat.le_refl _) (fun h => by cases h) false S.w
      refine ⟨rfl, _, ?_, .v trivial⟩
      simp [Instr.sliceAt, Instr.slice, run_underlying ht, hrun]
    · cases hr
  · next sz q tight =>
    split at hr
    · next l h tt c he hct =>
      cases hr
      obtain ⟨e, ht, hs⟩ := elemSz_spec he
      obtain ⟨a, cap, rfl, hi', hcap, htight⟩ := rep_sl hx
      obtain ⟨m, hrun, hlh, hhl, hhm, hmc, htt, hmn, hl0, hh0⟩ := cutA_run (P := P) hct hc hlo hhi hmx hcap htight true S.w
      have hlo0 : lo.isSome = false → l = 0 := fun h => hl0 (by cases lo <;> simp_all)
      have hhi0 : hi.isSome = false → h = q.len := fun h' => hh0 (by cases hi <;> simp_all)
      have hlen : (cutSeq q l h lo.isSome hi.isSome).len = h - l := cutSeq_len q l h _ _ hlh hhl hhi0 hlo0
      refine ⟨rfl, .slice (if m = l then a else a.map (·.add (l * sz))) (h - l) (m - l), ?_, ?_⟩
      · simp [Instr.sliceAt, Instr.slice, run_underlying ht, hrun, run_sizeOf hs]
      · generalize hqe : q.len = n at hi'
        cases hi' with
        | slNil _ _ _ hq =>
          have h1 : l = 0 := by omega
          have h2 : h = 0 := by omega
          have h3 : m = 0 := by omega
          subst h1; subst h2; subst h3
          exact .i _ _ (.slNil _ _ _ (by rw [hlen]))
        | sl ad _ _ _ _ _ u hn hc' ht' hsz hU hl hcell hrep =>
          have he : (if m = l then some ad else (some ad).map (·.add (l * sz))) = some (if m = l then ad else ad.add (l * sz)) := by split <;> rfl
          rw [he]
          refine .i _ _ (.sl _ _ _ _ _ _ (fun i j => u (l + i) j) hlen.symm (by rw [hlen]; omega) (fun h1 => by rw [hlen, htt h1]) hsz (fun h0 => ?_) (fun i hi1 => ?_) (fun i j hi1 hj => ?_) (fun i j hi1 hj => ?_))
          · have : 0 < q.len := by omega
            split
            · exact hU this
            · rw [add_block]; exact hU this
          · rw [hlen] at hi1
            rw [cutSeq_get q l h _ _ hlo0 i (by omega)]
            exact hl _ (by omega)
          · rw [hlen] at hi1
            have hml : ¬ m = l := by omega
            rw [if_neg hml, add_add]
            have := hcell (l + i) j (by omega) hj
            rwa [Nat.add_mul, Nat.add_assoc] at this
          · rw [hlen] at hi1
            have hg := cutSeq_get q l h lo.isSome hi.isSome hlo0 i (by omega)
            simp only [hg] at hj ⊢
            exact hrep (l + i) j (by omega) hj
    · cases hr
  · next k off len ver tight =>
    split at hr
    · next sz l h tt c hz hct =>
      split at hr
      · next he =>
        cases hr
        obtain ⟨e, ht, hs⟩ := elemSz_spec he
        obtain ⟨T, q, f, hk⟩ := rowSz_spec hz
        obtain ⟨hu, hl, ho⟩ := hh _ _ (restr_look hk)
        obtain ⟨_, hrow, a0, c0, hv0, hn0⟩ := rep_row hx
        obtain ⟨hr1, a, cap, rfl, hr2, hr3, hcap, htight, hr6, hr7⟩ := hrow hl
        obtain ⟨_, ho1, ho2, _⟩ := ho
        obtain ⟨m, hrun, hlh, hhl, hhm, hmc, htt, hmn, hl0, hh0⟩ := cutA_run (P := P) hct hc hlo hhi hmx hcap htight true S.w
        have heo : rowOff lo off l = off + l := by
          cases lo with
          | none => have := hl0 rfl; subst this; rfl
          | some _ => exact ixPlus_eq off l
        have hel : rowLen lo l h = h - l := by
          cases lo with
          | none => have := hl0 rfl; subst this; rfl
          | some _ => rfl
        refine ⟨rfl, .slice (if m = l then a else a.map (·.add (l * sz))) (h - l) (m - l), ?_, ?_⟩
        · simp [Instr.sliceAt, Instr.slice, run_underlying ht, hrun, run_sizeOf hs]
        · simp only [heo, hel]
          refine .row _ _ _ _ _ _ hu (fun _ => ⟨hr1, _, _, rfl, by omega, hr3, by omega, fun h1 => by rw [htt h1], fun h0 => ?_, fun hv => ?_⟩) ⟨_, _, rfl, fun hn => ?_⟩
          rotate_left 2
          · have hae : a = a0 := by injection hv0
            have hce : cap = c0 := by injection hv0
            have : a = none := by
              cases a with
              | none => rfl
              | some _ => split at hn <;> cases hn
            have := hn0 (hae ▸ this)
            omega
          · obtain ⟨ad, rfl, hr8⟩ := hr6 (by omega)
            have hml : ¬ m = l := by omega
            refine ⟨ad.add (l * sz), by rw [if_neg hml]; rfl, fun hf => ?_⟩
            obtain ⟨h1, hcur, h2⟩ := hr8 hf
            refine ⟨by rw [add_block]; exact h1, fun hcc => ?_, fun j hj => ?_⟩
            · rw [add_block] at hcc ⊢
              have := hcur hcc
              rw [this, addr_add, ho1, Nat.add_mul]
            rw [ho1] at hj h2 ⊢
            have hb : l * sz + j < len * sz := by
              have h3 : (l + (h - l)) * sz ≤ len * sz := Nat.mul_le_mul_right _ (by omega)
              rw [Nat.add_mul] at h3
              omega
            have := h2 (l * sz + j) hb
            rw [add_add, Nat.add_mul, Nat.add_assoc]
            exact this
          · have h2 := hr7 hv
            cases hcur : S.cur k with
            | none =>
              rw [hcur] at h2
              obtain ⟨h3, h4, h5⟩ := h2
              have e1 : m = 0 := by omega
              have e2 : l = 0 := by omega
              subst e1; subst e2
              exact ⟨by simp [h3], by omega, by omega⟩
            | some b =>
              rw [hcur] at h2
              obtain ⟨h3, h4⟩ := h2
              refine ⟨fun h0 => ?_, ?_⟩
              · have hml : ¬ m = l := by omega
                rw [if_neg hml, h3 (by omega)]
                simp only [Option.map_some, addr_add]
                rw [ho1, Nat.add_mul]
              · refine Nat.le_trans (Nat.mul_le_mul_right _ ?_) h4
                omega
      · cases hr
    · cases hr
  · cases hr

end
end Go.Ev

/- Memory that turns: stores, new variables. -/
namespace Go.Ev
variable [Globs]

/-- the block of a key holds other cells -/
def St.set (S : St) (k b : Nat) (arr : Array Value) (n fl : Nat) : St :=
  { S with w := S.w.setRow b arr, len := upd S.len k n, floor := upd S.floor k fl }

theorem setRow_size (w : World) (b : Nat) (arr : Array Value) : (w.setRow b arr).heap.size = w.heap.size := by simp [World.setRow]

section set
variable {S : St} {k b : Nat} {arr : Array Value} {n fl : Nat}

theorem set_same (ho : S.own b = some (some k)) {j : Nat} (hj : j ≠ k) : Same S (S.set k b arr n fl) j := by
  refine ⟨rfl, upd_ne _ _ hj, rfl, upd_ne _ _ hj, rfl, fun c hc => ⟨?_, hc⟩⟩
  have : c ≠ b := fun e => hj (by subst e; rw [ho] at hc; injection hc with hc; injection hc with hc; exact hc.symm)
  exact setRow_other S.w b c arr this

theorem set_wf (hwf : S.wf) (ho : S.own b = some (some k)) : (S.set k b arr n fl).wf :=
  ⟨fun c o hc => by show c < (S.w.setRow b arr).heap.size; rw [setRow_size]; exact hwf.bound c o hc, hwf.kept, hwf.lu,
    hwf.glob.keep (fun c _ hc => ⟨setRow_other S.w b c arr (fun e => by subst e; rw [ho] at hc; cases hc), hc⟩) (by show _ ≤ (S.w.setRow b arr).heap.size; rw [setRow_size]; omega)⟩

theorem set_ext (hwf : S.wf) (ho : S.own b = some (some k))
    (hk : S.live k → (∀ v off len ver t, RowOK S v k off len ver t → RowOK (S.set k b arr n fl) v k off len ver t) ∧ (∀ v i ver off, RpOK S v k i ver off → RpOK (S.set k b arr n fl) v k i ver off))
    (hm : S.len k ≤ n ∧ (n = S.len k → ∀ c, S.cur k = some c → blockSize S.w c ≤ blockSize (S.w.setRow b arr) c)) : Ext S (S.set k b arr n fl) := by
  refine ⟨by show _ ≤ (S.w.setRow b arr).heap.size; rw [setRow_size]; omega, rfl, rfl, rfl, fun c _ hc => ⟨setRow_other S.w b c arr (fun e => hc k (e ▸ ho)), rfl⟩, fun _ h => h, fun j hu hl => ?_⟩
  by_cases hj : j = k
  · subst hj
    have hlen : (S.set j b arr n fl).len j = n := upd_self _ _ _
    exact ⟨hl, (hk hl).1, (hk hl).2, fun _ _ h => h, ⟨rfl, rfl, by rw [hlen]; exact hm.1, fun _ => rfl, fun _ => rfl, fun e => hm.2 (by rw [hlen] at e; exact e)⟩⟩
  · have hs := set_same (arr := arr) (n := n) (fl := fl) ho hj
    exact ⟨hl, fun _ _ _ _ _ r => hs.row (hwf.kept j hl) r, fun _ _ _ _ r => hs.rp (hwf.kept j hl) r, fun _ _ r => hs.ptr r, hs.moves (hwf.kept j hl)⟩

theorem set_heap (e : Ext S (S.set k b arr n fl)) (ho : S.own b = some (some k)) {hp : List (Nat × AObj)} (hh : HeapOK S hp) {o : AObj} (hu : S.used k) (hl : S.live k) (hobj : ObjOK (S.set k b arr n fl) k o) : HeapOK (S.set k b arr n fl) (put1 hp k o) := by
  intro j o' hj
  rw [look_put] at hj
  split at hj
  · next h => subst h; cases hj; exact ⟨hu, hl, hobj⟩
  · next h =>
    obtain ⟨h1, h2, h3⟩ := hh j o' hj
    exact ⟨h1, h2, h3.same e (set_same ho h)⟩
end set

theorem set_cell {w : World} {b : Nat} {old arr : Array Value} {T : TypeId} {fr : Nat × Nat} (h : w.heap[b]? = some (.cells old T fr)) (i : Nat) : (w.setRow b arr).cell? ⟨b, i, none⟩ = arr[i]? := by
  rw [cell_arr (setRow_heap w b old arr T fr h)]

theorem set_cell_other {w : World} {b : Nat} {arr : Array Value} {ad : Addr} (h : ad.block ≠ b) : (w.setRow b arr).cell? ad = w.cell? ad :=
  cell_same (setRow_other w b _ arr h)

theorem set_blockSize {w : World} {b : Nat} {old arr : Array Value} {T : TypeId} {fr : Nat × Nat} (h : w.heap[b]? = some (.cells old T fr)) : blockSize (w.setRow b arr) b = arr.size := by
  unfold blockSize
  rw [setRow_heap w b old arr T fr h]

theorem blockSize_of {w : World} {b : Nat} {old : Array Value} {T : TypeId} {fr : Nat × Nat} (h : w.heap[b]? = some (.cells old T fr)) : blockSize w b = old.size := by
  unfold blockSize
  rw [h]

theorem size_kept {S : St} {k b : Nat} {old arr : Array Value} {T : TypeId} {fz : Nat × Nat} (hc : S.cur k = some b) (hh : S.w.heap[b]? = some (.cells old T fz)) (hs : arr.size = old.size) : ∀ c, S.cur k = some c → blockSize S.w c ≤ blockSize (S.w.setRow b arr) c := by
  intro c h
  rw [hc] at h
  cases h
  rw [blockSize_of hh, set_blockSize hh, hs]
  exact Nat.le_refl _

/-- a row's cells turn, none is added: only those who know the row as it is now may read it -/
theorem set_row_store {S : St} {k b : Nat} {old arr : Array Value} {T : TypeId} (hc : S.cur k = some b) (ho : S.own b = some (some k)) (hh : S.w.heap[b]? = some (.cells old T (0, 0))) (hs : arr.size = old.size) (hl : S.len k * S.sz k ≤ old.size) :
    (∀ v off len ver t, RowOK S v k off len ver t → RowOK (S.set k b arr (S.len k) (S.len k)) v k off len ver t) ∧ (∀ v i ver off, RpOK S v k i ver off → RpOK (S.set k b arr (S.len k) (S.len k)) v k i ver off) := by
  have hlen : (S.set k b arr (S.len k) (S.len k)).len k = S.len k := upd_self _ _ _
  have hfl : (S.set k b arr (S.len k) (S.len k)).floor k = S.len k := upd_self _ _ _
  have hcc : ∀ i, curCell (S.set k b arr (S.len k) (S.len k)) k i = arr[i]? := fun i => by
    unfold curCell
    show (match S.cur k with | some b => _ | none => none) = _
    rw [hc]
    exact set_cell hh i
  constructor
  · rintro v off len ver t ⟨hr, a, c, hv, h1, h2, h3, h4, h5, h6⟩
    refine ⟨hr, a, c, hv, h1, by rw [hlen]; exact h2, h3, h4, fun h0 => ?_, fun he => ?_⟩
    · obtain ⟨ad, ha, hrest⟩ := h5 h0
      refine ⟨ad, ha, fun hf => ?_⟩
      rw [hfl] at hf
      have hver : ver = S.len k := by omega
      have hcur := h6 hver
      rw [hc] at hcur
      obtain ⟨had, hsz⟩ := hcur
      rw [blockSize_of hh] at hsz
      have had := had (by omega)
      rw [ha] at had
      cases had
      refine ⟨ho, fun _ => rfl, fun j hj => ?_⟩
      have hj' : j < len * S.sz k := hj
      have hin : off * S.sz k + j < arr.size := by
        have h7 : (off + len) * S.sz k ≤ (off + c) * S.sz k := Nat.mul_le_mul_right _ (by omega)
        rw [Nat.add_mul] at h7
        omega
      have : (S.set k b arr (S.len k) (S.len k)).w.cell? ((⟨b, off * S.sz k, none⟩ : Addr).add j) = arr[off * S.sz k + j]? := by rw [addr_add]; exact set_cell hh _
      rw [this]
      exact ⟨(hcc _).symm, by simp [hin]⟩
    · rw [hlen] at he
      have hcur := h6 he
      rw [hc] at hcur
      show (match S.cur k with | none => _ | some b => _)
      rw [hc]
      obtain ⟨hcur1, hcur2⟩ := hcur
      refine ⟨hcur1, ?_⟩
      rw [blockSize_of hh] at hcur2
      show _ ≤ blockSize (S.w.setRow b arr) b
      rw [set_blockSize hh, hs]
      exact hcur2
  · rintro v i ver off ⟨hr, ad, hv, h1, h2, h3, h4⟩
    refine ⟨hr, ad, hv, h1, by rw [hlen]; exact h2, fun hf => ?_, fun he => ?_⟩
    · rw [hfl] at hf
      have hver : ver = S.len k := by omega
      obtain ⟨b', hb', he⟩ := h4 hver
      rw [hc] at hb'
      cases hb'
      subst he
      refine ⟨ho, fun _ => rfl, fun j hj => ?_⟩
      have hj' : off + j < S.sz k := hj
      have hin : i * S.sz k + off + j < arr.size := by
        have h7 : (i + 1) * S.sz k ≤ S.len k * S.sz k := Nat.mul_le_mul_right _ (by omega)
        rw [Nat.add_mul, Nat.one_mul] at h7
        omega
      have : (S.set k b arr (S.len k) (S.len k)).w.cell? ((⟨b, i * S.sz k + off, none⟩ : Addr).add j) = arr[i * S.sz k + off + j]? := by rw [addr_add]; exact set_cell hh _
      rw [this]
      exact ⟨(hcc _).symm, by simp [hin]⟩
    · rw [hlen] at he
      exact h4 he

/-- a row's block gets more cells of the row, what it held stays -/
theorem set_row_grow {S : St} {k b : Nat} {old arr : Array Value} {T : TypeId} {n : Nat} {fz : Nat × Nat} (hc : S.cur k = some b) (hh : S.w.heap[b]? = some (.cells old T fz))
    (hn : S.len k < n) (hkeep : ∀ i, i < S.len k * S.sz k → arr[i]? = old[i]?) :
    (∀ v off len ver t, RowOK S v k off len ver t → RowOK (S.set k b arr n (S.floor k)) v k off len ver t) ∧ (∀ v i ver off, RpOK S v k i ver off → RpOK (S.set k b arr n (S.floor k)) v k i ver off) := by
  have hlen : (S.set k b arr n (S.floor k)).len k = n := upd_self _ _ _
  have hfl : (S.set k b arr n (S.floor k)).floor k = S.floor k := upd_self _ _ _
  have hcc : ∀ i, i < S.len k * S.sz k → curCell (S.set k b arr n (S.floor k)) k i = curCell S k i := fun i hi => by
    unfold curCell
    show (match S.cur k with | some b => _ | none => none) = _
    rw [hc]
    show (S.w.setRow b arr).cell? _ = S.w.cell? _
    rw [set_cell hh, cell_arr hh]
    exact hkeep i hi
  constructor
  · rintro v off len ver t ⟨hr, a, c, hv, h1, h2, h3, h4, h5, h6⟩
    refine ⟨hr, a, c, hv, h1, by rw [hlen]; omega, h3, h4, fun h0 => ?_, fun he => ?_⟩
    · obtain ⟨ad, ha, hrest⟩ := h5 h0
      refine ⟨ad, ha, fun hf => ?_⟩
      rw [hfl] at hf
      obtain ⟨h7, h8, h9⟩ := hrest hf
      refine ⟨h7, h8, fun j hj => ?_⟩
      have hj' : j < len * S.sz k := hj
      have hb : off * S.sz k + j < S.len k * S.sz k := by
        have h10 : (off + len) * S.sz k ≤ S.len k * S.sz k := Nat.mul_le_mul_right _ (by omega)
        rw [Nat.add_mul] at h10
        omega
      obtain ⟨h10, h11⟩ := h9 j hj'
      have hsame : (S.w.setRow b arr).cell? (ad.add j) = S.w.cell? (ad.add j) := by
        by_cases hbl : ad.block = b
        · have := h8 (by rw [hc, hbl])
          rw [this, hbl, addr_add, set_cell hh, cell_arr hh]
          exact hkeep _ hb
        · exact set_cell_other (by rw [add_block]; exact hbl)
      show (S.w.setRow b arr).cell? (ad.add j) = _ ∧ ((S.w.setRow b arr).cell? (ad.add j)).isSome
      rw [hsame]
      exact ⟨h10.trans (hcc _ hb).symm, h11⟩
    · rw [hlen] at he
      omega
  · rintro v i ver off ⟨hr, ad, hv, h1, h2, h3, h4⟩
    refine ⟨hr, ad, hv, h1, by rw [hlen]; omega, fun hf => ?_, fun he => by rw [hlen] at he; omega⟩
    rw [hfl] at hf
    obtain ⟨h7, h8, h9⟩ := h3 hf
    refine ⟨h7, h8, fun j hj => ?_⟩
    have hj' : off + j < S.sz k := hj
    have hb : i * S.sz k + off + j < S.len k * S.sz k := by
      have h10 : (i + 1) * S.sz k ≤ S.len k * S.sz k := Nat.mul_le_mul_right _ (by omega)
      rw [Nat.add_mul, Nat.one_mul] at h10
      omega
    obtain ⟨h10, h11⟩ := h9 j hj'
    have hsame : (S.w.setRow b arr).cell? (ad.add j) = S.w.cell? (ad.add j) := by
      by_cases hbl : ad.block = b
      · have := h8 (by rw [hc, hbl])
        rw [this, hbl, addr_add, set_cell hh, cell_arr hh]
        exact hkeep _ hb
      · exact set_cell_other (by rw [add_block]; exact hbl)
    show (S.w.setRow b arr).cell? (ad.add j) = _ ∧ ((S.w.setRow b arr).cell? (ad.add j)).isSome
    rw [hsame]
    exact ⟨h10.trans (hcc _ hb).symm, h11⟩

/-- a row moves to a new block -/
def St.move (S : St) (k : Nat) (w : World) (arr : Array Value) (T : TypeId) (n : Nat) : St :=
  { S with w := w.alloc (.cells arr T), own := upd S.own w.heap.size (some (some k)), cur := upd S.cur k (some w.heap.size), len := upd S.len k n }

section move
variable {S : St} {k : Nat} {w : World} {arr : Array Value} {T : TypeId} {n : Nat}

theorem move_same (hwf : S.wf) (hg : Grows S.w w) {j : Nat} (hj : j ≠ k) : Same S (S.move k w arr T n) j := by
  refine ⟨upd_ne _ _ hj, upd_ne _ _ hj, rfl, rfl, rfl, fun b hb => ?_⟩
  have hlt := hwf.bound b _ hb
  have hne : b ≠ w.heap.size := by have := hg.size; omega
  refine ⟨?_, (upd_ne _ _ hne).trans hb⟩
  show (w.alloc _).heap[b]? = _
  rw [alloc_old w _ b (Nat.lt_of_lt_of_le hlt hg.size)]
  exact hg.block b hlt

theorem move_wf (hwf : S.wf) (hg : Grows S.w w) : (S.move k w arr T n).wf := by
  refine ⟨fun b o hb => ?_, fun j hl => ?_, hwf.lu, hwf.glob.keep (fun b hb ho => ⟨?_, (upd_ne _ _ (by have := hg.size; omega)).trans ho⟩) (by
    show _ ≤ (w.alloc _).heap.size
    rw [alloc_size]; have := hg.size; omega)⟩
  rotate_left 2
  · show (w.alloc _).heap[b]? = _
    rw [alloc_old w _ b (Nat.lt_of_lt_of_le hb hg.size)]
    exact hg.block b hb
  · show b < (w.alloc _).heap.size
    rw [alloc_size]
    by_cases hbe : b = w.heap.size
    · omega
    · have : S.own b = some o := by rwa [show (S.move k w arr T n).own b = S.own b from upd_ne _ _ hbe] at hb
      have := hwf.bound b o this
      have := hg.size
      omega
  · intro b hb
    by_cases hk : j = k
    · subst hk
      have : w.heap.size = b := Option.some.inj (by rw [← hb]; exact (upd_self _ _ _).symm)
      subst this
      exact upd_self _ _ _
    · have hc : S.cur j = some b := by rw [← hb]; exact (upd_ne _ _ hk).symm
      have ho := hwf.kept j hl b hc
      have hne : b ≠ w.heap.size := by have := hwf.bound b _ ho; have := hg.size; omega
      exact (upd_ne _ _ hne).trans ho

/-- what is written of the old block stands in the new one -/
theorem move_ext (hwf : S.wf) (hg : Grows S.w w) (hr : S.isRow k = true) (hn : S.len k < n) (hkeep : ∀ i, i < S.len k * S.sz k → curCell S k i = arr[i]?) : Ext S (S.move k w arr T n) := by
  have hsz : S.w.heap.size ≤ (w.alloc (.cells arr T)).heap.size := Nat.le_trans hg.size (by rw [alloc_size]; omega)
  have hlen : (S.move k w arr T n).len k = n := upd_self _ _ _
  have hblk : ∀ b, b < S.w.heap.size → (S.move k w arr T n).w.heap[b]? = S.w.heap[b]? := fun b hb => by
    show (w.alloc _).heap[b]? = _
    rw [alloc_old w _ b (Nat.lt_of_lt_of_le hb hg.size)]
    exact hg.block b hb
  have hcc : ∀ i, i < S.len k * S.sz k → curCell (S.move k w arr T n) k i = curCell S k i := fun i hi => by
    rw [hkeep i hi]
    unfold curCell
    show (match upd S.cur k (some w.heap.size) k with | some b => _ | none => none) = _
    rw [upd_self]
    exact cell_arr (alloc_new w _) i
  refine ⟨hsz, hg.os, hg.tape, hg.output, fun b hb _ => ⟨hblk b hb, upd_ne _ _ (by have := hg.size; omega)⟩, fun _ h => h, fun j hu hl => ?_⟩
  by_cases hj : j = k
  · subst hj
    refine ⟨hl, ?_, ?_, fun v off (h : PtrOK S v j off) => absurd (h.1.symm.trans hr) (by simp), ⟨rfl, rfl, by rw [hlen]; omega, fun e => absurd e (by rw [hlen]; omega), fun e => absurd (e.symm.trans hr) (by simp), fun e => absurd e (by rw [hlen]; omega)⟩⟩
    · rintro v off len ver t ⟨hr, a, c, hv, h1, h2, h3, h4, h5, h6⟩
      refine ⟨hr, a, c, hv, h1, by rw [hlen]; omega, h3, h4, fun h0 => ?_, fun he => by rw [hlen] at he; omega⟩
      obtain ⟨ad, ha, hrest⟩ := h5 h0
      refine ⟨ad, ha, fun hf => ?_⟩
      obtain ⟨h7, h8, h9⟩ := hrest hf
      have hlt := hwf.bound _ _ h7
      refine ⟨(upd_ne _ _ (by have := hg.size; omega)).trans h7, fun hcur => ?_, fun i hi => ?_⟩
      · have : w.heap.size = ad.block := Option.some.inj (by rw [← hcur]; exact (upd_self _ _ _).symm)
        have := hg.size
        omega
      · have hi' : i < len * S.sz j := hi
        have hb : off * S.sz j + i < S.len j * S.sz j := by
          have h10 : (off + len) * S.sz j ≤ S.len j * S.sz j := Nat.mul_le_mul_right _ (by omega)
          rw [Nat.add_mul] at h10
          omega
        obtain ⟨h10, h11⟩ := h9 i hi'
        have hsame : (S.move j w arr T n).w.cell? (ad.add i) = S.w.cell? (ad.add i) := cell_same (by rw [add_block]; exact hblk _ hlt)
        rw [hsame]
        exact ⟨h10.trans (hcc _ hb).symm, h11⟩
    · rintro v i ver off ⟨hr, ad, hv, h1, h2, h3, h4⟩
      refine ⟨hr, ad, hv, h1, by rw [hlen]; omega, fun hf => ?_, fun he => by rw [hlen] at he; omega⟩
      obtain ⟨h7, h8, h9⟩ := h3 hf
      have hlt := hwf.bound _ _ h7
      refine ⟨(upd_ne _ _ (by have := hg.size; omega)).trans h7, fun hcur => ?_, fun m hm => ?_⟩
      · have : w.heap.size = ad.block := Option.some.inj (by rw [← hcur]; exact (upd_self _ _ _).symm)
        have := hg.size
        omega
      · have hm' : off + m < S.sz j := hm
        have hb : i * S.sz j + off + m < S.len j * S.sz j := by
          have h10 : (i + 1) * S.sz j ≤ S.len j * S.sz j := Nat.mul_le_mul_right _ (by omega)
          rw [Nat.add_mul, Nat.one_mul] at h10
          omega
        obtain ⟨h10, h11⟩ := h9 m hm'
        have hsame : (S.move j w arr T n).w.cell? (ad.add m) = S.w.cell? (ad.add m) := cell_same (by rw [add_block]; exact hblk _ hlt)
        rw [hsame]
        exact ⟨h10.trans (hcc _ hb).symm, h11⟩
  · have hs := move_same (arr := arr) (T := T) (n := n) hwf hg hj
    exact ⟨hl, fun _ _ _ _ _ r => hs.row (hwf.kept j hl) r, fun _ _ _ _ r => hs.rp (hwf.kept j hl) r, fun _ _ r => hs.ptr r, hs.moves (hwf.kept j hl)⟩

theorem move_heap (hwf : S.wf) (hg : Grows S.w w) (e : Ext S (S.move k w arr T n)) {hp : List (Nat × AObj)} (hh : HeapOK S hp) {o : AObj} (hu : S.used k) (hl : S.live k) (hobj : ObjOK (S.move k w arr T n) k o) : HeapOK (S.move k w arr T n) (put1 hp k o) := by
  intro j o' hj
  rw [look_put] at hj
  split at hj
  · next h => subst h; cases hj; exact ⟨hu, hl, hobj⟩
  · next h =>
    obtain ⟨h1, h2, h3⟩ := hh j o' hj
    exact ⟨h1, h2, h3.same e (move_same hwf hg h)⟩
end move

end Go.Ev

/- Stores. -/
namespace Go.Ev
variable [Globs]

/-- a list with others laid over it -/
def seg {α : Type} (l : List α) (o : Nat) (vs : List α) : List α := l.take o ++ vs ++ l.drop (o + vs.length)

theorem seg_length {α : Type} (l : List α) (o : Nat) (vs : List α) (h : o + vs.length ≤ l.length) : (seg l o vs).length = l.length := by
  simp [seg]
  omega

theorem seg_get {α : Type} (l : List α) (o : Nat) (vs : List α) (h : o + vs.length ≤ l.length) (p : Nat) : (seg l o vs)[p]? = if o ≤ p ∧ p < o + vs.length then vs[p - o]? else l[p]? := by
  unfold seg
  rw [List.append_assoc, List.getElem?_append]
  have ho : (l.take o).length = o := by simp; omega
  rw [ho]
  by_cases h1 : p < o
  · rw [if_pos h1, if_neg (by omega), List.getElem?_take, if_pos h1]
  · rw [if_neg h1, List.getElem?_append]
    by_cases h2 : p - o < vs.length
    · rw [if_pos h2, if_pos (by omega)]
    · rw [if_neg h2, if_neg (by omega), List.getElem?_drop]
      congr 1
      omega

theorem lay_spec {cs xs ys : List AV} {o : Nat} (h : lay cs o xs = some ys) : ys = seg cs o xs ∧ o + xs.length ≤ cs.length := by
  unfold lay at h
  split at h
  · next hb => cases h; exact ⟨rfl, Nat.le_of_ble_eq_true hb⟩
  · cases h

theorem getD_of_get {l : List Value} {arr : Array Value} (h : arr = l.toArray) (i : Nat) : arr.getD i undef = (l[i]?).getD undef := by
  subst h
  simp [Array.getD_eq_getD_getElem?]

theorem seqSet_spec {q q' : Seq AV} {i : Nat} {x : AV} (h : q.set i x = some q') (hi : i < q.len) : q'.len = q.len ∧ q'.get i = x ∧ ∀ j, j ≠ i → q'.get j = q.get j := by
  unfold Seq.set at h
  split at h
  · next k l k' n =>
    split at h
    · next hk =>
      cases h
      have := kindEq_eq hk
      subst this
      have hi' : i < l.length := hi
      refine ⟨by simp [Seq.len], by simp [Seq.get, hi'], fun j hj => ?_⟩
      simp [Seq.get, Ne.symm hj]
    · cases h
  · next l s =>
    cases h
    have hi' : i < l.length := hi
    refine ⟨by simp [Seq.len], by simp [Seq.get, hi'], fun j hj => ?_⟩
    simp [Seq.get, Ne.symm hj]
  · next x l =>
    cases h
    have hi' : i < l.length := hi
    refine ⟨by simp [Seq.len], by simp [Seq.get, hi'], fun j hj => ?_⟩
    simp [Seq.get, Ne.symm hj]
  · cases h

/-- what is stored into is shared by no string -/
theorem seqSet_fz {q q' : Seq AV} {i : Nat} {x : AV} (h : q.set i x = some q') {sz : Nat} {fz : Nat × Nat} (hf : FzOK q sz fz) : fz = (0, 0) := by
  cases q with
  | frz l => unfold Seq.set at h; cases h
  | _ => exact hf

section
variable {P : Program}

theorem run_storeVar {t : TypeId} {sz : Nat} (hs : sizeA P t = some sz) {w : World} {b o : Nat} {arr : Array Value} {T : TypeId} (hh : w.heap[b]? = some (.cells arr T (0, 0))) {v : Value} (hv : v.cells.size = sz) (hfit : o + sz ≤ arr.size)
    (h1 : ∀ i, i < v.cells.size → okV (v.cells.getD i undef)) : (Instr.storeAt t (.pointer (some ⟨b, o, none⟩)) v).run P w = .ok () (w.setRow b (seg arr.toList o v.cells.toList).toArray) := by
  have hst := run_storeCells_at P b o T v.cells.toList 0 arr w hh (by simp; omega) (fun x hx => by
    obtain ⟨i, hi, rfl⟩ := List.getElem_of_mem hx
    have hi' : i < v.cells.size := by simpa using hi
    have := h1 i hi'
    rw [Array.getD_eq_getD_getElem?, Array.getElem?_eq_getElem hi'] at this
    simpa using okV_one this)
  simp only [Instr.storeAt, Instr.sureAddr, Sem.run_bind, Sem.run_pure, Result.andThen_ok, storeVar, run_sizeOf hs, hv, ne_eq, not_true_eq_false, if_false]
  simpa [seg] using hst

theorem storeA_run {S : St} {key : Nat} {hp : List (Nat × AObj)} {ks : List Nat} {t : TypeId} {a x : AV} {va vx : Value} {r : R} (hwf : S.wf) (hh : HeapOK S hp) (hr : storeA P (restr hp ks) t a x = some r) (hc : AllP r.cond) (ha : Rep S va a) (hx : Rep S vx x) :
    ∃ S', (Instr.storeAt t va vx).run P S.w = .ok () S'.w ∧ Post S key (applyUpd hp r.upd) r.val undef S' := by
  unfold storeA at hr
  split at hr
  · cases hr
  next sz hs =>
  split at hr
  · cases hr
  next xs hxs =>
  obtain ⟨rfl, hj, hlen⟩ := stored_spec hxs
  obtain ⟨hc1, hc2, hc3⟩ := rep_cells hx hj
  have hvs : vx.cells.size = sz := by omega
  split at hr
  · next k off =>
    split at hr
    · next T cs hk =>
      split at hr
      · next cs' hl =>
        cases hr
        obtain ⟨rfl, hfit⟩ := lay_spec hl
        obtain ⟨hu, hlive, hobj⟩ := hh _ _ (restr_look hk)
        have hptr : PtrOK S va k off := by cases ha with | i _ _ h => cases h | ptr _ _ _ _ hp _ => exact hp hlive
        obtain ⟨hrow, b, hb, rfl⟩ := hptr
        obtain ⟨_, b', arr, hb', ho, hheap, hsz, hrep⟩ := hobj
        rw [hb] at hb'
        cases hb'
        have hrun := run_storeVar (P := P) hs hheap hvs (by omega) (fun i hi => hc3 i (by omega)) (o := off)
        have hfit' : off + vx.cells.toList.length ≤ arr.toList.length := by simp; omega
        have e : Ext S (S.set k b (seg arr.toList off vx.cells.toList).toArray (S.len k) (S.floor k)) :=
          set_ext hwf ho (fun _ => ⟨(fun _ _ _ _ _ h => by have := h.1; rw [hrow] at this; cases this), (fun _ _ _ _ h => by have := h.1; rw [hrow] at this; cases this)⟩) ⟨Nat.le_refl _, fun _ => size_kept hb hheap (by rw [List.size_toArray, seg_length _ _ _ hfit']; simp)⟩
        refine ⟨_, hrun, set_wf hwf ho, e, fun j h => .inl h, .junk _, set_heap e ho hh hu hlive ⟨hrow, b, _, hb, ho, setRow_heap _ _ _ _ _ _ hheap, ?_, fun i hi => ?_⟩⟩
        · rw [List.size_toArray, seg_length _ _ _ hfit', seg_length _ _ _ hfit]
          simpa using hsz
        · rw [seg_length _ _ _ hfit] at hi
          have hi2 : i < arr.size := by omega
          have hg := seg_get cs off x.cells hfit i
          have hg2 := seg_get arr.toList off vx.cells.toList hfit' i
          have hget : (seg cs off x.cells)[i]'(by rw [seg_length _ _ _ hfit]; exact hi) = (if h : off ≤ i ∧ i < off + x.cells.length then x.cells[i - off]'(by omega) else cs[i]) := by
            apply Option.some.inj
            rw [← List.getElem?_eq_getElem, hg]
            split
            · exact List.getElem?_eq_getElem _
            · exact List.getElem?_eq_getElem _
          rw [hget, getD_of_get rfl, hg2]
          have hl2 : vx.cells.toList.length = x.cells.length := by simp; omega
          rw [hl2]
          split
          · next h =>
            have := hc2 (i - off) (by omega)
            rw [Array.getD_eq_getD_getElem?] at this
            simpa using this.ext e
          · next h =>
            have := hrep i hi
            rw [Array.getD_eq_getD_getElem?] at this
            simpa using this.ext e
      · cases hr
    · cases hr
  · next k i ver off =>
    split at hr
    · next T s q floor hk =>
      obtain ⟨hu, hlive, hobj⟩ := hh _ _ (restr_look hk)
      have hrp : RpOK S va k i ver off := by cases ha with | i _ _ h => cases h | rp _ _ _ _ _ _ hp _ => exact hp hlive
      have key2 : ∀ q' : Seq AV, (∀ fz, FzOK q s fz → fz = (0, 0)) → ver = q.len → off + sz ≤ s → q'.len = q.len → (q'.get i).cells = seg (q.get i).cells off x.cells → (∀ j, j ≠ i → q'.get j = q.get j) →
          ∃ S', (Instr.storeAt t va vx).run P S.w = .ok () S'.w ∧ Post S key (put1 hp k (.row T s q' q.len)) .junk undef S' := by
        intro q' hfzq hver hoff hq1 hq2 hq3
        obtain ⟨hrow, ad, rfl, h1, h2, h3, h4⟩ := hrp
        obtain ⟨_, o1, o2, o3, o4, ofl, o5, o6⟩ := hobj
        obtain ⟨b, hb, rfl⟩ := h4 (by omega)
        rw [hb] at o6
        obtain ⟨ho, arr, ⟨fz, hheap, hfz⟩, hsz, hrep⟩ := o6
        have hfz := hfzq fz hfz
        subst hfz
        have hi : i < q.len := by omega
        have hbound : i * s + s ≤ arr.size := by
          have : (i + 1) * s ≤ q.len * s := Nat.mul_le_mul_right _ hi
          rw [Nat.add_mul, Nat.one_mul] at this
          omega
        rw [o1]
        have hrun := run_storeVar (P := P) hs hheap hvs (by omega) (fun i hi => hc3 i (by omega)) (o := i * s + off)
        have hl2 : vx.cells.toList.length = x.cells.length := by simp; omega
        have hfit' : i * s + off + vx.cells.toList.length ≤ arr.toList.length := by simp; omega
        have hfit : off + x.cells.length ≤ (q.get i).cells.length := by rw [o5 i hi]; omega
        have hsame : (seg arr.toList (i * s + off) vx.cells.toList).toArray.size = arr.size := by rw [List.size_toArray, seg_length _ _ _ hfit']; simp
        have hst := set_row_store hb ho hheap hsame (by rw [o3, o1]; exact hsz)
        have e : Ext S (S.set k b (seg arr.toList (i * s + off) vx.cells.toList).toArray (S.len k) (S.len k)) := set_ext hwf ho (fun _ => hst) ⟨Nat.le_refl _, fun _ => size_kept hb hheap hsame⟩
        refine ⟨_, hrun, set_wf hwf ho, e, fun j h => .inl h, .junk _, set_heap e ho hh hu hlive ⟨hrow, o1, o2, (upd_self _ _ _).trans (o3.trans hq1.symm), (upd_self _ _ _).trans o3, by rw [hq1]; exact Nat.le_refl _, fun j hj => ?_, ?_⟩⟩
        · rw [hq1] at hj
          by_cases hji : j = i
          · subst hji; rw [hq2, seg_length _ _ _ hfit]; exact o5 j hj
          · rw [hq3 j hji]; exact o5 j hj
        · show (match S.cur k with | none => _ | some b => _)
          rw [hb]
          refine ⟨ho, _, ⟨_, setRow_heap _ _ _ _ _ _ hheap, fzOK_zero _ _⟩, by rw [hsame, hq1]; exact hsz, fun j m hj hm => ?_⟩
          rw [hq1] at hj
          rw [getD_of_get rfl, seg_get _ _ _ hfit', hl2]
          by_cases hji : j = i
          · subst hji
            have hg := seg_get (q.get j).cells off x.cells hfit m
            have hm2 : m < (q.get j).cells.length := by rw [hq2, seg_length _ _ _ hfit] at hm; exact hm
            have hget : (q'.get j).cells[m] = (if h : off ≤ m ∧ m < off + x.cells.length then x.cells[m - off]'(by omega) else (q.get j).cells[m]) := by
              apply Option.some.inj
              rw [← List.getElem?_eq_getElem, hq2, hg]
              split
              · exact List.getElem?_eq_getElem _
              · exact List.getElem?_eq_getElem _
            rw [hget]
            by_cases h : off ≤ m ∧ m < off + x.cells.length
            · rw [dif_pos h, if_pos (by omega)]
              have a1 := hc2 (m - off) (by omega)
              have a2 := hc3 (m - off) (by omega)
              rw [Array.getD_eq_getD_getElem?] at a1 a2
              have he : j * s + m - (j * s + off) = m - off := by omega
              rw [he]
              refine ⟨?_, ?_⟩
              · simpa using a1.ext e
              · simpa using a2
            · rw [dif_neg h, if_neg (by omega)]
              obtain ⟨a1, a2⟩ := hrep j m hj hm2
              rw [Array.getD_eq_getD_getElem?] at a1 a2
              refine ⟨?_, ?_⟩
              · simpa using a1.ext e
              · simpa using a2
          · have hout : ¬ (i * s + off ≤ j * s + m ∧ j * s + m < i * s + off + x.cells.length) := by
              have hm3 : m < s := by rw [hq3 j hji, o5 j hj] at hm; exact hm
              rcases Nat.lt_or_gt_of_ne hji with h' | h'
              · have : (j + 1) * s ≤ i * s := Nat.mul_le_mul_right _ h'
                rw [Nat.add_mul, Nat.one_mul] at this
                omega
              · have : (i + 1) * s ≤ j * s := Nat.mul_le_mul_right _ h'
                rw [Nat.add_mul, Nat.one_mul] at this
                omega
            rw [if_neg hout]
            have hqe := hq3 j hji
            simp only [hqe] at hm ⊢
            obtain ⟨a1, a2⟩ := hrep j m hj hm
            rw [Array.getD_eq_getD_getElem?] at a1 a2
            refine ⟨?_, ?_⟩
            · simpa using a1.ext e
            · simpa using a2
      have hver : r.cond = [ver = q.len] → ver = q.len := fun h => by rw [h] at hc; exact hc.1
      have hi' : ver = q.len → i < q.len := fun h => by obtain ⟨_, _, _, h1, _⟩ := hrp; omega
      have hslen : ver = q.len → (q.get i).cells.length = s := fun h => by
        obtain ⟨_, _, _, _, _, _, o5, _⟩ := hobj
        exact o5 i (hi' h)
      split at hr
      · next hbeq =>
        have hss := Nat.eq_of_beq_eq_true hbeq
        split at hr
        · next q' hq =>
          cases hr
          have hv := hver rfl
          obtain ⟨q1, q2, q3⟩ := seqSet_spec hq (hi' hv)
          refine key2 q' (fun fz hf => seqSet_fz hq hf) hv (by omega) q1 ?_ q3
          rw [q2]
          have h1 := hslen hv
          simp [seg]
          omega
        · cases hr
      · split at hr
        · next ys hl =>
          obtain ⟨rfl, hfit⟩ := lay_spec hl
          split at hr
          · next q' hq =>
            cases hr
            have hv := hver rfl
            obtain ⟨q1, q2, q3⟩ := seqSet_spec hq (hi' hv)
            have h1 := hslen hv
            refine key2 q' (fun fz hf => seqSet_fz hq hf) hv (by omega) q1 ?_ q3
            rw [q2]
            rfl
          · cases hr
        · cases hr
    · cases hr
  · cases hr

end
end Go.Ev

/- New variables, aggregates, new slices. -/
namespace Go.Ev
variable [Globs]

section
variable {P : Program}

theorem zeroCells_spec {t : TypeId} {z : List AV} (h : zeroCellsA P t = some z) : ∃ v, (∀ w, (zeroValue t).run P w = .ok v w) ∧ v.cells.size = z.length ∧ ∀ i (hi : i < z.length), ∃ u, v.cells.getD i undef = u ∧ z[i] = .v u ∧ okV u := by
  unfold zeroCellsA at h
  split at h
  · next zv hz =>
    split at h
    · next hall =>
      cases h
      cases hi : P.info? t with
      | none => rw [hi] at hz; cases hz
      | some info =>
        rw [hi] at hz
        have hz' : info.zero = some zv := hz
        refine ⟨zv, fun w => by simp [zeroValue, typeInfo, hi, hz'], by simp, fun i hi2 => ?_⟩
        have hi3 : i < zv.cells.size := by simpa using hi2
        refine ⟨zv.cells[i], ?_, by simp, ?_⟩
        · rw [Array.getD_eq_getD_getElem?, Array.getElem?_eq_getElem hi3]; rfl
        · exact okV_of_scalar (List.all_eq_true.1 hall zv.cells[i] (by simp))
    · cases h
  · cases h

theorem new_cells {S : St} {key : Nat} {T : TypeId} {v : Value} {cs : List AV} {hp : List (Nat × AObj)} (hwf : S.wf) (hh : HeapOK S hp) (hkey : ¬ S.used key) (hs : v.cells.size = cs.length) (hr : ∀ i (hi : i < cs.length), Rep S (v.cells.getD i undef) cs[i]) :
    Post S key (applyUpd hp [(key, some (.cells T cs))]) (.ptr key 0) (.pointer (some ⟨S.w.heap.size, 0, none⟩)) (S.new key false S.w v.cells T 0 0) := by
  have hg := Grows.refl S.w
  have e := new_ext (row := false) (arr := v.cells) (T := T) (n := 0) (sz := 0) hwf hg hkey
  refine ⟨new_wf hwf hg hkey, e, fun k h => h.elim .inr .inl, .ptr _ _ _ (.inl rfl) (fun _ => ⟨upd_self _ _ _, _, upd_self _ _ _, rfl⟩) ⟨_, rfl⟩, new_heap hwf hg hkey hh ⟨upd_self _ _ _, _, v.cells, upd_self _ _ _, upd_self _ _ _, alloc_new _ _, hs, fun i hi => (hr i hi).ext e⟩⟩

theorem run_newVar (t : TypeId) (v : Value) (w : World) : (newVar t v).run P w = .ok ⟨w.heap.size, 0, none⟩ (w.alloc (.cells v.cells t)) := by
  simp [newVar, newRow]

/-- parts laid into an aggregate -/
theorem fillA_run {S : St} {place : Nat → Option (Nat × Nat)} {vs : List (Nat × Value)} {xs : List (Nat × AV)} (hvx : vs.length = xs.length) (hr : ∀ i (h1 : i < vs.length) (h2 : i < xs.length), vs[i].1 = xs[i].1 ∧ Rep S vs[i].2 xs[i].2) :
    ∀ (arr : Array Value) (cs cs' : List AV), fillA place cs xs = some cs' → arr.size = cs.length → (∀ i (hi : i < cs.length), Rep S (arr.getD i undef) cs[i] ∧ okV (arr.getD i undef)) →
      ∃ arr', Instr.fill place arr vs = some arr' ∧ arr'.size = cs'.length ∧ cs'.length = cs.length ∧ ∀ i (hi : i < cs'.length), Rep S (arr'.getD i undef) cs'[i] ∧ okV (arr'.getD i undef) := by
  induction xs generalizing vs with
  | nil =>
    intro arr cs cs' h hs hrep
    cases vs with
    | cons _ _ => simp at hvx
    | nil => cases h; exact ⟨arr, rfl, hs, rfl, hrep⟩
  | cons x xs ih =>
    intro arr cs cs' h hs hrep
    cases vs with
    | nil => simp at hvx
    | cons v vs =>
    obtain ⟨j, y⟩ := x
    obtain ⟨j', u⟩ := v
    obtain ⟨rfl, hy⟩ := hr 0 (by simp) (by simp)
    replace hy : Rep S u y := hy
    simp only [fillA] at h
    split at h
    · cases h
    · next off size hpl =>
      split at h
      · next ys hst =>
        split at h
        · next cs2 hl =>
          obtain ⟨rfl, hj, hlen⟩ := stored_spec hst
          obtain ⟨rfl, hfit⟩ := lay_spec hl
          obtain ⟨c1, c2, c3⟩ := rep_cells hy hj
          have hpl' : place j' = some (off, size) := hpl
          have hfit' : off + u.cells.toList.length ≤ arr.toList.length := by simp; omega
          have hbad : ¬ (u.cells.size ≠ size ∨ off + u.cells.size > arr.size) := by
            have := hfit'
            simp at this
            omega
          -- what fill lays is the list with the other laid over it
          have hfold : (u.cells.zipIdx.foldl (fun cs (p : Value × Nat) => cs.setIfInBounds (off + p.2) p.1) arr) = (seg arr.toList off u.cells.toList).toArray := by
            have gen : ∀ (l : List Value) (n : Nat) (a : Array Value), off + n + l.length ≤ a.size → ((l.zipIdx n).foldl (fun cs (p : Value × Nat) => cs.setIfInBounds (off + p.2) p.1) a) = (seg a.toList (off + n) l).toArray := by
              intro l
              induction l with
              | nil => intro n a _; simp [seg]
              | cons w l ih =>
                intro n a hle
                simp only [List.length_cons] at hle
                rw [List.zipIdx_cons, List.foldl_cons, ih (n + 1) _ (by simp; omega)]
                congr 1
                apply List.ext_getElem?
                intro p
                rw [← Nat.add_assoc, seg_get _ _ _ (by simp; omega), seg_get _ _ _ (by simp; omega)]
                simp only [List.length_cons, Array.toList_setIfInBounds]
                by_cases hp : p = off + n
                · subst hp
                  rw [if_neg (by omega), if_pos (by omega), List.getElem?_set_self (by simp; omega), Nat.sub_self]
                  rfl
                · by_cases hp2 : off + n + 1 ≤ p ∧ p < off + n + 1 + l.length
                  · rw [if_pos hp2, if_pos (by omega)]
                    rw [show p - (off + n) = (p - (off + n + 1)) + 1 by omega, List.getElem?_cons_succ]
                  · rw [if_neg hp2, if_neg (by omega), List.getElem?_set_ne (by omega)]
            have := gen u.cells.toList 0 arr (by simp at hfit' ⊢; omega)
            simp only [Nat.add_zero] at this
            rw [← this, ← Array.foldl_toList, Array.toList_zipIdx]
          obtain ⟨arr', h1, h2, h3, h4⟩ := ih (vs := vs) (by simpa using hvx) (fun i h1 h2 => hr (i + 1) (by simp; omega) (by simp; omega)) (seg arr.toList off u.cells.toList).toArray (seg cs off y.cells) cs' h
            (by rw [List.size_toArray, seg_length _ _ _ hfit', seg_length _ _ _ hfit]; simpa using hs) (fun i hi => by
              rw [seg_length _ _ _ hfit] at hi
              have hl2 : u.cells.toList.length = y.cells.length := by simp; omega
              have hg := seg_get cs off y.cells hfit i
              have hget : (seg cs off y.cells)[i]'(by rw [seg_length _ _ _ hfit]; exact hi) = (if h : off ≤ i ∧ i < off + y.cells.length then y.cells[i - off]'(by omega) else cs[i]) := by
                apply Option.some.inj
                rw [← List.getElem?_eq_getElem, hg]
                split
                · exact List.getElem?_eq_getElem _
                · exact List.getElem?_eq_getElem _
              rw [hget, getD_of_get rfl, seg_get _ _ _ hfit', hl2]
              by_cases h : off ≤ i ∧ i < off + y.cells.length
              · rw [dif_pos h, if_pos h]
                have a1 := c2 (i - off) (by omega)
                have a2 := c3 (i - off) (by omega)
                rw [Array.getD_eq_getD_getElem?] at a1 a2
                refine ⟨?_, ?_⟩
                · simpa using a1
                · simpa using a2
              · rw [dif_neg h, if_neg h]
                obtain ⟨a1, a2⟩ := hrep i hi
                rw [Array.getD_eq_getD_getElem?] at a1 a2
                refine ⟨?_, ?_⟩
                · simpa using a1
                · simpa using a2)
          refine ⟨arr', ?_, h2, by rw [h3, seg_length _ _ _ hfit], h4⟩
          show (match place j' with | none => none | some (off, size) => _) = _
          rw [hpl']
          simp only
          have hbad' : (decide (u.cells.size ≠ size) || decide (off + u.cells.size > arr.size)) = false := by
            rw [Bool.or_eq_false_iff]
            constructor
            · exact decide_eq_false (fun h => hbad (.inl h))
            · exact decide_eq_false (fun h => hbad (.inr h))
          rw [hbad', if_neg (by simp), hfold]
          exact h1
        · cases h
      · cases h

theorem parts_map {α β : Type} (f : α → β) (parts : Array (Nat × α)) : (parts.map fun (i, x) => (i, f x)).toList = parts.toList.map fun p => (p.1, f p.2) := by
  rw [Array.toList_map]

theorem parts_rep {S : St} {n : Nat} {fr : List (Nat × AV)} {a : Act} (h : FrOK S n fr a.tmps) (parts : List (Nat × Operand)) :
    ∀ i (h1 : i < (parts.map fun p => (p.1, a.eval p.2)).length) (h2 : i < (parts.map fun p => (p.1, evalA fr p.2)).length),
      (parts.map fun p => (p.1, a.eval p.2))[i].1 = (parts.map fun p => (p.1, evalA fr p.2))[i].1 ∧ Rep S (parts.map fun p => (p.1, a.eval p.2))[i].2 (parts.map fun p => (p.1, evalA fr p.2))[i].2 := by
  intro i h1 h2
  simp only [List.getElem_map]
  exact ⟨trivial, rep_eval h _⟩

theorem places_run : ∀ (fs : List Field) (l : List (Nat × Nat)), placesA P fs = some l → ∀ w, (fs.mapM fun f => do pure (f.offset, ← sizeOf f.type) : Sem (List (Nat × Nat))).run P w = .ok l w
  | [], l, h, w => by cases h; simp
  | f :: r, l, h, w => by
    unfold placesA at h
    split at h
    · next s l' hs hl =>
      cases h
      have := places_run r l' hl w
      simp only [List.mapM_cons, Sem.run_bind, run_sizeOf hs, Result.andThen_ok, Sem.run_pure, this]
    · cases h

/-- a struct's or an array's literal -/
theorem build_run {S : St} {n : Nat} {fr : List (Nat × AV)} {a : Act} {t : TypeId} {parts : Array (Nat × Operand)} {z cs : List AV} (h : FrOK S n fr a.tmps) (hz : zeroCellsA P t = some z)
    (hb : buildA P t z (parts.toList.map fun p => (p.1, evalA fr p.2)) = some cs) (w : World) : ∃ v, (Instr.build t (parts.map fun (i, x) => (i, a.eval x))).run P w = .ok v w ∧ Rep S v (.agg cs) := by
  obtain ⟨zv, hzr, hzs, hzc⟩ := zeroCells_spec hz
  have p2 := parts_rep h parts.toList
  have p1 : (parts.toList.map fun p => (p.1, a.eval p.2)).length = (parts.toList.map fun p => (p.1, evalA fr p.2)).length := by simp
  have hzrep : ∀ i (hi : i < z.length), Rep S (zv.cells.getD i undef) z[i] ∧ okV (zv.cells.getD i undef) := fun i hi => by
    obtain ⟨u, h1, h2, h3⟩ := hzc i hi
    rw [h1, h2]
    exact ⟨.v h3, h3⟩
  unfold buildA at hb
  split at hb
  · next fields ht =>
    split at hb
    · next l hl =>
      obtain ⟨arr', h1, h2, _, h4⟩ := fillA_run p1 p2 zv.cells z cs hb hzs hzrep
      refine ⟨.agg arr', ?_, .agg _ _ h2 fun i hi => (h4 i hi).1⟩
      have hm : (fields.mapM fun f => do pure (f.offset, ← sizeOf f.type) : Sem (Array (Nat × Nat))).run P w = .ok l.toArray w := by
        rw [Array.mapM_eq_mapM_toList, Sem.run_map, places_run fields.toList l hl w]
        rfl
      simp only [Instr.build, Sem.run_bind, hzr, Result.andThen_ok, run_underlying ht]
      rw [hm]
      simp only [Result.andThen_ok, parts_map]
      have he : (fun (x : Nat) => (l.toArray[x]? : Option (Nat × Nat))) = fun (i : Nat) => l[i]? := by funext i; simp
      rw [he, h1]
      rfl
    · cases hb
  · next len e ht =>
    split at hb
    · next s hs =>
      obtain ⟨arr', h1, h2, _, h4⟩ := fillA_run p1 p2 zv.cells z cs hb hzs hzrep
      refine ⟨.agg arr', ?_, .agg _ _ h2 fun i hi => (h4 i hi).1⟩
      simp only [Instr.build, Sem.run_bind, hzr, Result.andThen_ok, run_underlying ht, run_sizeOf hs, parts_map, h1, Sem.run_pure]
    · cases hb
  · cases hb

theorem intsOf_spec {k : IntKind} : ∀ {l : List AV} {ns : List Int}, intsOf k l = some ns → ns.length = l.length ∧ ∀ i (h : i < l.length), l[i] = .v (.int k (ns.getD i 0))
  | [], ns, h => by cases h; exact ⟨rfl, fun i h => absurd h (by simp)⟩
  | x :: r, ns, h => by
    unfold intsOf at h
    split at h
    · next heq => cases heq
    · next k' n r heq =>
      cases heq
      split at h
      · next l hk hl =>
        cases h
        have := kindEq_eq hk
        subst this
        obtain ⟨h1, h2⟩ := intsOf_spec hl
        refine ⟨by simp [h1], fun i hi => ?_⟩
        cases i with
        | zero => rfl
        | succ i => simpa using h2 i (by simpa using hi)
      · cases h
    · cases h

theorem strsOf_spec : ∀ {l : List AV} {ns : List ByteArray}, strsOf l = some ns → ns.length = l.length ∧ ∀ i (h : i < l.length), l[i] = .v (.string (ns.getD i ByteArray.empty))
  | [], ns, h => by cases h; exact ⟨rfl, fun i h => absurd h (by simp)⟩
  | x :: r, ns, h => by
    unfold strsOf at h
    split at h
    · next heq => cases heq
    · next s r heq =>
      cases heq
      split at h
      · next l hl =>
        cases h
        obtain ⟨h1, h2⟩ := strsOf_spec hl
        refine ⟨by simp [h1], fun i hi => ?_⟩
        cases i with
        | zero => rfl
        | succ i => simpa using h2 i (by simpa using hi)
      · cases h
    · cases h

theorem seqOf_spec {d : Option TypeDesc} {l : List AV} {q : Seq AV} (h : seqOf d l = some q) : q.len = l.length ∧ ∀ i (hi : i < l.length), q.get i = l[i] := by
  unfold seqOf at h
  split at h
  · split at h
    · next ns hn =>
      cases h
      obtain ⟨h1, h2⟩ := intsOf_spec hn
      exact ⟨h1, fun i hi => (h2 i hi).symm⟩
    · cases h
  · split at h
    · next ns hn =>
      cases h
      obtain ⟨h1, h2⟩ := strsOf_spec hn
      exact ⟨h1, fun i hi => (h2 i hi).symm⟩
    · cases h
  · cases h
    exact ⟨rfl, fun i hi => by simp [Seq.get, hi]⟩

theorem chunk_length (sz : Nat) : ∀ (n : Nat) (l : List AV), (chunk sz n l).length = n
  | 0, _ => rfl
  | n + 1, l => by simp [chunk, chunk_length sz n]

theorem chunk_cells {sz : Nat} (hsz : 0 < sz) : ∀ (n : Nat) (l : List AV), n * sz ≤ l.length → (∀ x ∈ l, ∀ cs, x ≠ .agg cs) → ∀ i (hi : i < (chunk sz n l).length), (chunk sz n l)[i].cells = (l.drop (i * sz)).take sz
  | 0, l, _, _, i, hi => absurd hi (by simp [chunk])
  | n + 1, l, hl, hx, i, hi => by
    rw [Nat.add_mul, Nat.one_mul] at hl
    cases i with
    | zero =>
      simp only [chunk, List.getElem_cons_zero, Nat.zero_mul, List.drop_zero]
      split
      · cases l with
        | nil => simp at hl
        | cons y ys =>
          simp only [List.headD_cons, List.take_succ_cons, List.take_zero]
          cases y with
          | agg cs => exact absurd rfl (hx _ (by simp) cs)
          | _ => rfl
      · rfl
    | succ i =>
      simp only [chunk, List.getElem_cons_succ]
      rw [chunk_cells hsz n (l.drop sz) (by simp; omega) (fun x h => hx x (List.mem_of_mem_drop h)) i (by simpa [chunk] using hi), List.drop_drop]
      congr 2
      rw [Nat.add_mul, Nat.one_mul, Nat.add_comm]

/-- a slice over cells that are laid together -/
theorem chunk_rep {S : St} {sz n : Nat} {arr : Array Value} {cells : List AV} {d : Option TypeDesc} {q : Seq AV} (hsz : 0 < sz) (hl : cells.length = n * sz) (hr : ∀ i (hi : i < cells.length), Rep S (arr.getD i undef) cells[i] ∧ okV (arr.getD i undef)) (hq : seqOf d (chunk sz n cells) = some q) :
    q.len = n ∧ (∀ i, i < n → (q.get i).cells.length = sz) ∧ ∀ i j, i < n → ∀ h : j < (q.get i).cells.length, Rep S (arr.getD (i * sz + j) undef) ((q.get i).cells[j]) ∧ okV (arr.getD (i * sz + j) undef) ∧ (q.get i).cells[j] ∈ cells := by
  have hx : ∀ x ∈ cells, ∀ cs, x ≠ .agg cs := by
    intro x hx cs he
    obtain ⟨i, hi, rfl⟩ := List.getElem_of_mem hx
    obtain ⟨h1, h2⟩ := hr i hi
    rw [he] at h1
    obtain ⟨a, ha, _⟩ := rep_agg h1
    rw [ha] at h2
    exact h2
  obtain ⟨h1, h2⟩ := seqOf_spec hq
  rw [chunk_length] at h1
  have hc : ∀ i, i < n → (q.get i).cells = (cells.drop (i * sz)).take sz := fun i hi => by
    rw [h2 i (by rw [chunk_length]; exact hi)]
    exact chunk_cells hsz n cells (by omega) hx i (by rw [chunk_length]; exact hi)
  have hb : ∀ i, i < n → i * sz + sz ≤ cells.length := fun i hi => by
    have : (i + 1) * sz ≤ n * sz := Nat.mul_le_mul_right _ hi
    rw [Nat.add_mul, Nat.one_mul] at this
    omega
  refine ⟨h1, fun i hi => ?_, fun i j hi hj => ?_⟩
  · rw [hc i hi]
    have := hb i hi
    simp
    omega
  · have he := hc i hi
    have hj2 : j < sz := by rw [he] at hj; simp at hj; omega
    have := hb i hi
    have hlt : i * sz + j < cells.length := by omega
    have hcell : (q.get i).cells[j] = cells[i * sz + j] := by simp [he]
    rw [hcell]
    exact ⟨(hr _ hlt).1, (hr _ hlt).2, List.getElem_mem _⟩

theorem getElem!_of {l : Array Value} {i : Nat} (h : i < l.size) : l[i]! = l.getD i undef := by
  rw [Array.getD_eq_getD_getElem?, Array.getElem?_eq_getElem h]
  simp [h]

/-- zeros laid one behind the other -/
theorem zeros_rep {S : St} {z : List AV} {zv : Value} {sz : Nat} (hsz : 0 < sz) (hz : z.length = sz) (hzs : zv.cells.size = z.length) (hzc : ∀ i (hi : i < z.length), ∃ u, zv.cells.getD i undef = u ∧ z[i] = .v u ∧ okV u) (n : Nat) :
    (madeCells zv.cells (n * sz)).size = ((List.replicate n z).flatten).length ∧ ((List.replicate n z).flatten).length = n * sz ∧
    ∀ i (hi : i < ((List.replicate n z).flatten).length), Rep S ((madeCells zv.cells (n * sz)).getD i undef) ((List.replicate n z).flatten)[i] ∧ okV ((madeCells zv.cells (n * sz)).getD i undef) := by
  have hlen : ((List.replicate n z).flatten).length = n * sz := by simp [hz]
  have hget : ∀ (n i : Nat), i < n * sz → ((List.replicate n z).flatten)[i]? = z[i % sz]? := by
    intro n
    induction n with
    | zero => intro i hi; simp at hi
    | succ n ih =>
      intro i hi
      rw [List.replicate_succ, List.flatten_cons, List.getElem?_append]
      by_cases h : i < z.length
      · rw [if_pos h, Nat.mod_eq_of_lt (by omega)]
      · rw [if_neg h, ih _ (by rw [Nat.add_mul] at hi; omega), hz, ← Nat.mod_eq_sub_mod (by omega)]
  refine ⟨by rw [size_madeCells, hlen], hlen, fun i hi => ?_⟩
  have hi2 : i < n * sz := by omega
  have hm : i % sz < z.length := by rw [hz]; exact Nat.mod_lt _ hsz
  obtain ⟨u, h1, h2, h3⟩ := hzc (i % sz) hm
  have e1 : ((List.replicate n z).flatten)[i] = .v u := by
    apply Option.some.inj
    rw [← List.getElem?_eq_getElem, hget n i hi2, List.getElem?_eq_getElem hm, h2]
  have e2 : (madeCells zv.cells (n * sz)).getD i undef = u := by
    rw [Array.getD_eq_getD_getElem?, madeCells, Array.getElem?_map, Array.getElem?_range, if_pos hi2]
    simp only [Option.map_some, Option.getD_some]
    rw [hzs, hz, getElem!_of (by rw [hzs]; exact hm), h1]
  rw [e1, e2]
  exact ⟨.v h3, h3⟩

/-- a new own row -/
theorem new_row {S : St} {key : Nat} {w : World} {arr : Array Value} {T : TypeId} {sz n cap : Nat} {q : Seq AV} {tt : Bool} {hp : List (Nat × AObj)} (hwf : S.wf) (hg : Grows S.w w) (hh : HeapOK S hp) (hkey : ¬ S.used key) (hsz : 0 < sz) (hn : q.len = n) (hcap : n ≤ cap) (hct : tt = true → cap = n)
    (harr : cap * sz ≤ arr.size) (hlen : ∀ i, i < n → (q.get i).cells.length = sz)
    (hr : ∀ i j, i < n → ∀ h : j < (q.get i).cells.length, Rep S (arr.getD (i * sz + j) undef) ((q.get i).cells[j]) ∧ okV (arr.getD (i * sz + j) undef)) :
    Post S key (applyUpd hp [(key, some (.row T sz q 0))]) (.row key 0 n n tt) (.slice (some ⟨w.heap.size, 0, none⟩) n cap) (S.new key true w arr T n sz) := by
  have e := new_ext (row := true) (arr := arr) (T := T) (n := n) (sz := sz) hwf hg hkey
  have hcur : (S.new key true w arr T n sz).cur key = some w.heap.size := upd_self _ _ _
  have hlen' : (S.new key true w arr T n sz).len key = n := upd_self _ _ _
  have hsz' : (S.new key true w arr T n sz).sz key = sz := upd_self _ _ _
  have hown : (S.new key true w arr T n sz).own w.heap.size = some (some key) := upd_self _ _ _
  have hheap : (S.new key true w arr T n sz).w.heap[w.heap.size]? = some (.cells arr T (0, 0)) := alloc_new _ _
  have hns : n * sz ≤ arr.size := Nat.le_trans (Nat.mul_le_mul_right _ hcap) harr
  refine ⟨new_wf hwf hg hkey, e, fun k h => h.elim .inr .inl, .row _ _ _ _ _ _ (.inl rfl) (fun _ => ⟨upd_self _ _ _, _, _, rfl, by omega, by rw [hlen']; omega, hcap, hct, fun h0 => ⟨_, rfl, fun _ => ⟨hown, fun _ => by rw [Nat.zero_mul], fun j hj => ?_⟩⟩, fun _ => ?_⟩) ⟨_, _, rfl, (fun h => by cases h)⟩,
    new_heap hwf hg hkey hh ⟨upd_self _ _ _, hsz', hsz, by rw [hlen', hn], upd_self _ _ _, Nat.zero_le _, fun i hi => hlen i (by omega), ?_⟩⟩
  · rw [hsz'] at hj
    rw [addr_add, Nat.zero_mul]
    unfold curCell
    rw [hcur]
    simp only [cell_arr hheap]
    exact ⟨trivial, by simp; omega⟩
  · rw [hcur]
    refine ⟨fun _ => by rw [Nat.zero_mul], ?_⟩
    rw [blockSize_of hheap, hsz', Nat.zero_add]
    exact harr
  · rw [hcur]
    exact ⟨hown, arr, ⟨_, hheap, fzOK_zero _ _⟩, by rw [hn]; exact hns, fun i j hi hj => ⟨(hr i j (by omega) hj).1.ext e, (hr i j (by omega) hj).2⟩⟩

/-- a new row, by a pointer to its first element -/
theorem new_arr {S : St} {key : Nat} {w : World} {arr : Array Value} {T : TypeId} {sz n : Nat} {q : Seq AV} {hp : List (Nat × AObj)} (hwf : S.wf) (hg : Grows S.w w) (hh : HeapOK S hp) (hkey : ¬ S.used key) (hsz : 0 < sz) (hn : q.len = n) (h0 : 0 < n)
    (harr : n * sz ≤ arr.size) (hlen : ∀ i, i < n → (q.get i).cells.length = sz)
    (hr : ∀ i j, i < n → ∀ h : j < (q.get i).cells.length, Rep S (arr.getD (i * sz + j) undef) ((q.get i).cells[j]) ∧ okV (arr.getD (i * sz + j) undef)) :
    Post S key (applyUpd hp [(key, some (.row T sz q 0))]) (.rp key 0 n 0) (.pointer (some ⟨w.heap.size, 0, none⟩)) (S.new key true w arr T n sz) := by
  have p := new_row (tt := true) (T := T) (cap := n) hwf hg hh hkey hsz hn (Nat.le_refl n) (fun _ => rfl) harr hlen hr
  have hcur : (S.new key true w arr T n sz).cur key = some w.heap.size := upd_self _ _ _
  have hlen' : (S.new key true w arr T n sz).len key = n := upd_self _ _ _
  have hsz' : (S.new key true w arr T n sz).sz key = sz := upd_self _ _ _
  have hown : (S.new key true w arr T n sz).own w.heap.size = some (some key) := upd_self _ _ _
  have hheap : (S.new key true w arr T n sz).w.heap[w.heap.size]? = some (.cells arr T (0, 0)) := alloc_new _ _
  have h1 : sz ≤ n * sz := by
    have := Nat.mul_le_mul_right sz h0
    omega
  refine ⟨p.wf, p.ext, p.used, .rp _ _ _ _ _ (.inl rfl) (fun _ => ⟨upd_self _ _ _, _, rfl, h0, by rw [hlen']; omega, fun _ => ⟨hown, fun _ => by simp, fun j hj => ?_⟩, fun _ => ⟨_, hcur, by simp⟩⟩) ⟨_, rfl⟩, p.hp⟩
  rw [hsz'] at hj
  rw [addr_add, Nat.zero_mul]
  unfold curCell
  rw [hcur]
  simp only [cell_arr hheap, Nat.zero_add, Nat.add_zero]
  exact ⟨trivial, by simp; omega⟩

/-- plain cells have no own keys -/
theorem plain1_rep {S : St} {v : Value} {x : AV} (h : Rep S v x) (hp : plain1 x = true) : RepI S.w S.free v x := by
  cases h with
  | i _ _ h => exact h
  | junk => cases hp
  | agg => cases hp
  | tup => cases hp
  | row => cases hp
  | rp => cases hp
  | ptr => cases hp
  | mpk => cases hp
  | fnv => cases hp
  | ifc => cases hp

theorem repI_at {S : St} {w : World} (hg : Grows S.w w) {v : Value} {x : AV} (h : RepI S.w S.free v x) : RepI w S.free v x :=
  h.ext fun b hb hU => ⟨hg.block b hb, hU⟩

/-- a new block of which nothing is said but what it holds -/
theorem new_sl {S : St} {w : World} {arr : Array Value} {T : TypeId} {sz n cap : Nat} {q : Seq AV} {tt : Bool} {fr : Nat × Nat} (hwf : S.wf) (hg : Grows S.w w) (hsz : 0 < sz) (hn : q.len = n) (hcap : n ≤ cap) (hct : tt = true → cap = n)
    (harr : n * sz ≤ arr.size) (hlen : ∀ i, i < n → (q.get i).cells.length = sz)
    (hr : ∀ i j, i < n → ∀ h : j < (q.get i).cells.length, RepI S.w S.free (arr.getD (i * sz + j) undef) ((q.get i).cells[j]) ∧ okV (arr.getD (i * sz + j) undef)) :
    Rep (S.at (w.alloc (.cells arr T fr))) (.slice (some ⟨w.heap.size, 0, none⟩) n cap) (.sl sz q tt) := by
  have hg2 : Grows S.w (w.alloc (.cells arr T fr)) := hg.trans (alloc_grows _ _)
  refine .i _ _ (.sl _ _ _ _ _ _ (fun i j => arr.getD (i * sz + j) undef) hn.symm (by omega) (fun h => by rw [hn]; exact hct h) hsz (fun _ => ?_) (fun i hi => hlen i (by omega)) (fun i j hi hj => ⟨?_, (hr i j (by omega) (by rw [hlen i (by omega)]; exact hj)).2⟩) (fun i j hi hj => ?_))
  · show S.own w.heap.size = none
    cases ho : S.own w.heap.size with
    | none => rfl
    | some o => have := hwf.bound _ _ ho; have := hg.size; omega
  · have hlt : i * sz + j < arr.size := by
      have : (i + 1) * sz ≤ n * sz := Nat.mul_le_mul_right _ (by omega)
      rw [Nat.add_mul, Nat.one_mul] at this
      omega
    show (w.alloc _).cell? _ = _
    rw [addr_add, Nat.zero_add, cell_arr (alloc_new w _), Array.getElem?_eq_getElem hlt, Array.getD_eq_getD_getElem?, Array.getElem?_eq_getElem hlt]
    rfl
  · exact repI_at hg2 (hr i j (by omega) hj).1

theorem buildSlice_run {S : St} {key : Nat} {hint : Option Hint} {n : Nat} {fr : List (Nat × AV)} {a : Act} {t : TypeId} {len : Nat} {parts : Array (Nat × Operand)} {hp : List (Nat × AObj)} {r : R} (hwf : S.wf) (hh : HeapOK S hp) (hkey : ¬ S.used key) (h : FrOK S n fr a.tmps)
    (hb : buildSliceA P key hint t len (parts.toList.map fun p => (p.1, evalA fr p.2)) = some r) : ∃ v S', (Instr.buildSlice t len (parts.map fun (i, x) => (i, a.eval x))).run P S.w = .ok v S'.w ∧ Post S key (applyUpd hp r.upd) r.val v S' := by
  unfold buildSliceA at hb
  split at hb
  · cases hb
  next e he =>
  have ht := elemOf_spec he
  split at hb
  case h_2 => cases hb
  next sz z hs hz =>
  split at hb
  case h_2 => cases hb
  next cells hchk hfill =>
  simp only [Bool.and_eq_true] at hchk
  have hle := Nat.le_of_ble_eq_true hchk.1
  have hzl := Nat.eq_of_beq_eq_true hchk.2
  split at hb
  case h_2 => cases hb
  next q hq =>
  obtain ⟨zv, hzr, hzs, hzc⟩ := zeroCells_spec hz
  obtain ⟨z1, z2, z3⟩ := zeros_rep (S := S) (Nat.succ_pos sz) hzl hzs hzc len
  have p2 := parts_rep h parts.toList
  have p1 : (parts.toList.map fun p => (p.1, a.eval p.2)).length = (parts.toList.map fun p => (p.1, evalA fr p.2)).length := by simp
  obtain ⟨arr, f1, f2, f3, f4⟩ := fillA_run p1 p2 _ _ _ hfill z1 z3
  have hcl : cells.length = len * (sz + 1) := by rw [f3, z2]
  obtain ⟨q1, q2, q3⟩ := chunk_rep (Nat.succ_pos sz) hcl f4 hq
  have hrun : (Instr.buildSlice t len (parts.map fun (i, x) => (i, a.eval x))).run P S.w = .ok (.slice (some ⟨S.w.heap.size, 0, none⟩) len len) (S.w.alloc (.cells arr e)) := by
    have hnot : ¬ (len * (sz + 1) > 2 ^ 24) := by omega
    simp only [Instr.buildSlice, Sem.run_bind, run_underlying ht, Result.andThen_ok, run_sizeOf hs, if_neg hnot, Sem.run_pure, parts_map]
    by_cases h0 : len * (sz + 1) = 0
    · have hf : Instr.fill (fun i => some (i * (sz + 1), sz + 1)) (madeCells zv.cells 0) (parts.toList.map fun p => (p.1, a.eval p.2)) = some arr := by rw [h0] at f1; exact f1
      have he0 : madeCells zv.cells 0 = (#[] : Array Value) := by simp [madeCells]
      rw [he0] at hf
      have he1 : (Array.range 0).map ((#[] : Array Value)[· % (#[] : Array Value).size]!) = #[] := by simp
      simp only [h0, if_true, Sem.run_bind, Sem.run_pure, Result.andThen_ok, he1, Nat.succ_eq_add_one, hf]
      simp [newRow]
    · have hf : Instr.fill (fun i => some (i * (sz + 1), sz + 1)) ((Array.range (len * (sz + 1))).map (zv.cells[· % zv.cells.size]!)) (parts.toList.map fun p => (p.1, a.eval p.2)) = some arr := f1
      simp only [h0, if_false, Sem.run_bind, hzr, Result.andThen_ok, Sem.run_pure, hf, newRow, run_newObj]
      rfl
  split at hb
  · cases hb
    refine ⟨.slice (some ⟨S.w.heap.size, 0, none⟩) len len, S.new key true S.w arr e len (sz + 1), hrun, ?_⟩
    · have := new_row (T := e) (tt := true) hwf (Grows.refl S.w) hh hkey (Nat.succ_pos sz) q1 (Nat.le_refl len) (fun _ => rfl) (arr := arr) (by omega) q2 (fun i j hi hj => ⟨(q3 i j hi hj).1, (q3 i j hi hj).2.1⟩)
      simp only [q1]
      exact this
  · split at hb
    · next hall =>
      cases hb
      refine ⟨_, S.at (S.w.alloc (.cells arr e)), hrun, wf_at (alloc_grows _ _) hwf, ext_at (alloc_grows _ _) hwf, fun k h => .inl h, ?_, heap_at (alloc_grows _ _) hwf hh⟩
      refine new_sl hwf (Grows.refl S.w) (Nat.succ_pos sz) q1 (Nat.le_refl _) (fun _ => rfl) (by omega) q2 (fun i j hi hj => ⟨plain1_rep (q3 i j hi hj).1 (List.all_eq_true.1 hall _ (q3 i j hi hj).2.2), (q3 i j hi hj).2.1⟩)
    · cases hb
      refine ⟨.slice (some ⟨S.w.heap.size, 0, none⟩) len len, S.new key true S.w arr e len (sz + 1), hrun, ?_⟩
      have := new_row (T := e) (tt := true) hwf (Grows.refl S.w) hh hkey (Nat.succ_pos sz) q1 (Nat.le_refl len) (fun _ => rfl) (arr := arr) (by omega) q2 (fun i j hi hj => ⟨(q3 i j hi hj).1, (q3 i j hi hj).2.1⟩)
      simp only [q1]
      exact this

theorem seqZero_spec {d : Option TypeDesc} {n : Nat} {z : AV} {q : Seq AV} (h : seqZero d n z = some q) : q.len = n ∧ ∀ i, i < n → q.get i = z := by
  unfold seqZero at h
  split at h
  · split at h
    · next hk =>
      cases h
      have := kindEq_eq hk
      subst this
      exact ⟨by simp [Seq.len], fun i hi => by simp [Seq.get, hi]⟩
    · cases h
  · cases h
    exact ⟨by simp [Seq.len], fun i hi => by simp [Seq.get, hi]⟩
  · cases h
  · cases h
  · cases h
    exact ⟨by simp [Seq.len], fun i hi => by simp [Seq.get, hi]⟩

theorem bytesA_spec {t : TypeId} {b sz : Nat} (h : bytesA P t = some b) (hs : sizeA P t = some sz) : ∃ i, P.info? t = some i ∧ i.bytes = b ∧ i.size = sz := by
  unfold bytesA at h
  unfold sizeA at hs
  cases hi : P.info? t with
  | none => rw [hi] at h; cases h
  | some i =>
    rw [hi] at h hs
    cases h
    cases hs
    exact ⟨i, rfl, rfl, rfl⟩

theorem zero_of {t : TypeId} {z : List AV} (h : zeroCellsA P t = some z) : ∃ i v, P.info? t = some i ∧ i.zero = some v ∧ (∀ w, (zeroValue t).run P w = .ok v w) := by
  unfold zeroCellsA at h
  split at h
  · next zv hz =>
    cases hi : P.info? t with
    | none => rw [hi] at hz; cases hz
    | some info =>
      rw [hi] at hz
      exact ⟨info, zv, rfl, hz, fun w => by simp [zeroValue, typeInfo, hi, show info.zero = some zv from hz]⟩
  · cases h

theorem makeSlice_run {S : St} {key : Nat} {t : TypeId} {l c : AV} {vl vc : Value} {hp : List (Nat × AObj)} {r : R} (hwf : S.wf) (hh : HeapOK S hp) (hkey : ¬ S.used key) (hl : Rep S vl l) (hc : Rep S vc c)
    (hr : makeSliceA P key t l c = some r) (hcond : AllP r.cond) : ∃ v S', (Instr.makeSlice t vl vc).run P S.w = .ok v S'.w ∧ Post S key (applyUpd hp r.upd) r.val v S' := by
  unfold makeSliceA at hr
  split at hr
  case h_2 => cases hr
  next e k n k' m he =>
  obtain ⟨rfl, _⟩ := rep_v hl
  obtain ⟨rfl, _⟩ := rep_v hc
  have ht := elemOf_spec he
  split at hr
  case h_2 => cases hr
  next sz bytes z hs hb hz =>
  split at hr
  case h_2 => cases hr
  next q hbeq hq =>
  cases hr
  obtain ⟨⟨h0, h1⟩, ⟨h2, h3⟩, _⟩ := hcond
  have hzl := Nat.eq_of_beq_eq_true hbeq
  obtain ⟨i, hi, hib, his⟩ := bytesA_spec hb hs
  obtain ⟨i', zv, hi', hiz, hzr⟩ := zero_of hz
  rw [hi] at hi'
  cases hi'
  obtain ⟨zv', hzr', hzs, hzc⟩ := zeroCells_spec hz
  have hzz : zv' = zv := by
    have := (hzr' S.w).symm.trans (hzr S.w)
    injection this
  subst hzz
  have hrun := run_make (P := P) S.w t e i zv' ht hi hiz k k' n m h0 h1 (by rw [hib, Int.mul_comm]; exact h2) h3
  rw [his] at hrun
  obtain ⟨q1, q2⟩ := seqZero_spec hq
  have hcells : ∀ i, i < n.toNat → (q.get i).cells = z := fun i hi => by
    rw [q2 i hi]
    split
    · next y hy => 
      obtain ⟨u, _, hu, hok⟩ := hzc 0 (by simp)
      simp only [List.getElem_cons_zero] at hu
      subst hu
      cases u <;> first | rfl | exact hok.elim
    · rfl
  have hge : n.toNat ≤ m.toNat := by omega
  refine ⟨_, S.new key true S.w (madeCells zv'.cells (m.toNat * (sz + 1))) e n.toNat (sz + 1), hrun, ?_⟩
  refine new_row hwf (Grows.refl S.w) hh hkey (Nat.succ_pos sz) q1 hge (fun h => by cases h) (by rw [size_madeCells]; exact Nat.le_refl _) (fun i hi => by rw [hcells i hi]; exact hzl) (fun i j hi hj => ?_)
  have he := hcells i hi
  have hj2 : j < z.length := by rw [he] at hj; exact hj
  obtain ⟨u, a1, a2, a3⟩ := hzc j hj2
  have e1 : (q.get i).cells[j] = .v u := by simp [he, a2]
  have hlt : i * (sz + 1) + j < m.toNat * (sz + 1) := by
    have : (i + 1) * (sz + 1) ≤ m.toNat * (sz + 1) := Nat.mul_le_mul_right _ (by omega)
    rw [Nat.add_mul, Nat.one_mul] at this
    omega
  have hmod : (i * (sz + 1) + j) % (sz + 1) = j := by
    rw [Nat.mul_comm, Nat.mul_add_mod]
    exact Nat.mod_eq_of_lt (by omega)
  have e2 : (madeCells zv'.cells (m.toNat * (sz + 1))).getD (i * (sz + 1) + j) undef = u := by
    rw [Array.getD_eq_getD_getElem?, madeCells, Array.getElem?_map, Array.getElem?_range, if_pos hlt]
    simp only [Option.map_some, Option.getD_some]
    rw [hzs, hzl, hmod, getElem!_of (by omega), a1]
  rw [e1, e2]
  exact ⟨.v a3, a3⟩

end
end Go.Ev

/- What is appended; append itself; texts and bytes. -/
namespace Go.Ev
variable [Globs]

/-- cells that hold a list of elements -/
def CellsOf (S : St) (sz : Nat) (q : Seq AV) (arr : Array Value) : Prop :=
  arr.size = q.len * sz ∧ (∀ i, i < q.len → (q.get i).cells.length = sz) ∧
  ∀ i j, i < q.len → ∀ h : j < (q.get i).cells.length, Rep S (arr.getD (i * sz + j) undef) ((q.get i).cells[j]) ∧ okV (arr.getD (i * sz + j) undef)

/-- a slice or a text, and what it holds -/
structure Holds (P : Program) (S : St) (sz : Nat) (v : Value) (q : Seq AV) : Prop where
  len : ∀ w, (Builtin.lenOf v).run P w = .ok q.len w
  cells : ∃ arr, CellsOf S sz q arr ∧ ∀ w : World, w.heap = S.w.heap → (Builtin.firstCells sz q.len v).run P w = .ok arr w

theorem cell_heap {w w' : World} (h : w'.heap = w.heap) (a : Addr) : w'.cell? a = w.cell? a := by
  unfold World.cell?
  rw [h]

section
variable {P : Program}

theorem seqEmpty_len (d : Option TypeDesc) : (seqEmpty d).len = 0 := by
  unfold seqEmpty
  split <;> rfl

theorem holds_nil {S : St} {sz : Nat} {q : Seq AV} {a : Option Addr} {c : Nat} (hq : q.len = 0) : Holds P S sz (.slice a 0 c) q := by
  refine ⟨fun w => by rw [hq]; rfl, #[], ⟨by rw [hq]; simp, fun i hi => by omega, fun i j hi => by omega⟩, fun w _ => ?_⟩
  rw [hq]
  cases a with
  | none => rfl
  | some ad => simp [Builtin.firstCells, loadCells, loadCellsFrom]

/-- cells at an address, element by element -/
theorem holds_cells {S : St} {sz : Nat} {q : Seq AV} {ad : Addr} {c : Nat} (u : Nat → Nat → Value) (hsz : 0 < sz) (hl : ∀ i, i < q.len → (q.get i).cells.length = sz)
    (hc : ∀ i j, i < q.len → j < sz → S.w.cell? (ad.add (i * sz + j)) = some (u i j) ∧ okV (u i j)) (hr : ∀ i j, i < q.len → ∀ h : j < (q.get i).cells.length, Rep S (u i j) ((q.get i).cells[j])) : Holds P S sz (.slice (some ad) q.len c) q := by
  refine ⟨fun w => rfl, ((List.range (q.len * sz)).map fun p => u (p / sz) (p % sz)).toArray, ⟨by simp, hl, fun i j hi hj => ?_⟩, fun w hw => ?_⟩
  · have hj2 : j < sz := by rw [hl i hi] at hj; exact hj
    have hlt : i * sz + j < q.len * sz := by
      have : (i + 1) * sz ≤ q.len * sz := Nat.mul_le_mul_right _ hi
      rw [Nat.add_mul, Nat.one_mul] at this
      omega
    have e : (((List.range (q.len * sz)).map fun p => u (p / sz) (p % sz)).toArray).getD (i * sz + j) undef = u i j := by
      have h1 : (i * sz + j) / sz = i := by rw [Nat.mul_comm, Nat.mul_add_div hsz, Nat.div_eq_of_lt hj2, Nat.add_zero]
      have h2 : (i * sz + j) % sz = j := by rw [Nat.mul_comm, Nat.mul_add_mod]; exact Nat.mod_eq_of_lt hj2
      simp [Array.getD_eq_getD_getElem?, hlt, h1, h2]
    rw [e]
    exact ⟨hr i j hi hj, (hc i j hi hj2).2⟩
  · refine run_loadCells w ad (q.len * sz) (fun p => u (p / sz) (p % sz)) fun p hp => ?_
    rw [cell_heap hw]
    have h1 : p / sz < q.len := Nat.div_lt_of_lt_mul (by rw [Nat.mul_comm]; exact hp)
    have h2 : p % sz < sz := Nat.mod_lt _ hsz
    have := (hc (p / sz) (p % sz) h1 h2).1
    rwa [Nat.div_add_mod'] at this

theorem thaw_len (q : Seq AV) : q.thaw.len = q.len := by cases q <;> rfl
theorem thaw_get (q : Seq AV) (i : Nat) : q.thaw.get i = q.get i := by cases q <;> rfl

theorem plain1_cells {q : Seq AV} (h : seqPlain q = true) {i : Nat} (hi : i < q.len) {j : Nat} (hj : j < (q.get i).cells.length) : plain1 ((q.get i).cells[j]) = true := by
  cases q with
  | ints k l =>
    have : j = 0 := by simpa [Seq.get, AV.cells] using hj
    subst this
    rfl
  | frz l =>
    have : j = 0 := by simpa [Seq.get, AV.cells] using hj
    subst this
    rfl
  | strs l =>
    have : j = 0 := by simpa [Seq.get, AV.cells] using hj
    subst this
    rfl
  | avs l =>
    have hi' : i < l.length := hi
    have := List.all_eq_true.1 h l[i] (List.getElem_mem hi')
    have he : (Seq.avs l).get i = l[i] := by simp [Seq.get, hi']
    simp only [he] at hj ⊢
    exact List.all_eq_true.1 this _ (List.getElem_mem hj)
  | fn n f => cases h
theorem snapRow_spec {hp : List (Nat × AObj)} {ks : List Nat} {k off len ver : Nat} {tight : Bool} {x : AV} {c : List Prop} {kk : List Nat} (h : snapRow (restr hp ks) k off len ver tight = some (x, c, kk)) (hc : AllP c) :
    ∃ T sz q floor q', look hp k = some (.row T sz q floor) ∧ SeqPlain q ∧ x = .sl sz q' tight ∧ kk = [k] ∧ floor ≤ ver ∧ (off + len ≤ q.len → q'.len = len ∧ ∀ i, i < len → q'.get i = q.get (off + i)) := by
  unfold snapRow at h
  split at h
  · next T sz q floor hk =>
    split at h
    · next hp =>
      cases h
      refine ⟨T, sz, q, floor, q.thaw, restr_look hk, fun i hi j hj => plain1_cells hp hi hj, rfl, rfl, hc.2.1, fun _ => ⟨(thaw_len q).trans hc.1.symm, fun i _ => by rw [Nat.zero_add, thaw_get]⟩⟩
    · next off hp =>
      cases h
      refine ⟨T, sz, q, floor, (q.drop (off + 1)).take len, restr_look hk, fun i hi j hj => plain1_cells hp hi hj, rfl, rfl, hc.1, fun hle => ⟨?_, fun i hi => ?_⟩⟩
      · exact Seq.len_take _ _ (by rw [Seq.len_drop]; omega)
      · rw [Seq.get_take _ _ _ hi, Seq.get_drop]
    · split at h
      · next n f _ =>
        cases h
        refine ⟨T, sz, .fn n f, floor, .fn n f, restr_look hk, fun i hi j hj => List.all_eq_true.1 (hc.2.2.1 i hi) _ (List.getElem_mem hj), rfl, rfl, hc.2.1, fun _ => ⟨hc.1.symm, fun i _ => by rw [Nat.zero_add]⟩⟩
      · cases h
    · cases h
  · cases h

/-- what an own row's part holds -/
theorem row_holds {S : St} {T : TypeId} {k off len ver sz floor : Nat} {q q' : Seq AV} {tight : Bool} {v : Value} (ho : ObjOK S k (.row T sz q floor)) (hr : RowOK S v k off len ver tight) (hf : floor ≤ ver) (hq : q'.len = len) (hg : ∀ i, i < len → q'.get i = q.get (off + i)) :
    Holds P S sz v q' := by
  obtain ⟨_, o1, o2, o3, o4, _, o5, o6⟩ := ho
  obtain ⟨_, a, c, rfl, h1, h2, h3, h4, h5, h6⟩ := hr
  rcases Nat.eq_zero_or_pos len with h0 | h0
  · subst h0
    exact holds_nil hq
  · obtain ⟨ad, rfl, hrest⟩ := h5 h0
    obtain ⟨h7, h8, h9⟩ := hrest (by omega)
    subst hq
    cases hc : S.cur k with
    | none =>
      have := (h9 0 (by rw [o1]; exact Nat.mul_pos h0 o2)).1
      have h10 := (h9 0 (by rw [o1]; exact Nat.mul_pos h0 o2)).2
      rw [this] at h10
      unfold curCell at h10
      rw [hc] at h10
      cases h10
    | some b =>
      rw [hc] at o6
      obtain ⟨_, arr, ⟨fz, hheap, _⟩, hsz, hrep⟩ := o6
      have hin : ∀ i j, i < q'.len → j < sz → (off + i) * sz + j < arr.size := fun i j hi hj => by
        have : (off + i + 1) * sz ≤ q.len * sz := Nat.mul_le_mul_right _ (by omega)
        rw [Nat.add_mul (off + i), Nat.one_mul] at this
        omega
      refine holds_cells (fun i j => arr.getD ((off + i) * sz + j) undef) o2 (fun i hi => ?_) (fun i j hi hj => ?_) (fun i j hi hj => ?_)
      · rw [hg i hi]; exact o5 _ (by omega)
      · have hp : i * sz + j < q'.len * S.sz k := by
          rw [o1]
          have : (i + 1) * sz ≤ q'.len * sz := Nat.mul_le_mul_right _ hi
          rw [Nat.add_mul, Nat.one_mul] at this
          omega
        have hcell := (h9 (i * sz + j) hp).1
        unfold curCell at hcell
        rw [hc] at hcell
        simp only [cell_arr hheap] at hcell
        rw [o1, ← Nat.add_assoc, ← Nat.add_mul, Array.getElem?_eq_getElem (hin i j hi hj)] at hcell
        have h11 := (hrep (off + i) j (by omega) (by rw [o5 _ (by omega)]; exact hj)).2
        rw [hcell, Array.getD_eq_getD_getElem?, Array.getElem?_eq_getElem (hin i j hi hj)]
        rw [Array.getD_eq_getD_getElem?, Array.getElem?_eq_getElem (hin i j hi hj)] at h11
        exact ⟨rfl, h11⟩
      · have he := hg i hi
        have hj2 : j < (q.get (off + i)).cells.length := by rw [he] at hj; exact hj
        have := (hrep (off + i) j (by omega) hj2).1
        simpa [he] using this

theorem holds_sl {S : St} {sz : Nat} {q : Seq AV} {t : Bool} {v : Value} (h : RepI S.w S.free v (.sl sz q t)) : Holds P S sz v q := by
  cases h with
  | slNil _ _ _ hq => exact holds_nil hq
  | sl ad n c _ _ _ u hn hcap ht hsz hU hl hcell hrep =>
    subst hn
    exact holds_cells u hsz hl hcell fun i j hi hj => .i _ _ (hrep i j hi hj)

theorem intsOfStr_len (s : ByteArray) : (intsOfStr s).length = s.size := by simp [intsOfStr]

theorem contRow_spec {hp : List (Nat × AObj)} {ks : List Nat} {k off len ver sz : Nat} {q' : Seq AV} {c : List Prop} (h : contRow (restr hp ks) k off len ver = some (sz, q', c)) (hc : AllP c) :
    ∃ T q floor, look hp k = some (.row T sz q floor) ∧ floor ≤ ver ∧ (off + len ≤ q.len → q'.len = len ∧ ∀ i, i < len → q'.get i = q.get (off + i)) := by
  unfold contRow at h
  split at h
  · next T sz q floor hk =>
    split at h
    · cases h
      exact ⟨T, q, floor, restr_look hk, hc.2.1, fun _ => ⟨(thaw_len q).trans hc.1.symm, fun i _ => by rw [Nat.zero_add, thaw_get]⟩⟩
    · next off =>
      cases h
      refine ⟨T, q, floor, restr_look hk, hc.1, fun hle => ⟨?_, fun i hi => ?_⟩⟩
      · exact Seq.len_take _ _ (by rw [Seq.len_drop]; omega)
      · rw [Seq.get_take _ _ _ hi, Seq.get_drop]
  · cases h

theorem contents_spec {S : St} {hp : List (Nat × AObj)} {ks : List Nat} {e : TypeId} {x : AV} {v : Value} {q : Seq AV} {c : List Prop} {sz : Nat} (hh : HeapOK S hp) (hs : sizeA P e = some sz) (h : contents P (restr hp ks) e x = some (q, c)) (hc : AllP c) (hx : Rep S v x) : Holds P S sz v q := by
  unfold contents at h
  rw [hs] at h
  simp only at h
  split at h
  · split at h
    · next hb =>
      cases h
      have := Nat.eq_of_beq_eq_true hb
      subst this
      obtain ⟨_, _, _, h, _⟩ := rep_sl hx
      exact holds_sl h
    · cases h
  · next k off len ver t =>
    split at h
    · next sz' q0 c0 hsn =>
      split at h
      · next hb =>
        cases h
        have := Nat.eq_of_beq_eq_true hb
        subst this
        obtain ⟨T, q2, floor, hk, hf, hq⟩ := contRow_spec hsn hc
        obtain ⟨hu, hl, ho⟩ := hh _ _ hk
        obtain ⟨_, hr, _⟩ := rep_row hx
        have hr := hr hl
        have ho2 := ho
        obtain ⟨_, _, _, o3, _⟩ := ho2
        have hr2 := hr
        obtain ⟨_, _, _, _, h1, h2, _⟩ := hr2
        obtain ⟨hq1, hq2⟩ := hq (by omega)
        exact row_holds ho hr hf hq1 hq2
      · cases h
    · cases h
  · cases h
    obtain ⟨rfl, _⟩ := rep_v hx
    exact holds_nil (seqEmpty_len _)
  · cases h
    cases hx with
    | i _ _ h => cases h; exact holds_nil (seqEmpty_len _)
  · next t =>
    split at h
    · next he hb =>
      cases h
      have := Nat.eq_of_beq_eq_true hb
      subst this
      obtain ⟨rfl, _⟩ := rep_v hx
      have hlen : (Seq.ints (α := AV) .u8 (intsOfStr t)).len = t.size := intsOfStr_len t
      refine ⟨fun w => by rw [hlen]; rfl, (t.data.map fun b => .int .u8 b.toNat), ⟨by rw [hlen]; simp, fun i _ => rfl, fun i j hi hj => ?_⟩, fun w _ => ?_⟩
      · have hj0 : j = 0 := by simpa [Seq.get, AV.cells] using hj
        subst hj0
        rw [hlen] at hi
        have hi2 : i < t.data.size := hi
        simp only [Seq.get, AV.cells, List.getElem_cons_zero, Nat.mul_one, Nat.add_zero]
        rw [Array.getD_eq_getD_getElem?, Array.getElem?_map, Array.getElem?_eq_getElem hi2]
        simp only [Option.map_some, Option.getD_some]
        have : (intsOfStr t).getD i 0 = (t.data[i].toNat : Int) := by simp [intsOfStr, Array.getElem?_eq_getElem hi2]
        rw [this]
        exact ⟨.v trivial, trivial⟩
      · rw [hlen]
        simp only [Builtin.firstCells, Sem.run_pure]
        congr 1
        have : t.extract 0 t.size = t := by
          apply ByteArray.ext
          simp
        rw [this]
    · cases h
  · cases h

/-! ### append -/

theorem notInt_run {t : TypeId} (h : notInt P t = true) : (∃ e, P.underlying t = some (.slice e)) ∨ P.underlying t = some .string := by
  unfold notInt at h
  split at h
  · next e he => exact .inl ⟨e, he⟩
  · next he => exact .inr he
  · cases h

/-- append where there is room -/
theorem run_append_in {t xt ty e : TypeId} {sz : Nat} (ht : P.underlying t = some (.slice e)) (hs : sizeA P e = some sz) (hx : notInt P xt = true) {w : World} {base : Option Addr} {n c m : Nat} {x : Value} {arr : Array Value}
    (hl : (Builtin.lenOf x).run P w = .ok m w) (hf : (Builtin.firstCells sz m x).run P w = .ok arr w) (hroom : n + m ≤ c) {w' : World}
    (hst : ∀ a, base = some a → (storeCells (a.add (n * sz)) arr.toList).run P w = .ok () w') (hno : base = none → w' = w) :
    (Builtin.append_ #[t, xt] ty #[.slice base n c, x]).run P w = .ok (.slice base (n + m) c) w' := by
  rcases notInt_run hx with ⟨e', hd⟩ | hd
  all_goals cases base with
  | none =>
    have := hno rfl
    subst this
    simp [Builtin.append_, run_underlying ht, run_sizeOf hs, run_underlying hd, hl, hf, hroom]
  | some a =>
    have := hst a rfl
    simp [Builtin.append_, run_underlying ht, run_sizeOf hs, run_underlying hd, hl, hf, hroom, this]

/-- append where there is none -/
theorem run_append_out {t xt ty e : TypeId} {sz bytes : Nat} {z : List AV} (ht : P.underlying t = some (.slice e)) (hs : sizeA P e = some sz) (hb : bytesA P e = some (bytes + 1)) (hz : zeroCellsA P e = some z) (hx : notInt P xt = true) {w : World} {base : Option Addr} {n c m : Nat} {x : Value} {arr old : Array Value}
    (hl : (Builtin.lenOf x).run P w = .ok m w) (hf : (Builtin.firstCells sz m x).run P w.drew = .ok arr w.drew) (ho : (Builtin.firstCells sz n (.slice base n c)).run P w.drew = .ok old w.drew) (hroom : c < n + m) (hfit : (n + m) * (bytes + 1) ≤ 140737488355328) :
    ∃ rest : Array Value, rest.size = (grownCap w (n + m) c e - (n + m)) * z.length ∧
    (Builtin.append_ #[t, xt] ty #[.slice base n c, x]).run P w = .ok (.slice (some ⟨w.heap.size, 0, none⟩) (n + m) (grownCap w (n + m) c e)) (w.drew.alloc (.cells (old ++ arr ++ rest) e)) := by
  obtain ⟨i, hi, hib, his⟩ := bytesA_spec hb hs
  obtain ⟨i', zv, hi', hiz, hzr⟩ := zero_of hz
  obtain ⟨zv', hzr', hzs, _⟩ := zeroCells_spec hz
  have hzz : zv' = zv := by
    have := (hzr' w).symm.trans (hzr w)
    injection this
  subst hzz
  have hn : ¬ (n + m ≤ c) := by omega
  have hle : n + m ≤ (n + m) * (bytes + 1) := Nat.le_mul_of_pos_right _ (Nat.succ_pos _)
  have h63 : ¬ (9223372036854775807 < ((n : Int) + (m : Int))) := by omega
  have hfits := growslice_fits hroom hfit
  have h48 : ¬ (281474976710656 < Builtin.nextslicecap (n + m) c * (bytes + 1)) := by omega
  have hm : IntKind.i64.max = 9223372036854775807 := by decide
  refine ⟨Builtin.zeroCells zv'.cells (grownCap w (n + m) c e - (n + m)), by rw [size_zeroCells, hzs], ?_⟩
  rcases notInt_run hx with ⟨e', hd⟩ | hd <;>
  simp [Builtin.append_, run_underlying ht, run_sizeOf hs, run_underlying hd, hl, hn, typeInfo, hi, hib, hm, h63, h48, Question.forced, hf, ho, hzr, newRow, grownCap]

theorem Seq.app_spec {q r q' : Seq AV} (h : q.app r = some q') : q'.len = q.len + r.len ∧ (∀ i, i < q.len → q'.get i = q.get i) ∧ ∀ i, i < r.len → q'.get (q.len + i) = r.get i := by
  unfold Seq.app at h
  split at h
  · next k l k' l' =>
    split at h
    · next hk =>
      cases h
      have := kindEq_eq hk
      subst this
      refine ⟨by simp [Seq.len], fun i hi => ?_, fun i hi => ?_⟩
      · have hi' : i < l.length := hi
        simp [Seq.get, List.getElem?_append, hi']
      · show AV.v (.int k ((l ++ l').getD (l.length + i) 0)) = AV.v (.int k (l'.getD i 0))
        rw [List.getD_eq_getElem?_getD, List.getElem?_append_right (by omega), Nat.add_sub_cancel_left, List.getD_eq_getElem?_getD]
    · cases h
  · next l l' =>
    cases h
    refine ⟨by simp [Seq.len], fun i hi => ?_, fun i hi => ?_⟩
    · have hi' : i < l.length := hi
      simp [Seq.get, List.getElem?_append, hi']
    · show AV.v (.int .u8 ((l ++ l').getD (l.length + i) 0)) = AV.v (.int .u8 (l'.getD i 0))
      rw [List.getD_eq_getElem?_getD, List.getElem?_append_right (by omega), Nat.add_sub_cancel_left, List.getD_eq_getElem?_getD]
  · next l l' =>
    cases h
    refine ⟨by simp [Seq.len], fun i hi => ?_, fun i hi => ?_⟩
    · have hi' : i < l.length := hi
      simp [Seq.get, List.getElem?_append, hi']
    · show AV.v (.string ((l ++ l').getD (l.length + i) ByteArray.empty)) = AV.v (.string (l'.getD i ByteArray.empty))
      rw [List.getD_eq_getElem?_getD, List.getElem?_append_right (by omega), Nat.add_sub_cancel_left, List.getD_eq_getElem?_getD]
  · next l l' =>
    cases h
    refine ⟨by simp [Seq.len], fun i hi => ?_, fun i hi => ?_⟩
    · have hi' : i < l.length := hi
      simp [Seq.get, List.getElem?_append, hi']
    · show (l ++ l').getD (l.length + i) AV.junk = l'.getD i AV.junk
      rw [List.getD_eq_getElem?_getD, List.getElem?_append_right (by omega), Nat.add_sub_cancel_left, List.getD_eq_getElem?_getD]
  · next n f =>
    cases h
    refine ⟨by simp [Seq.len], fun i hi => absurd hi (by simp [Seq.len]), fun i hi => ?_⟩
    show f (0 + i) = f i
    rw [Nat.zero_add]
  · next n f l =>
    cases h
    refine ⟨by simp [Seq.len], fun i hi => ?_, fun i hi => ?_⟩
    · have hi' : Nat.blt i n = true := by
        have : i < n := hi
        simpa [Nat.blt_eq] using this
      show (match Nat.blt i n with | true => f i | false => l.getD (i - n) .junk) = f i
      rw [hi']
    · have hn : Nat.blt (n + i) n = false := by
        cases hb : Nat.blt (n + i) n with
        | true => rw [Nat.blt_eq] at hb; omega
        | false => rfl
      show (match Nat.blt (n + i) n with | true => f (n + i) | false => l.getD (n + i - n) .junk) = l.getD i .junk
      rw [hn, Nat.add_sub_cancel_left]
  · cases h

theorem Seq.app_fz {q r q' : Seq AV} (h : q.app r = some q') {sz : Nat} {fz : Nat × Nat} (hf : FzOK q sz fz) : FzOK q' sz fz := by
  obtain ⟨hl, _, _⟩ := Seq.app_spec h
  cases q with
  | frz l =>
    have h1 : fz.2 ≤ (Seq.frz (α := AV) l).len * sz := hf
    have h2 : fz.2 ≤ q'.len * sz := Nat.le_trans h1 (Nat.mul_le_mul_right _ (by omega))
    cases q' with
    | frz l' => exact h2
    | _ =>
      cases r with
      | ints k m => cases k <;> (unfold Seq.app at h; cases h)
      | _ => unfold Seq.app at h; cases h
  | _ =>
    have h1 : fz = (0, 0) := hf
    subst h1
    exact fzOK_zero _ _

theorem appA_spec {sz sz' : Nat} {q r q' : Seq AV} (h : appA sz sz' q r = some q') : sz' = sz ∧ q.app r = some q' := by
  unfold appA at h
  split at h
  · next hb => exact ⟨Nat.eq_of_beq_eq_true hb, h⟩
  · cases h

theorem getD_append_left {a b : Array Value} {i : Nat} (h : i < a.size) : (a ++ b).getD i undef = a.getD i undef := by
  simp [Array.getD_eq_getD_getElem?, Array.getElem?_append, h]

theorem getD_append_right {a b : Array Value} {i : Nat} (h : a.size ≤ i) : (a ++ b).getD i undef = b.getD (i - a.size) undef := by
  have : ¬ i < a.size := by omega
  simp [Array.getD_eq_getD_getElem?, Array.getElem?_append, this]

/-- two lists of elements, one behind the other -/
theorem cellsOf_append {S : St} {sz : Nat} {q r q' : Seq AV} {a b : Array Value} (hq : CellsOf S sz q a) (hr : CellsOf S sz r b) (h : q.app r = some q') : CellsOf S sz q' (a ++ b) := by
  obtain ⟨a1, a2, a3⟩ := hq
  obtain ⟨b1, b2, b3⟩ := hr
  obtain ⟨h1, h2, h3⟩ := Seq.app_spec h
  refine ⟨by simp [a1, b1, h1, Nat.add_mul], fun i hi => ?_, fun i j hi hj => ?_⟩
  · rcases Nat.lt_or_ge i q.len with hl | hl
    · rw [h2 i hl]; exact a2 i hl
    · obtain ⟨i, rfl⟩ := Nat.exists_eq_add_of_le hl
      rw [h3 i (by omega)]; exact b2 i (by omega)
  · rcases Nat.lt_or_ge i q.len with hl | hl
    · have he := h2 i hl
      have hj2 : j < (q.get i).cells.length := by rw [he] at hj; exact hj
      have hlt : i * sz + j < a.size := by
        rw [a1]
        have : (i + 1) * sz ≤ q.len * sz := Nat.mul_le_mul_right _ hl
        rw [Nat.add_mul, Nat.one_mul] at this
        rw [a2 i hl] at hj2
        omega
      rw [getD_append_left hlt]
      simpa [he] using a3 i j hl hj2
    · obtain ⟨i, rfl⟩ := Nat.exists_eq_add_of_le hl
      have he := h3 i (by omega)
      have hj2 : j < (r.get i).cells.length := by rw [he] at hj; exact hj
      have hge : a.size ≤ (q.len + i) * sz + j := by rw [a1, Nat.add_mul]; omega
      rw [getD_append_right hge, a1, show (q.len + i) * sz + j - q.len * sz = i * sz + j by rw [Nat.add_mul]; omega]
      simpa [he] using b3 i j (by omega) hj2

theorem cellsOf_ext {S S' : St} (e : Ext S S') {sz : Nat} {q : Seq AV} {a : Array Value} (h : CellsOf S sz q a) : CellsOf S' sz q a :=
  ⟨h.1, h.2.1, fun i j hi hj => ⟨(h.2.2 i j hi hj).1.ext e, (h.2.2 i j hi hj).2⟩⟩

end
end Go.Ev
