/- A part of an evaluator of the model and of the proof that what it answers the model does; no condition. -/
import GoSem.Step
set_option linter.unusedVariables false
set_option linter.unusedSimpArgs false
namespace Go.Ev

inductive Tree (α : Type) where
  | leaf
  | node (v : Option α) (l r : Tree α)

def Tree.get {α : Type} : Tree α → Nat → Option α
  | .leaf, _ => none
  | .node v l r, n => bif Nat.beq n 0 then v else bif Nat.beq (n % 2) 1 then l.get (n / 2) else r.get (n / 2 - 1)

def Tree.setF {α : Type} : Nat → Tree α → Nat → α → Tree α
  | 0, t, _, _ => t
  | f + 1, .leaf, n, x =>
    bif Nat.beq n 0 then .node (some x) .leaf .leaf
    else bif Nat.beq (n % 2) 1 then .node none (setF f .leaf (n / 2) x) .leaf
    else .node none .leaf (setF f .leaf (n / 2 - 1) x)
  | f + 1, .node v l r, n, x =>
    bif Nat.beq n 0 then .node (some x) l r
    else bif Nat.beq (n % 2) 1 then .node v (setF f l (n / 2) x) r
    else .node v l (setF f r (n / 2 - 1) x)

def Tree.set {α : Type} (t : Tree α) (n : Nat) (x : α) : Tree α := setF (n + 1) t n x

/-- an operation that may write, what is run behind it that does not, and what has been read and is looked at again -/
structure Phase where
  eff : Nat
  ops : List Nat
  again : List Nat

/-- the order in which a region that draws is run -/
structure Plan where
  first : List Nat
  again : List Nat
  rest : List Phase

/-- the program as the evaluator has it -/
structure Ctx where
  types : Tree TypeInfo
  funs : Tree Func
  plans : Nat → Nat → Option Plan
  eqs : List Nat
  fact : BinOp → Value → Value → Option Value := fun _ _ _ => none
  len : Nat → Option Value := fun _ => none
  kind : Nat → Option Bool := fun _ => none

def Ctx.info (C : Ctx) (t : TypeId) : Option TypeInfo := C.types.get t
def Ctx.under (C : Ctx) (t : TypeId) : Option TypeDesc :=
  match C.types.get t with
  | some i => (match i.desc with
    | .named _ u => (match C.types.get u with | some j => some j.desc | none => none)
    | d => some d)
  | none => none
def Ctx.size (C : Ctx) (t : TypeId) : Option Nat := match C.types.get t with | some i => some i.size | none => none

def buildTree {α : Type} : Nat → List α → Tree α → Tree α
  | _, [], t => t
  | i, v :: r, t => buildTree (i + 1) r (t.set i v)

inductive Stat where
  | ro | sole | tip (g : Nat) | old (g : Nat)
  deriving Repr

inductive AObj where
  | cells (vs : List Value) (esz : Nat) (st : Stat)
  | map (es : List (Value × Value)) (keys : Nat)
  | group (alive : Bool)

structure Mem where
  objs : Tree AObj
  next : Nat

def Mem.get (m : Mem) (o : Nat) : Option AObj := m.objs.get o
def Mem.put (m : Mem) (o : Nat) (x : AObj) : Mem := ⟨m.objs.set o x, m.next⟩
def Mem.new (m : Mem) (x : AObj) : Mem := ⟨m.objs.set m.next x, m.next + 1⟩

/-- a slice's capacity that is not known: UNK + the number of cells of an element; UNK itself: a slice of length 0 of which nothing else is known -/
def UNK : Nat := 9223372036854775808

def Mem.alive (m : Mem) : Stat → Bool
  | .ro | .sole => true
  | .tip g | .old g => match m.get g with | some (.group true) => true | _ => false

def ptr (o off : Nat) : Value := .pointer (some ⟨o, off, none⟩)

/-- the cells of a live object -/
def Mem.cells (m : Mem) (o : Nat) : Option (List Value) :=
  match m.get o with
  | some (.cells vs _ st) => bif m.alive st then some vs else none
  | _ => none

def Mem.loadN (m : Mem) (o off n : Nat) : Option (List Value) :=
  (m.cells o).bind fun vs => bif Nat.ble (off + n) vs.length then some ((vs.drop off).take n) else none

def splice (vs : List Value) (off : Nat) (new : List Value) : List Value :=
  vs.take off ++ new ++ vs.drop (off + new.length)

def isCell : Value → Bool
  | .agg _ | .tuple _ => false
  | _ => true

def Mem.storeN (m : Mem) (o off : Nat) (new : List Value) : Option Mem :=
  match m.get o with
  | some (.cells vs e st) =>
    bif Nat.ble (off + new.length) vs.length && new.all isCell then
      match st with
      | .ro => none
      | .sole => some (m.put o (.cells (splice vs off new) e .sole))
      | .tip g | .old g =>
        bif m.alive st then some ((m.put g (.group false)).put o (.cells (splice vs off new) e .sole)) else none
    else none
  | _ => none

def Val.cells : Value → List Value
  | .agg cs => cs.toList
  | v => [v]

def isAggD : TypeDesc → Bool
  | .struct _ | .array _ _ => true
  | _ => false

def mkVal (agg : Bool) (cs : List Value) : Option Value :=
  bif agg then some (.agg ⟨cs⟩) else cs.head?

structure TI where
  agg : Bool
  size : Nat

def tinfo (C : Ctx) (t : TypeId) : Option TI :=
  (C.under t).bind fun d => (C.info t).bind fun i => some ⟨isAggD d, i.size⟩

def aload (C : Ctx) (t : TypeId) (a : Value) (m : Mem) : Option Value :=
  match a with
  | .pointer (some ⟨o, off, none⟩) =>
    (tinfo C t).bind fun ti => (m.loadN o off (bif ti.agg then ti.size else 1)).bind fun cs => mkVal ti.agg cs
  | _ => none

def astore (C : Ctx) (t : TypeId) (a v : Value) (m : Mem) : Option Mem :=
  match a with
  | .pointer (some ⟨o, off, none⟩) =>
    (C.info t).bind fun i =>
      let cs := Val.cells v
      bif Nat.beq cs.length i.size then m.storeN o off cs else none
  | _ => none

def anew (C : Ctx) (t : TypeId) (cs : List Value) (m : Mem) : Option (Value × Mem) :=
  (C.info t).bind fun i => some (ptr m.next 0, m.new (.cells cs i.size .sole))

def partV (C : Ctx) (t : TypeId) (cs : List Value) (off : Nat) : Option Value :=
  (tinfo C t).bind fun ti =>
    bif ti.agg then some (.agg ⟨(cs.drop off).take ti.size⟩) else cs[off]?

def strLess : List UInt8 → List UInt8 → Bool
  | _, [] => false
  | [], _ :: _ => true
  | a :: x, b :: y => Nat.blt a.toNat b.toNat || (Nat.beq a.toNat b.toNat && strLess x y)

def strEq : List UInt8 → List UInt8 → Bool
  | [], [] => true
  | a :: x, b :: y => Nat.beq a.toNat b.toNat && strEq x y
  | _, _ => false

def kLo : IntKind → Int
  | .i8 => -128 | .i16 => -32768 | .i32 => -2147483648 | .i64 => -9223372036854775808
  | _ => 0
def kHi : IntKind → Int
  | .i8 => 127 | .i16 => 32767 | .i32 => 2147483647 | .i64 => 9223372036854775807
  | .u8 => 255 | .u16 => 65535 | .u32 => 4294967295 | .u64 => 18446744073709551615

def inK (k : IntKind) (n : Int) : Bool := decide (kLo k ≤ n) && decide (n ≤ kHi k)

def wrapF (k : IntKind) (n : Int) : Int := bif inK k n then n else k.wrap n

/-- both are natural numbers that fit -/
def bothNat (k : IntKind) (a b : Int) : Bool := decide (0 ≤ a) && decide (a ≤ kHi k) && decide (0 ≤ b) && decide (b ≤ kHi k)

def pow2 (k : IntKind) : Nat := 2 ^ k.bits

def bitOp (f : Nat → Nat → Nat) (k : IntKind) (a b : Int) : Int :=
  bif bothNat k a b then (f a.toNat b.toNat : Nat) else k.wrap (f (a % (pow2 k : Nat)).toNat (b % (pow2 k : Nat)).toNat : Nat)

def intOp (op : BinOp) (k : IntKind) (a b : Int) : Option Value :=
  match op with
  | .add => some (.int k (wrapF k (a + b)))
  | .sub => some (.int k (wrapF k (a - b)))
  | .mul => some (.int k (wrapF k (a * b)))
  | .quo => bif decide (b = 0) then none else some (.int k (wrapF k (a.tdiv b)))
  | .rem => bif decide (b = 0) then none else some (.int k (a.tmod b))
  | .eql => some (.bool (decide (a = b)))
  | .neq => some (.bool (!decide (a = b)))
  | .lss => some (.bool (decide (a < b)))
  | .leq => some (.bool (decide (a ≤ b)))
  | .gtr => some (.bool (decide (b < a)))
  | .geq => some (.bool (decide (b ≤ a)))
  | .and => some (.int k (bitOp Nat.land k a b))
  | .or => some (.int k (bitOp Nat.lor k a b))
  | .xor => some (.int k (bitOp Nat.xor k a b))
  | .shl => bif decide (b < 0) then none else some (.int k (wrapF k (a * ((2 ^ (min b.toNat k.bits) : Nat) : Int))))
  | .shr => bif decide (b < 0) then none else some (.int k (a / ((2 ^ (min b.toNat k.bits) : Nat) : Int)))
  | _ => none

def strOp (op : BinOp) (a b : ByteArray) : Option Value :=
  match op with
  | .add => bif Nat.ble (a.data.size + b.data.size) 4294967296 then some (.string ⟨⟨a.data.toList ++ b.data.toList⟩⟩) else none
  | .eql => some (.bool (strEq a.data.toList b.data.toList))
  | .neq => some (.bool (!strEq a.data.toList b.data.toList))
  | .lss => some (.bool (strLess a.data.toList b.data.toList))
  | .leq => some (.bool (!strLess b.data.toList a.data.toList))
  | .gtr => some (.bool (strLess b.data.toList a.data.toList))
  | .geq => some (.bool (!strLess a.data.toList b.data.toList))
  | _ => none

/-- the fields of a struct, one by one; 'f' compares two values of a type -/
def eqFields (C : Ctx) (f : TypeId → Value → Value → Option Bool) (xs ys : List Value) : List Field → Option Bool
  | [] => some true
  | g :: r =>
    bif g.name == "_" then none else
    (partV C g.type xs g.offset).bind fun u => (partV C g.type ys g.offset).bind fun v =>
      (f g.type u v).bind fun b => bif b then eqFields C f xs ys r else some false

/-- pointers, slices, maps, functions: one of the two is nil -/
def nilEq : Value → Value → Option Bool
  | .pointer none, .pointer none => some true
  | .pointer none, .pointer (some ⟨_, _, none⟩) => some false
  | .pointer (some ⟨_, _, none⟩), .pointer none => some false
  | .slice none _ _, .slice b _ _ => some b.isNone
  | .slice (some _) _ _, .slice none _ _ => some false
  | .map none, .map b => some b.isNone
  | .map (some _), .map none => some false
  | .nilFunc, .nilFunc => some true
  | .nilFunc, .func _ _ _ => some false
  | .func _ _ _, .nilFunc => some false
  | _, _ => none

/-- is it a string (an int), known or not? -/
def flatV (C : Ctx) (str : Bool) : Value → Bool
  | .int _ _ => !str
  | .string _ => str
  | .pointer (some ⟨j, _, some _⟩) => (match C.kind j with | some b => b == str | none => false)
  | _ => false

def factB (C : Ctx) (str : Bool) (x y : Value) : Option Bool := bif flatV C str x && flatV C str y then (match C.fact .eql x y with
  | some (.bool b) => some b
  | _ => none) else none

def eqD (C : Ctx) (f : TypeId → Value → Value → Option Bool) (t : TypeId) (d : TypeDesc) (x y : Value) : Option Bool :=
  match d with
  | .bool => (match x, y with | .bool a, .bool b => some (a == b) | _, _ => none)
  | .int _ => (match x, y with | .int k a, .int k' b => bif decide (k = k') then some (decide (a = b)) else none | a, b => factB C false a b)
  | .string => (match x, y with | .string a, .string b => some (strEq a.data.toList b.data.toList) | a, b => factB C true a b)
  | .pointer _ => (match x with | .pointer _ => nilEq x y | _ => none)
  | .slice _ => (match x with | .slice _ _ _ => nilEq x y | _ => none)
  | .map _ _ => (match x with | .map _ => nilEq x y | _ => none)
  | .func _ _ _ => (match x with | .nilFunc | .func _ _ _ => nilEq x y | _ => none)
  | .struct fs => (match x, y with
    | .agg xs, .agg ys => bif C.eqs.contains t then eqFields C f xs.toList ys.toList fs.toList else none
    | _, _ => none)
  | _ => none

def eqv (C : Ctx) : Nat → TypeId → Value → Value → Option Bool
  | 0, _, _, _ => none
  | d + 1, t, x, y => (C.under t).bind fun dd => eqD C (eqv C d) t dd x y

def eqB (C : Ctx) (op : BinOp) (t : TypeId) (x y : Value) : Option Value :=
  match op with
  | .eql => (eqv C 20 t x y).bind fun b => some (.bool b)
  | .neq => (eqv C 20 t x y).bind fun b => some (.bool (!b))
  | _ => none

def intB (op : BinOp) (k : IntKind) (a : Int) (k' : IntKind) (b : Int) : Option Value :=
  match op with
  | .shl => intOp .shl k a b
  | .shr => intOp .shr k a b
  | op => bif decide (k = k') then intOp op k a b else none

def binV (C : Ctx) (op : BinOp) (t : TypeId) (x y : Value) : Option Value :=
  match x with
  | .int k a => (match y with | .int k' b => intB op k a k' b | y => C.fact op (.int k a) y)
  | .string a => (match y with | .string b => strOp op a b | y => C.fact op (.string a) y)
  | .pointer (some ⟨j, i, some l⟩) => C.fact op (.pointer (some ⟨j, i, some l⟩)) y
  | x => eqB C op t x y

def unV (op : UnOp) (x : Value) : Option Value :=
  match op, x with
  | .neg, .int k n => some (.int k (wrapF k (0 - n)))
  | .not, .bool b => some (.bool !b)
  | _, _ => none

def buildCells (fs : List (Nat × Nat × Nat)) (cells : List Value) : List (Nat × Value) → Option (List Value)
  | [] => some cells
  | (i, v) :: rest =>
    match fs.find? (fun f => Nat.beq f.1 i) with
    | none => none
    | some (_, off, size) =>
      let cs := Val.cells v
      bif Nat.beq cs.length size && Nat.ble (off + size) cells.length then buildCells fs (splice cells off cs) rest else none

def fieldSizes (C : Ctx) : Nat → List Field → Option (List (Nat × Nat × Nat))
  | _, [] => some []
  | i, f :: r => (C.size f.type).bind fun n => (fieldSizes C (i + 1) r).bind fun l => some ((i, f.offset, n) :: l)

/-- the places of a row of n elements -/
def rowSizes (sz n : Nat) : List (Nat × Nat × Nat) := (List.range n).map fun i => (i, i * sz, sz)

def buildV (C : Ctx) (t : TypeId) (parts : List (Nat × Value)) : Option Value :=
  (C.info t).bind fun ti => ti.zero.bind fun z =>
  match C.under t with
  | some (.struct fields) =>
    (fieldSizes C 0 fields.toList).bind fun fs =>
    (buildCells fs (Val.cells z) parts).bind fun cs => some (.agg ⟨cs⟩)
  | some (.array len e) =>
    (C.size e).bind fun sz =>
    (buildCells (rowSizes sz len) (Val.cells z) parts).bind fun cs => some (.agg ⟨cs⟩)
  | _ => none

def rep {α : Type} (n : Nat) (xs : List α) : List α := (List.replicate n xs).flatten

def sliceElem (C : Ctx) (t : TypeId) : Option TypeId :=
  match C.under t with
  | some (.slice e) => some e
  | _ => none

def asN : Value → Option Nat
  | .int _ n => bif decide (0 ≤ n) then some n.toNat else none
  | _ => none

/-- a bound of a slice expression, or what stands for it -/
def optN (d : Nat) : Option Value → Option Nat
  | none => some d
  | some v => asN v

/-- of a capacity that is not known: what it is at least, and the cells of an element -/
def lbOf (cap : Nat) : Nat := cap / UNK - 1
def szOf (cap : Nat) : Nat := cap % UNK

/-- the capacity that can be relied on -/
def capOf (len cap : Nat) : Nat := bif Nat.ble UNK cap then (bif Nat.ble len (lbOf cap) then lbOf cap else len) else cap

def optCap (len cap : Nat) : Option Value → Option Nat
  | none => some cap
  | some v => (asN v).bind fun m => bif Nat.ble m (capOf len cap) && Nat.blt m UNK && !Nat.beq cap UNK then some m else none

def moved (a : Option Addr) (n : Nat) : Option Addr := a.map fun (x : Addr) => (⟨x.block, x.off + n, none⟩ : Addr)

/-- a part of a slice; where the capacity is not known, and nothing is left, the address is not known either -/
def sliceIn (esz : Nat) (a : Option Addr) (len m h l : Nat) : Value :=
  bif Nat.ble UNK m then
    (bif Nat.beq m UNK then .slice a 0 UNK
    else bif Nat.beq l 0 then .slice a (h - l) m
    else bif Nat.blt l (capOf len m) then .slice (moved a (l * esz)) (h - l) (m - UNK * (bif Nat.ble l (lbOf m) then l else lbOf m))
    else .slice a 0 UNK)
  else .slice (bif Nat.beq m l then a else moved a (l * esz)) (h - l) (m - l)

def sliceV (C : Ctx) (t : TypeId) (x : Value) (lo hi mx : Option Value) : Option Value :=
  match C.under t, x with
  | some .string, .string s =>
    (optN s.data.size hi).bind fun h => (optN 0 lo).bind fun l =>
    bif Nat.ble l h && Nat.ble h s.data.size && mx.isNone then some (.string ⟨⟨(s.data.toList.drop l).take (h - l)⟩⟩) else none
  | some (.slice e), .slice a len cap =>
    (C.info e).bind fun i => (optCap len cap mx).bind fun m => (optN len hi).bind fun h => (optN 0 lo).bind fun l =>
    bif Nat.ble l h && Nat.ble h (capOf len m) && (Nat.ble m UNK || Nat.beq (szOf m) i.size) && (mx.isNone || hi.isSome) then some (sliceIn i.size a len m h l) else none
  | _, _ => none

def bytesOfCells : List Value → Option (List UInt8)
  | [] => some []
  | .int .u8 n :: r => (bytesOfCells r).bind fun l => some (UInt8.ofNat n.toNat :: l)
  | _ :: _ => none

def lenV : Value → Option Nat
  | .slice _ n _ => some n
  | .string s => some s.data.size
  | _ => none

/-- the cells of n elements of what is appended or copied -/
def srcCells (esz n : Nat) (x : Value) (m : Mem) : Option (List Value) :=
  match x with
  | .slice a _ _ =>
    bif Nat.beq n 0 then some [] else
    (match a with
     | some ⟨o, off, none⟩ => m.loadN o off (n * esz)
     | _ => none)
  | .string s => bif Nat.beq esz 1 && Nat.beq n s.data.size then some (s.data.toList.map fun b => .int .u8 b.toNat) else none
  | _ => none

/-- the number of cells of an element of a slice type -/
def elemSz (C : Ctx) (t : TypeId) : Option Nat :=
  (sliceElem C t).bind fun e => (C.info e).bind fun i => i.zero.bind fun z =>
    bif Nat.beq (Val.cells z).length i.size && Nat.ble 1 i.size && Nat.ble i.bytes 65536 && Nat.ble i.size 65536 then some i.size else none

def srcOk (C : Ctx) (t : TypeId) : Bool :=
  match C.under t with
  | some (.slice _) | some .string => true
  | _ => false

def BIG : Nat := 1073741824

def grown (m : Mem) (esz need : Nat) (cs : List Value) (st : Stat) : Value × Mem :=
  (.slice (some ⟨m.next, 0, none⟩) need (UNK + esz + UNK * need), m.new (.cells cs esz st))

def appendTo (m : Mem) (o off len cap esz : Nat) (vs : List Value) (ost : Stat) (n : Nat) (new : List Value) : Option (Value × Mem) :=
  let olds := (vs.drop off).take (len * esz)
  bif Nat.ble UNK cap then
    bif Nat.beq (szOf cap) esz then
      bif Nat.beq n 0 then some (.slice (some ⟨o, off, none⟩) len cap, m) else
      bif Nat.ble (len + n) (lbOf cap) then (m.storeN o (off + len * esz) new).bind fun m => some (.slice (some ⟨o, off, none⟩) (len + n) cap, m) else
      match ost with
      | .ro => none
      | .sole =>
        let g := m.next
        bif Nat.beq (off + len * esz) vs.length then some (grown ((m.new (.group true)).put o (.cells vs esz (.old g))) esz (len + n) (olds ++ new) (.tip g))
        else some (grown ((m.new (.group false)).put o (.cells vs esz (.old g))) esz (len + n) (olds ++ new) .sole)
      | .tip g =>
        bif Nat.beq (off + len * esz) vs.length then some (grown (m.put o (.cells vs esz (.old g))) esz (len + n) (olds ++ new) (.tip g))
        else some (grown (m.put g (.group false)) esz (len + n) (olds ++ new) .sole)
      | .old g => some (grown (m.put g (.group false)) esz (len + n) (olds ++ new) .sole)
    else none
  else bif Nat.ble (len + n) cap then
    (m.storeN o (off + len * esz) new).bind fun m => some (.slice (some ⟨o, off, none⟩) (len + n) cap, m)
  else some (grown m esz (len + n) (olds ++ new) .sole)

def aappend (C : Ctx) (st xt : TypeId) (s x : Value) (m : Mem) : Option (Value × Mem) :=
  (elemSz C st).bind fun esz =>
  bif srcOk C xt then
    (lenV x).bind fun n => (srcCells esz n x m).bind fun new =>
    bif new.all isCell then
      match s with
      | .slice none len cap =>
        bif Nat.beq len 0 && Nat.beq cap 0 && Nat.ble n BIG then
          bif Nat.beq n 0 then some (.slice none 0 0, m) else some (grown m esz n new .sole)
        else none
      | .slice (some ⟨o, off, none⟩) len cap =>
        bif Nat.ble (len + n) BIG then
          match m.get o with
          | some (.cells vs e ost) =>
            bif m.alive ost && Nat.beq e esz && Nat.ble (off + len * esz) vs.length then appendTo m o off len cap esz vs ost n new else none
          | _ => none
        else none
      | _ => none
    else none
  else none

/-- the first n elements of what is copied -/
def copyCells (esz n : Nat) (x : Value) (m : Mem) : Option (List Value) :=
  match x with
  | .string s => bif Nat.beq esz 1 then some ((s.data.toList.take n).map fun (b : UInt8) => Value.int .u8 b.toNat) else none
  | x => srcCells esz n x m

def acopy (C : Ctx) (st : TypeId) (d x : Value) (m : Mem) : Option (Value × Mem) :=
  (elemSz C st).bind fun esz =>
  match d with
  | .slice base dlen _ =>
    (lenV x).bind fun k =>
    let n := min k dlen
    bif Nat.beq n 0 then some (.int .i64 0, m) else
    (copyCells esz n x m).bind fun cs =>
    match base with
    | some ⟨o, off, none⟩ => (m.storeN o off cs).bind fun m => some (.int .i64 n, m)
    | _ => none
  | _ => none

/-- keys of a kind, alike or not -/
def keyEq : TypeDesc → Value → Value → Option Bool
  | .int _, .int k a, .int k' b => bif decide (k = k') then some (decide (a = b)) else none
  | .string, .string a, .string b => some (strEq a.data.toList b.data.toList)
  | .bool, .bool a, .bool b => some (a == b)
  | _, _, _ => none

def findKey (d : TypeDesc) (k : Value) : List (Value × Value) → Option (Option Value)
  | [] => some none
  | (a, v) :: r => (keyEq d k a).bind fun b => bif b then some (some v) else findKey d k r

def setKey (d : TypeDesc) (k v : Value) : List (Value × Value) → Option (List (Value × Value))
  | [] => some [(k, v)]
  | (a, u) :: r => (keyEq d k a).bind fun b => bif b then some ((k, v) :: r) else (setKey d k v r).bind fun r => some ((a, u) :: r)

def delKey (d : TypeDesc) (k : Value) : List (Value × Value) → Option (List (Value × Value))
  | [] => some []
  | (a, u) :: r => (keyEq d k a).bind fun b => bif b then some r else (delKey d k r).bind fun r => some ((a, u) :: r)

def basicKey : TypeDesc → Bool
  | .int _ | .string | .bool => true
  | _ => false

def mapTypes (C : Ctx) (t : TypeId) : Option (TypeDesc × TypeId) :=
  match C.under t with
  | some (.map k e) => (C.under k).bind fun d => bif basicKey d then some (d, e) else none
  | _ => none

def alookup (C : Ctx) (t : TypeId) (x k : Value) (ok : Bool) (m : Mem) : Option Value :=
  (mapTypes C t).bind fun (d, e) =>
  (match x with
   | .map none => some []
   | .map (some r) => (match m.get r with | some (.map es _) => some es | _ => none)
   | _ => none).bind fun es =>
  (findKey d k es).bind fun r =>
  match r with
  | some v => some (bif ok then .tuple ⟨[v, .bool true]⟩ else v)
  | none => (C.info e).bind fun i => i.zero.bind fun z => some (bif ok then .tuple ⟨[z, .bool false]⟩ else z)

def aupdate (C : Ctx) (t : TypeId) (x k v : Value) (m : Mem) : Option Mem :=
  (mapTypes C t).bind fun (d, _) =>
  match x with
  | .map (some r) => (match m.get r with
    | some (.map es c) => (setKey d k v es).bind fun es => some (m.put r (.map es c))
    | _ => none)
  | _ => none

def adelete (C : Ctx) (t : TypeId) (x k : Value) (m : Mem) : Option Mem :=
  (mapTypes C t).bind fun (d, _) =>
  match x with
  | .map (some r) => (match m.get r with
    | some (.map es c) => (delKey d k es).bind fun es => some (m.put r (.map es c))
    | _ => none)
  | .map none => some m
  | _ => none

def convertV (C : Ctx) (src dst : TypeId) (x : Value) (m : Mem) : Option (Value × Mem) :=
  match C.under src, C.under dst, x with
  | some _, some (.int k), .int _ n => some (.int k (wrapF k n), m)
  | some _, some .string, .string _ => some (x, m)
  | some .string, some (.slice e), .string s =>
    (match C.under e with
     | some (.int .u8) => some (.slice (some ⟨m.next, 0, none⟩) s.data.size (UNK + 1), m.new (.cells (s.data.toList.map fun b => .int .u8 b.toNat) 1 .sole))
     | _ => none)
  | some (.slice e), some .string, .slice a len _ =>
    (match C.under e with
     | some (.int .u8) =>
       (match a with
        | none => some (.string ⟨⟨[]⟩⟩, m)
        | some ⟨o, off, none⟩ => (m.loadN o off len).bind fun cs => (bytesOfCells cs).bind fun l => some (.string ⟨⟨l⟩⟩, m)
        | _ => none)
     | _ => none)
  | _, _, _ => none

def fieldOf (C : Ctx) (t : TypeId) (f : Nat) : Option Field :=
  match C.under t with
  | some (.struct fs) => fs[f]?
  | _ => none

abbrev Ret := Option (Value × Mem)

def pure1 (o : Option Value) (m : Mem) : Ret := o.bind fun v => some (v, m)
def unit1 (o : Option Mem) : Ret := o.bind fun m => some (.tuple ⟨[]⟩, m)

def minmax2 (mx : Bool) : Value → Value → Option Value
  | .int k a, .int k' b => bif decide (k = k') then some (.int k (bif mx then (bif decide (b > a) then b else a) else (bif decide (b < a) then b else a))) else none
  | _, _ => none

def minmax (mx : Bool) : List Value → Option Value
  | [] => none
  | x :: r => r.foldl (fun acc y => acc.bind fun a => minmax2 mx a y) (some x)

def lenA (C : Ctx) (t : TypeId) (x : Value) (m : Mem) : Ret :=
  match C.under t, x with
  | some .string, .string s => some (.int .i64 s.data.size, m)
  | some .string, .pointer (some ⟨j, _, some _⟩) => (C.len j).bind fun v => some (v, m)
  | some (.slice _), .slice _ n _ => some (.int .i64 n, m)
  | some (.map _ _), .map none => some (.int .i64 0, m)
  | some (.map _ _), .map (some r) => (match m.get r with | some (.map es _) => some (.int .i64 es.length, m) | _ => none)
  | some (.array n _), _ => some (.int .i64 n, m)
  | _, _ => none

def capA (C : Ctx) (t : TypeId) (x : Value) : Option Value :=
  match C.under t, x with
  | some (.slice _), .slice _ _ c => bif Nat.ble UNK c then none else some (.int .i64 c)
  | _, _ => none

def clearA (C : Ctx) (t : TypeId) (x : Value) (m : Mem) : Option Mem :=
  (C.under t).bind fun _ =>
  match x with
  | .slice a n _ =>
    bif Nat.beq n 0 then some m else
    (match a with
     | some ⟨o, off, none⟩ =>
       (elemSz C t).bind fun _ => (sliceElem C t).bind fun e => (C.info e).bind fun i => i.zero.bind fun z => m.storeN o off (rep n (Val.cells z))
     | _ => none)
  | _ => none

def builtinA (C : Ctx) (b : Builtin) (ts : List TypeId) (args : List Value) (m : Mem) : Ret :=
  match b, ts, args with
  | .append, [t, u], [s, x] => aappend C t u s x m
  | .copy, [t, _], [d, x] => acopy C t d x m
  | .len, [t], [x] => lenA C t x m
  | .cap, [t], [x] => pure1 (capA C t x) m
  | .min, _, args => pure1 (minmax false args) m
  | .max, _, args => pure1 (minmax true args) m
  | .delete, [t, _], [x, k] => unit1 (adelete C t x k m)
  | .clear, [t], [x] => unit1 (clearA C t x m)
  | _, _, _ => none

def prim (C : Ctx) (ρ : Operand → Value) (op : Op) (m : Mem) : Ret :=
  match op with
  | .move x | .assign x => some (ρ x, m)
  | .pick c a b => (match ρ c with | .bool t => some (bif t then ρ a else ρ b, m) | _ => none)
  | .alloc e => (C.info e).bind fun i => i.zero.bind fun z => anew C e (Val.cells z) m
  | .box e x => anew C e (Val.cells (ρ x)) m
  | .build t parts => pure1 (buildV C t (parts.toList.map fun (i, x) => (i, ρ x))) m
  | .buildSlice t len parts =>
    (elemSz C t).bind fun esz => (sliceElem C t).bind fun e => (C.info e).bind fun i => i.zero.bind fun z =>
      bif Nat.ble (len * esz) 16777216 then
        (buildCells (rowSizes esz len) (rep len (Val.cells z)) (parts.toList.map fun (i, x) => (i, ρ x))).bind fun cs =>
          some (.slice (some ⟨m.next, 0, none⟩) len len, m.new (.cells cs esz .sole))
      else none
  | .load t a => pure1 (aload C t (ρ a) m) m
  | .store t a x => unit1 (astore C t (ρ a) (ρ x) m)
  | .nilCheck x => (match ρ x with | .pointer (some ⟨o, i, none⟩) => some (.pointer (some ⟨o, i, none⟩), m) | .func (.func f) a b => some (.func (.func f) a b, m) | _ => none)
  | .binOp op t x y _ => pure1 (binV C op t (ρ x) (ρ y)) m
  | .unOp op _ x => pure1 (unV op (ρ x)) m
  | .convert s d x => convertV C s d (ρ x) m
  | .makeInterface t x => (match C.under t with | some (.interface _) | none => none | some _ => some (.iface t (ρ x), m))
  | .makeFunc fn first cap => some (.func fn ⟨first.toList.map ρ⟩ ⟨cap.toList.map ρ⟩, m)
  | .makeMap _ none => some (.map (some m.next), m.new (.map [] 0))
  | .makeSlice t l c =>
    (elemSz C t).bind fun esz => (sliceElem C t).bind fun e => (C.info e).bind fun i => i.zero.bind fun z =>
      (asN (ρ l)).bind fun l => (asN (ρ c)).bind fun c =>
      bif Nat.ble l c && Nat.ble c BIG then
        some (.slice (some ⟨m.next, 0, none⟩) l c, m.new (.cells (rep c (Val.cells z)) esz .sole))
      else none
  | .slice t x lo hi mx =>
    pure1 (sliceV C t (ρ x) (lo.map ρ) (hi.map ρ) (mx.map ρ)) m
  | .fieldAddr t x f => (match ρ x with
    | .pointer (some ⟨o, off, none⟩) => (fieldOf C t f).bind fun g => (C.size g.type).bind fun n => bif Nat.beq n 0 then none else some (ptr o (off + g.offset), m)
    | _ => none)
  | .field t x f => (match ρ x with
    | .agg cs => (fieldOf C t f).bind fun g => pure1 (partV C g.type cs.toList g.offset) m
    | _ => none)
  | .indexAddr t x i => (asN (ρ i)).bind fun i =>
    (match C.under t, ρ x with
     | some (.slice e), .slice (some ⟨o, off, none⟩) len _ => bif Nat.blt i len then (C.size e).bind fun n => some (ptr o (off + i * n), m) else none
     | some (.array len e), .pointer (some ⟨o, off, none⟩) => bif Nat.blt i len then (C.size e).bind fun n => some (ptr o (off + i * n), m) else none
     | _, _ => none)
  | .index t x i => (asN (ρ i)).bind fun i =>
    (match C.under t, ρ x with
     | some (.array len e), .agg cs => bif Nat.blt i len then (C.size e).bind fun n => pure1 (partV C e cs.toList (i * n)) m else none
     | some .string, .string s => (match s.data.toList[i]? with | some b => some (.int .u8 b.toNat, m) | none => none)
     | _, _ => none)
  | .lookup t x k ok => pure1 (alookup C t (ρ x) (ρ k) ok m) m
  | .mapUpdate t x k v | .insert t x k v => unit1 (aupdate C t (ρ x) (ρ k) (ρ v) m)
  | .extract t i => (match ρ t with | .tuple vs => pure1 vs.toList[i]? m | _ => none)
  | .call c => (match c.callee with
    | .builtin b => builtinA C b c.argTypes.toList (c.args.toList.map ρ) m
    | _ => none)
  | _ => none

structure Slots where
  t : Tree Value

def Slots.get (s : Slots) (t : Nat) : Value := match s.t.get t with | some v => v | none => .tuple ⟨[]⟩
def Slots.set (s : Slots) (t : Nat) (v : Value) : Slots := ⟨s.t.set t v⟩
def Slots.put (s : Slots) (d : Option Nat) (v : Value) : Slots := match d with | some t => s.set t v | none => s
def Slots.eval (s : Slots) : Operand → Value
  | .tmp t => s.get t
  | .const v => v
  | .global g => .pointer (some ⟨g, 0, some 0⟩)      -- not followed
  | .func f => .func (.func f) #[] #[]

abbrev CallF := FuncId → List Value → Mem → Ret

def oper (C : Ctx) (call : CallF) (ρ : Operand → Value) (op : Op) (m : Mem) : Ret :=
  match op with
  | .call c => (match c.callee with
    | .value f => (match ρ f with
      | .func (.func f) first cap => call f (first.toList ++ c.args.toList.map ρ ++ cap.toList) m
      | _ => none)
    | _ => prim C ρ op m)
  | op => prim C ρ op m

def wanted (ops : Array Oper) (s : Slots) (o : Oper) : Option Bool :=
  match o.guard with
  | none => some true
  | some (j, want) => match (ops[j]?).bind (·.dst) with
    | some d => (match s.get d with | .bool b => some (b == want) | _ => some false)
    | none => some false

def stepOp (C : Ctx) (call : CallF) (ops : Array Oper) (o : Oper) (s : Slots) (m : Mem) : Option (Slots × Mem) :=
  (wanted ops s o).bind fun w =>
  bif w then (oper C call s.eval o.op m).bind fun (v, m) => some (s.put o.dst v, m)
  else some (s.put o.dst (.tuple ⟨[]⟩), m)

def runOps (C : Ctx) (call : CallF) (ops : Array Oper) : List Oper → Slots → Mem → Option (Slots × Mem)
  | [], s, m => some (s, m)
  | o :: r, s, m => (stepOp C call ops o s m).bind fun (s, m) => runOps C call ops r s m

/-- operations by their numbers -/
def runIdx (C : Ctx) (call : CallF) (ops : Array Oper) : List Nat → Slots → Mem → Option (Slots × Mem)
  | [], s, m => some (s, m)
  | i :: r, s, m => match ops[i]? with
    | some o => (stepOp C call ops o s m).bind fun (s, m) => runIdx C call ops r s m
    | none => none

def sameAddr : Option Addr → Option Addr → Bool
  | none, none => true
  | some ⟨b, o, none⟩, some ⟨c, p, none⟩ => Nat.beq b c && Nat.beq o p
  | some ⟨b, o, some k⟩, some ⟨c, p, some l⟩ => Nat.beq b c && (Nat.beq o p && Nat.beq k l)
  | _, _ => false

def veq1 : Value → Value → Bool
  | .bool a, .bool b => a == b
  | .int k a, .int j b => decide (k = j) && a == b
  | .string a, .string b => strEq a.data.toList b.data.toList
  | .pointer a, .pointer b => sameAddr a b
  | .slice a n c, .slice b k d => sameAddr a b && Nat.beq n k && Nat.beq c d
  | .map none, .map none => true
  | .map (some a), .map (some b) => Nat.beq a b
  | .nilFunc, .nilFunc => true
  | .nilIface, .nilIface => true
  | .func (.func f) a b, .func (.func g) c d => Nat.beq f g && a.toList.isEmpty && b.toList.isEmpty && c.toList.isEmpty && d.toList.isEmpty
  | _, _ => false

def veqL : List Value → List Value → Bool
  | [], [] => true
  | a :: x, b :: y => veq1 a b && veqL x y
  | _, _ => false

def veq : Value → Value → Bool
  | .agg a, .agg b => veqL a.toList b.toList
  | .tuple a, .tuple b => veqL a.toList b.toList
  | a, b => veq1 a b

/-- what was read is read once more: it is as it was -/
def again (C : Ctx) (ops : Array Oper) (s : Slots) (m : Mem) : List Nat → Bool
  | [] => true
  | i :: r => (match ops[i]? with
    | some o => (match wanted ops s o with
      | some true => (match prim C s.eval o.op m, o.dst with
        | some (v, _), some d => veq v (s.get d)
        | _, _ => false)
      | some false => true
      | none => false)
    | none => false) && again C ops s m r

def runRest (C : Ctx) (call : CallF) (ops : Array Oper) : List Phase → Slots → Mem → Option (Slots × Mem)
  | [], s, m => some (s, m)
  | p :: r, s, m => (runIdx C call ops [p.eff] s m).bind fun (s, m) => (runIdx C call ops p.ops s m).bind fun (s, m) =>
      bif again C ops s m p.again then runRest C call ops r s m else none

def runPlan (C : Ctx) (call : CallF) (ops : Array Oper) (pl : Plan) (s : Slots) (m : Mem) : Option (Slots × Mem) :=
  (runIdx C call ops pl.first s m).bind fun (s, m) => bif again C ops s m pl.again then runRest C call ops pl.rest s m else none

inductive Cls where
  | pure | read | alloc | eff
  deriving DecidableEq

/-- does an operation read memory, make some, or may it write? -/
def cls (C : Ctx) : Op → Cls
  | .move _ | .pick .. | .build .. | .nilCheck _ | .binOp .. | .unOp .. | .makeInterface .. | .makeFunc .. | .slice .. | .fieldAddr .. | .field ..
  | .indexAddr .. | .index .. | .extract .. => .pure
  | .load .. | .lookup .. => .read
  | .alloc _ | .box .. | .buildSlice .. | .makeSlice .. | .makeMap .. => .alloc
  | .convert s d _ => (match C.under s, C.under d with
    | some (.slice _), _ => .read
    | _, some (.slice _) => .alloc
    | _, _ => .pure)
  | .call c => (match c.callee with
    | .builtin .len | .builtin .cap | .builtin .min | .builtin .max => .read
    | _ => .eff)
  | _ => .eff

inductive Ex where
  | normal | exit (id : Nat) | ret

abbrev Out := Option (Ex × Slots × Mem)

def iter : Nat → (Slots → Mem → Out) → Slots → Mem → Out
  | 0, _, _, _ => none
  | n + 1, f, s, m => (f s m).bind fun (e, s, m) => match e with
    | .normal => iter n f s m
    | e => some (e, s, m)

def rounds : Nat := 18446744073709551616

def runCode (C : Ctx) (call : CallF) (fid : Nat) : Code → Slots → Mem → Out
  | .skip, s, m => some (.normal, s, m)
  | .region id ops d, s, m =>
    (bif d then (match C.plans fid id with
      | some pl => runPlan C call ops pl s m
      | none => none)
    else runOps C call ops ops.toList s m).bind fun (s, m) => some (.normal, s, m)
  | .seq a b, s, m => (runCode C call fid a s m).bind fun (e, s, m) => match e with
    | .normal => runCode C call fid b s m
    | e => some (e, s, m)
  | .cond c a b, s, m => match s.eval c with
    | .bool t => bif t then runCode C call fid a s m else runCode C call fid b s m
    | _ => none
  | .block id b, s, m => (runCode C call fid b s m).bind fun (e, s, m) => match e with
    | .exit i => bif Nat.beq i id then some (.normal, s, m) else some (.exit i, s, m)
    | e => some (e, s, m)
  | .loop b, s, m => iter rounds (runCode C call fid b) s m
  | .exit id, s, m => some (.exit id, s, m)
  | .ret, s, m => some (.ret, s, m)
  | _, _, _ => none

def resV (C : Ctx) (s : Slots) (m : Mem) : List ResultVar → Option (List Value)
  | [] => some []
  | .tmp t :: r => (resV C s m r).bind fun l => some (s.get t :: l)
  | .cell a t :: r => (aload C t (s.get a) m).bind fun v => (resV C s m r).bind fun l => some (v :: l)

def mkRes : List Value → Value
  | [v] => v
  | l => .tuple ⟨l⟩

def initSlots (args : List Value) : Slots := ⟨buildTree 0 args .leaf⟩

def runFn (C : Ctx) (call : CallF) (fid : Nat) (fn : Func) (args : List Value) (m : Mem) : Ret :=
  match fn.body with
  | none => none
  | some c =>
    bif Nat.ble args.length fn.ntmps then
      (runCode C call fid c (initSlots args) m).bind fun (e, s, m) => match e with
        | .exit _ => none
        | _ => (resV C s m fn.results.toList).bind fun l => some (mkRes l, m)
    else none

/-- calls of a depth below n; 'X': functions that are not walked, but told -/
def callN (C : Ctx) (X : FuncId → Option (List Value → Mem → Ret)) : Nat → CallF
  | 0 => fun _ _ _ => none
  | n + 1 => fun f args m => match X f with
    | some g => g args m
    | none => (match C.funs.get f with
      | some fn => runFn C (callN C X n) f fn args m
      | none => none)

end Go.Ev
