import Derived.Calls
/- The abstract interpreter: definitions. -/
namespace Go.Abs
open Go

/-! ## A finite map by numbers -/
inductive Tr (α : Type) where
  | leaf
  | node (v : Option α) (l r : Tr α)

def Tr.get {α : Type} : Tr α → Nat → Option α
  | .leaf, _ => none
  | .node v l r, n => match n with
    | 0 => v
    | m + 1 => match m % 2 with
      | 0 => l.get (m / 2)
      | _ + 1 => r.get (m / 2)

def Tr.set {α : Type} (x : Option α) : Nat → Tr α → Nat → Tr α
  | 0, t, _ => t
  | f + 1, .leaf, n => match n with
    | 0 => .node x .leaf .leaf
    | m + 1 => match m % 2 with
      | 0 => .node none (Tr.set x f .leaf (m / 2)) .leaf
      | _ + 1 => .node none .leaf (Tr.set x f .leaf (m / 2))
  | f + 1, .node v l r, n => match n with
    | 0 => .node x l r
    | m + 1 => match m % 2 with
      | 0 => .node v (Tr.set x f l (m / 2)) r
      | _ + 1 => .node v l (Tr.set x f r (m / 2))

/-! ## Annotations -/
/-- what is done in a region whose order is open: an operation; a read is looked at again -/
inductive Act where
  | op (i : Nat)
  | re (i : Nat)

/-- Annotations: what stays of the temporaries behind a part of the code; the order of a region. -/
inductive An where
  | none
  | cat (a b : An)
  | seq (live : List Nat) (a b : An)
  | cond (a b : An)
  | block (live : List Nat) (a : An)
  | loop (live : List Nat) (a : An)
  | scope (a : An)
  | range (live : List Nat) (x y : An)
  | reg (order : List Act)

/-! ## The heap -/
inductive Ob where
  | cells (vs : List Value) (esz : Nat) (ro : Bool)
  | map (es : List (Value × Value × Nat)) (clock : Nat)
  | iter (m : Option Nat) (since : Nat) (seen : List Nat) (stepped : Nat)
  | loop (state : LoopState) (pending : Option Code) (fn : FuncId) (vals : List (Nat × Value)) (params : List Nat) (assign body : Code) (x y : An)

structure Hp where
  objs : Tr Ob
  size : Nat
  tape : List Nat
  pan : Option Value

inductive R (α : Type) where
  | ok (a : α) (h : Hp)
  | pan (v : Value) (h : Hp)
  | fail

abbrev M (α : Type) := Hp → R α

def Hp.get (h : Hp) (i : Nat) : Option Ob := h.objs.get i
def Hp.put (h : Hp) (i : Nat) (o : Option Ob) : Hp := { h with objs := h.objs.set o (i + 1) i }
def Hp.new (h : Hp) (o : Ob) : Hp := { h with objs := h.objs.set (some o) (h.size + 1) h.size, size := h.size + 1 }

def pureM {α : Type} (a : α) : M α := fun h => .ok a h
def failM {α : Type} : M α := fun _ => .fail

/-! ## Outcomes of code -/
inductive X where
  | norm (vs : List Value) (h : Hp)
  | exit (id : Nat) (vs : List Value) (h : Hp)
  | ret (vs : List Value) (h : Hp)
  | jump (c : Code) (h : Hp)
  | pan (v : Value) (h : Hp)
  | fail

def bx {α : Type} (m : M α) (k : α → Hp → X) : Hp → X := fun h =>
  match m h with
  | .ok a h => k a h
  | .pan v h => .pan v h
  | .fail => .fail

def bM {α β : Type} (m : M α) (k : α → M β) : M β := fun h =>
  match m h with
  | .ok a h => k a h
  | .pan v h => .pan v h
  | .fail => .fail

def retV (vs : List Value) : Hp → X := fun h => .ret vs h
def jumpV (c : Code) : Hp → X := fun h => .jump c h
def exitV (id : Nat) (vs : List Value) : Hp → X := fun h => .exit id vs h
def normV (vs : List Value) : Hp → X := fun h => .norm vs h

def sx (m : Hp → X) (k : List Value → Hp → X) : Hp → X := fun h =>
  match m h with
  | .norm vs h => k vs h
  | x => x

/-- leaves of a block -/
def blockX (id : Nat) (m : Hp → X) : Hp → X := fun h =>
  match m h with
  | .exit i vs h => match Nat.beq i id with
    | true => .norm vs h
    | false => .exit i vs h
  | x => x

def loopX (body : List Value → Hp → X) : Nat → List Value → Hp → X
  | 0, _, _ => .fail
  | n + 1, vs, h => match body vs h with
    | .norm vs h => loopX body n vs h
    | x => x

def bodyR (m : Hp → X) (k : List Value → M Value) : M Value := fun h => match m h with
  | .ret vs h => k vs h
  | .pan v h => .pan v h
  | _ => .fail

/-! ## The types' tables -/
section types
variable (P : Program)
def descOf (t : TypeId) : TypeDesc := (P.underlying t).getD .invalid
def sizeT (t : TypeId) : Nat := P.cellsOf t
def bytesT (t : TypeId) : Nat := P.bytesOf t
def aggT (t : TypeId) : Bool := match descOf P t with | .struct _ | .array _ _ => true | _ => false
def zeroT (t : TypeId) : Option Value := (P.info? t).bind (·.zero)
def zeroCellsT (t : TypeId) : List Value := match zeroT P t with | some v => v.cells.toList | none => []
/-- the tables have these types -/
def okT (t : TypeId) : Bool := (P.info? t).isSome && (P.underlying t).isSome
def elemT (t : TypeId) : TypeId := match descOf P t with | .slice e => e | .array _ e => e | _ => 0
end types

/-- static checks: places to write, constants without addresses -/
def flat1 : Value → Bool
  | .bool _ | .int _ _ | .string _ | .pointer none | .map none | .nilFunc | .nilIface => true
  | .slice none 0 0 => true
  | .func (.func _) a c => a.toList.isEmpty && c.toList.isEmpty
  | _ => false
def flatB : Value → Bool
  | .agg a => a.toList.all flat1
  | .tuple a => a.toList.all flat1
  | v => flat1 v
/-! ## Primitive operations -/
def one : Value → Bool
  | .agg _ | .tuple _ | .chan _ => false
  | _ => true

def undefV : Value := .tuple #[]
/-- what an operation leaves that was not to be done -/
def skV : Value := .chan none

def notTup : Value → Bool
  | .tuple _ => false
  | _ => true

/-- capacities from here on: 'at least so much above the mark' -/
def INX : Nat := 2 ^ 70

/-- an index, if it is one below a bound -/
def natOf : Value → Option Nat
  | .int _ (.ofNat n) => some n
  | _ => none

def allocM (vs : List Value) (ty : Nat) : M Value := fun h =>
  .ok (.pointer (some ⟨h.size, 0, none⟩)) (h.new (.cells vs ty false))

/-- a value in memory of its own -/
def boxM (v : Value) (ty : Nat) : M Value := fun h =>
  match v with
  | .tuple _ => .fail
  | v => .ok (.pointer (some ⟨h.size, 0, none⟩)) (h.new (.cells v.cells.toList ty false))

def ifaceM (t : TypeId) (v : Value) : M Value := fun h =>
  match v with
  | .tuple _ => .fail
  | v => .ok (.iface t v) h

def ldM (agg : Bool) (n : Nat) (p : Value) : M Value := fun h =>
  match p with
  | .pointer (some ⟨i, off, none⟩) => match h.get i with
    | some (.cells vs _ _) => match agg with
      | true => match Nat.ble (off + n) vs.length with
        | true => .ok (.agg ⟨(vs.drop off).take n⟩) h
        | false => .fail
      | false => match vs[off]? with
        | some c => .ok c h
        | none => .fail
    | _ => .fail
  | _ => .fail

def splice (vs : List Value) (off : Nat) (cs : List Value) : List Value := vs.take off ++ cs ++ vs.drop (off + cs.length)

def stM (n : Nat) (p v : Value) : M Value := fun h =>
  match p with
  | .pointer (some ⟨i, off, none⟩) => match h.get i with
    | some (.cells vs ty false) =>
      match Nat.beq v.cells.toList.length n && (v.cells.toList.all one && Nat.ble (off + n) vs.length) with
      | true => .ok undefV (h.put i (some (.cells (splice vs off v.cells.toList) ty false)))
      | false => .fail
    | _ => .fail
  | _ => .fail

def nilCheckM (p : Value) : M Value := fun h =>
  match p with
  | .pointer (some a) => .ok (.pointer (some a)) h
  | .func (.func f) a b => .ok (.func (.func f) a b) h
  | .func (.yield f) a b => .ok (.func (.yield f) a b) h
  | .iface t v => .ok (.iface t v) h
  | _ => .fail

def fieldAddrM (off : Nat) (p : Value) : M Value := fun h =>
  match p with
  | .pointer (some ⟨i, o, none⟩) => .ok (.pointer (some ⟨i, o + off, none⟩)) h
  | _ => .fail

def elemAddrM (size : Nat) (p ix : Value) : M Value := fun h =>
  match p, ix with
  | .slice (some ⟨i, o, none⟩) len _, .int _ (.ofNat n) => match Nat.blt n len with
      | true => .ok (.pointer (some ⟨i, o + n * size, none⟩)) h
      | false => .fail
  | _, _ => .fail

def arrAddrM (len size : Nat) (p ix : Value) : M Value := fun h =>
  match p, ix with
  | .pointer (some ⟨i, o, none⟩), .int _ (.ofNat n) => match Nat.blt n len with
      | true => .ok (.pointer (some ⟨i, o + n * size, none⟩)) h
      | false => .fail
  | _, _ => .fail

def partL (agg : Bool) (n off : Nat) (cs : List Value) : Option Value :=
  match agg with
  | true => match Nat.ble (off + n) cs.length with
    | true => some (.agg ⟨(cs.drop off).take n⟩)
    | false => none
  | false => cs[off]?

def fieldM (agg : Bool) (n off : Nat) (x : Value) : M Value := fun h =>
  match x with
  | .agg cs => match partL agg n off cs.toList with | some v => .ok v h | none => .fail
  | _ => .fail

/-- an array's element -/
def indexM (len : Nat) (agg : Bool) (size : Nat) (x ix : Value) : M Value := fun h =>
  match x, ix with
  | .agg cs, .int _ (.ofNat n) => match Nat.blt n len with
    | true => match partL agg size (n * size) cs.toList with | some v => .ok v h | none => .fail
    | false => .fail
  | _, _ => .fail

/-- a string's byte -/
def indexStrM (x ix : Value) : M Value := fun h =>
  match x, ix with
  | .string s, .int _ (.ofNat n) => match s.data.toList[n]? with
    | some b => .ok (.int .u8 b.toNat) h
    | none => .fail
  | _, _ => .fail

def extractM (p : Value) (i : Nat) : M Value := fun h =>
  match p with
  | .tuple vs => match vs.toList[i]? with
    | some v => .ok v h
    | none => .fail
  | _ => .fail

def fillL : List (Nat × Nat × Value) → List Value → Option (List Value)
  | [], cs => some cs
  | (off, size, v) :: rest, cs =>
    match Nat.beq v.cells.toList.length size && (Nat.ble (off + size) cs.length && notTup v) with
    | true => fillL rest (splice cs off v.cells.toList)
    | false => none

def buildM (zero : List Value) (parts : List (Nat × Nat × Value)) : M Value := fun h =>
  match fillL parts zero with
  | some cs => .ok (.agg ⟨cs⟩) h
  | none => .fail

def rep (zero : List Value) : Nat → List Value
  | 0 => []
  | n + 1 => zero ++ rep zero n

def buildSliceM (ty : Nat) (zero : List Value) (len : Nat) (parts : List (Nat × Nat × Value)) : M Value := fun h =>
  match Nat.ble (len * zero.length) 1000000 && Nat.ble len 1000000, fillL parts (rep zero len) with
  | true, some cs => .ok (.slice (some ⟨h.size, 0, none⟩) len len) (h.new (.cells cs ty false))
  | _, _ => .fail

def makeSliceM (ty : Nat) (zero : List Value) (bytes : Nat) (l c : Value) : M Value := fun h =>
  match l, c with
  | .int _ (.ofNat l), .int _ (.ofNat c) => match Nat.ble l c && Nat.ble (c * (bytes + 1)) (2 ^ 47) with
    | true => .ok (.slice (some ⟨h.size, 0, none⟩) l c) (h.new (.cells (rep zero c) ty false))
    | false => .fail
  | _, _ => .fail

def bytesEq : List UInt8 → List UInt8 → Bool
  | [], [] => true
  | a :: x, b :: y => match Nat.beq a.toNat b.toNat with | true => bytesEq x y | false => false
  | _, _ => false

def bytesLt : List UInt8 → List UInt8 → Bool
  | _, [] => false
  | [], _ :: _ => true
  | a :: x, b :: y => match Nat.blt a.toNat b.toNat with
    | true => true
    | false => match Nat.beq a.toNat b.toNat with | true => bytesLt x y | false => false

/-- kinds of cells without addresses -/
inductive LK where
  | b | i | s

/-- how values are compared -/
inductive EK where
  | ptr | slice | map | func | iface
  | flat (agg : Bool) (ks : List LK)

def eqCell : LK → Value → Value → Option Bool
  | .b, .bool a, .bool b => some (match a, b with | true, true => true | false, false => true | _, _ => false)
  | .i, .int k a, .int k' b => match decide (k = k') with | true => some (decide (a = b)) | false => none
  | .s, .string a, .string b => some (bytesEq a.data.toList b.data.toList)
  | _, _, _ => none

def eqL : List LK → List Value → List Value → Option Bool
  | [], [], [] => some true
  | k :: ks, a :: x, b :: y => match eqCell k a b, eqL ks x y with
    | some r, some r' => some (r && r')
    | _, _ => none
  | _, _, _ => none

def eqV (k : EK) (a b : Value) : Option Bool :=
  match k with
  | .ptr => match a, b with
    | .pointer none, .pointer b => some b.isNone
    | .pointer (some _), .pointer none => some false
    | _, _ => none
  | .slice => match a, b with
    | .slice none _ _, .slice b _ _ => some b.isNone
    | .slice (some _) _ _, .slice none _ _ => some false
    | _, _ => none
  | .map => match a, b with
    | .map none, .map b => some b.isNone
    | .map (some _), .map none => some false
    | _, _ => none
  | .func => match a, b with
    | .nilFunc, .nilFunc => some true
    | .nilFunc, .func _ _ _ => some false
    | .func _ _ _, .nilFunc => some false
    | _, _ => none
  | .iface => match a, b with
    | .nilIface, .nilIface => some true
    | .nilIface, .iface _ _ => some false
    | .iface _ _, .nilIface => some false
    | _, _ => none
  | .flat agg ks => match agg with
    | true => match a, b with
      | .agg x, .agg y => eqL ks x.toList y.toList
      | _, _ => none
    | false => eqL ks [a] [b]

def intM (op : BinOp) (k : IntKind) (x y : Int) : M Value := fun h =>
  match op with
  | .add => .ok (.int k (k.wrap (x + y))) h
  | .sub => .ok (.int k (k.wrap (x - y))) h
  | .mul => .ok (.int k (k.wrap (x * y))) h
  | .quo => match decide (y = 0) with | true => .fail | false => .ok (.int k (k.wrap (x.tdiv y))) h
  | .rem => match decide (y = 0) with | true => .fail | false => .ok (.int k (x.tmod y)) h
  | .and => .ok (.int k (k.wrap ((BitVec.ofInt k.bits x) &&& (BitVec.ofInt k.bits y)).toNat)) h
  | .or => .ok (.int k (k.wrap ((BitVec.ofInt k.bits x) ||| (BitVec.ofInt k.bits y)).toNat)) h
  | .xor => .ok (.int k (k.wrap ((BitVec.ofInt k.bits x) ^^^ (BitVec.ofInt k.bits y)).toNat)) h
  | .andNot => .ok (.int k (k.wrap ((BitVec.ofInt k.bits x) &&& ~~~(BitVec.ofInt k.bits y)).toNat)) h
  | .eql => .ok (.bool (decide (x = y))) h
  | .neq => .ok (.bool (!decide (x = y))) h
  | .lss => .ok (.bool (decide (x < y))) h
  | .leq => .ok (.bool (decide (x ≤ y))) h
  | .gtr => .ok (.bool (decide (y < x))) h
  | .geq => .ok (.bool (decide (y ≤ x))) h
  | _ => .fail

def strM (op : BinOp) (a b : ByteArray) : M Value := fun h =>
  match op with
  | .add => match Nat.ble (a.data.toList.length + b.data.toList.length) (2 ^ 47) with
    | true => .ok (.string ⟨⟨a.data.toList ++ b.data.toList⟩⟩) h
    | false => .fail
  | .eql => .ok (.bool (bytesEq a.data.toList b.data.toList)) h
  | .neq => .ok (.bool (!bytesEq a.data.toList b.data.toList)) h
  | .lss => .ok (.bool (bytesLt a.data.toList b.data.toList)) h
  | .geq => .ok (.bool (!bytesLt a.data.toList b.data.toList)) h
  | _ => .fail

def shM (op : BinOp) (k : IntKind) (x y : Int) : M Value := fun h =>
  match y with
  | .ofNat y => match op with
    | .shl => .ok (.int k (k.wrap (x * 2 ^ (min y k.bits)))) h
    | .shr => .ok (.int k (x.fdiv (2 ^ (min y k.bits)))) h
    | _ => .fail
  | _ => .fail

def isSh : BinOp → Bool | .shl | .shr => true | _ => false

/-- everything but comparisons for equality of what is no number and no string -/
def binM (op : BinOp) (a b : Value) : M Value := fun h =>
  match a, b with
  | .int k x, .int k' y => match isSh op with
    | true => shM op k x y h
    | false => match decide (k = k') with
      | false => .fail
      | true => intM op k x y h
  | .string a, .string b => strM op a b h
  | _, _ => .fail

def eqM (k : EK) (neg : Bool) (a b : Value) : M Value := fun h =>
  match eqV k a b with
  | some r => .ok (.bool (match neg with | true => !r | false => r)) h
  | none => .fail

def unM (op : UnOp) (x : Value) : M Value := fun h =>
  match op, x with
  | .neg, .int k n => .ok (.int k (k.wrap (0 - n))) h
  | .not, .bool b => .ok (.bool !b) h
  | .xor, .int k n => intM .xor k (if k.signed then -1 else k.max) n h
  | _, _ => .fail

def pickM (c a b : Value) : M Value := fun h =>
  match c with
  | .bool true => .ok a h
  | .bool false => .ok b h
  | _ => .fail

def lenSlM (x : Value) : M Value := fun h =>
  match x with
  | .slice _ n _ => .ok (.int .i64 n) h
  | _ => .fail

def lenStrM (x : Value) : M Value := fun h =>
  match x with
  | .string s => .ok (.int .i64 s.data.toList.length) h
  | _ => .fail

def lenMapM (x : Value) : M Value := fun h =>
  match x with
  | .map none => .ok (.int .i64 0) h
  | .map (some r) => match h.get r with
    | some (.map es _) => .ok (.int .i64 es.length) h
    | _ => .fail
  | _ => .fail

def min2 (a b : Value) : Option Value :=
  match a, b with
  | .int k x, .int k' y => match decide (k = k') with | true => some (.int k (if y < x then y else x)) | false => none
  | _, _ => none
def max2 (a b : Value) : Option Value :=
  match a, b with
  | .int k x, .int k' y => match decide (k = k') with | true => some (.int k (if x < y then y else x)) | false => none
  | _, _ => none
def foldV (f : Value → Value → Option Value) : Value → List Value → Option Value
  | a, [] => some a
  | a, b :: r => match f a b with | some c => foldV f c r | none => none
def minM (f : Value → Value → Option Value) (xs : List Value) : M Value := fun h =>
  match xs with
  | [] => .fail
  | a :: r => match foldV f a r with | some v => .ok v h | none => .fail

/-- integers to integers -/
def convIntM (k : IntKind) (x : Value) : M Value := fun h =>
  match x with
  | .int _ n => .ok (.int k (k.wrap n)) h
  | _ => .fail

def u8 (b : UInt8) : Value := .int .u8 b.toNat

def toBytesM (ty : Nat) (x : Value) : M Value := fun h =>
  match x with
  | .string s => .ok (.slice (some ⟨h.size, 0, none⟩) s.data.toList.length (INX + s.data.toList.length)) (h.new (.cells (s.data.toList.map u8) ty false))
  | _ => .fail

def bytesOfCells : List Value → Option (List UInt8)
  | [] => some []
  | .int .u8 n :: r => match bytesOfCells r with | some l => some (UInt8.ofNat n.toNat :: l) | none => none
  | _ :: _ => none

/-- the cells of the first n elements -/
def cellsM (size n : Nat) (x : Value) (h : Hp) : Option (List Value) :=
  match x with
  | .slice none _ _ => match n with | 0 => some [] | _ + 1 => none
  | .slice (some ⟨i, off, none⟩) len _ => match n with
    | 0 => some []
    | _ + 1 => match h.get i with
      | some (.cells vs _ _) => match Nat.ble (off + n * size) vs.length && Nat.ble n len with
        | true => some ((vs.drop off).take (n * size))
        | false => none
      | _ => none
  | .string s => match Nat.ble n s.data.toList.length && Nat.beq size 1 with
    | true => some ((s.data.toList.take n).map u8)
    | false => none
  | _ => none

def toStringM (x : Value) : M Value := fun h =>
  match x with
  | .slice _ len _ => match cellsM 1 len x h with
    | some cs => match bytesOfCells cs with
      | some l => .ok (.string ⟨⟨l⟩⟩) h
      | none => .fail
    | none => .fail
  | _ => .fail

def boundL (o : Option Value) (d : Nat) : Option Nat :=
  match o with
  | none => some d
  | some v => natOf v

def sliceStrM (x : Value) (lo hi : Option Value) : M Value := fun h =>
  match x with
  | .string s => match boundL lo 0, boundL hi s.data.toList.length with
    | some l, some u => match Nat.ble l u && Nat.ble u s.data.toList.length with
      | true => .ok (.string ⟨⟨(s.data.toList.take u).drop l⟩⟩) h
      | false => .fail
    | _, _ => .fail
  | _ => .fail

def addA (a : Addr) (n : Nat) : Addr := match n with | 0 => a | _ + 1 => ⟨a.block, a.off + n, none⟩

/-- how far a slice may be sliced, for sure -/
def capL (cap : Nat) : Nat := match Nat.ble INX cap with | true => cap - INX | false => cap

/-- the size of the elements behind an address -/
def eszOf (a : Option Addr) (h : Hp) : Option Nat := match a with
  | some a => match h.get a.block with
    | some (.cells _ z _) => some z
    | _ => none
  | none => none

/-- a slice of a slice -/
def sliceSlM (size : Nat) (x : Value) (lo hi mx : Option Value) : M Value := fun h =>
  match x with
  | .slice a len cap => match boundL lo 0, boundL hi len with
    | some l, some u => match mx with
      | some m => match natOf m, hi with
        | some m, some _ => match Nat.ble l u && (Nat.ble u m && (Nat.ble m (capL cap) && Nat.blt m INX)) with
          | true => .ok (.slice (match Nat.beq m l with | true => a | false => a.map (addA · (l * size))) (u - l) (m - l)) h
          | false => .fail
        | _, _ => .fail
      | none => match Nat.ble l u && Nat.ble u (capL cap) with
        | true => match Nat.ble INX cap with
          | true => match eszOf a h with
            | some z => match Nat.beq z size with
              | true => .ok (.slice (a.map (addA · (l * size))) (u - l) (cap - l)) h
              | false => .fail
            | none => .fail
          | false => .ok (.slice (match Nat.beq cap l with | true => a | false => a.map (addA · (l * size))) (u - l) (cap - l)) h
        | false => .fail
    | _, _ => .fail
  | _ => .fail

/-- a slice of an array -/
def sliceArrM (n size : Nat) (x : Value) (lo hi : Option Value) : M Value := fun h =>
  match x with
  | .pointer (some a) => match boundL lo 0, boundL hi n with
    | some l, some u => match Nat.ble l u && Nat.ble u n with
      | true => .ok (.slice (some (match Nat.beq n l with | true => a | false => addA a (l * size))) (u - l) (n - l)) h
      | false => .fail
    | _, _ => .fail
  | _ => .fail

/-- the cells to be appended, and how many elements -/
def lenV : Value → Option Nat
  | .slice _ n _ => some n
  | .string s => some s.data.toList.length
  | _ => none

def appendM (size bytes : Nat) (s x : Value) : M Value := fun h =>
  match s, lenV x with
  | .slice base len cap, some n => match n with
    | 0 => .ok (.slice base len cap) h
    | _ + 1 => match cellsM size n x h, Nat.ble ((2 * (len + n) + 1024) * (bytes + 1)) (2 ^ 47) with
      | some xs, true => match base with
        | none => match cap with
          | 0 => .ok (.slice (some ⟨h.size, 0, none⟩) (len + n) (INX + (len + n))) (h.new (.cells xs size false))
          | _ + 1 => .fail
        | some ⟨i, off, none⟩ => match h.get i with
          | some (.cells vs ty' ro) =>
            match Nat.ble (len + n) (capL cap) with
            | true => match ro, Nat.ble (off + (len + n) * size) vs.length && xs.all one with
              | false, true => .ok (.slice base (len + n) cap) (h.put i (some (.cells (splice vs (off + len * size) xs) ty' false)))
              | _, _ => .fail
            | false => match Nat.ble INX cap with
              | true => match ro, Nat.beq (off + len * size) vs.length && (Nat.beq ty' size && xs.all one) with
                | false, true => .ok (.slice (some ⟨h.size, 0, none⟩) (len + n) (INX + (len + n))) ((h.put i none).new (.cells (vs.drop off ++ xs) size false))
                | _, _ => .fail
              | false => match Nat.ble (off + len * size) vs.length with
                | true => .ok (.slice (some ⟨h.size, 0, none⟩) (len + n) (INX + (len + n))) (h.new (.cells ((vs.drop off).take (len * size) ++ xs) size false))
                | false => .fail
          | _ => .fail
        | _ => .fail
      | _, _ => .fail
  | _, _ => .fail

def copyM (size : Nat) (d s : Value) : M Value := fun h =>
  match d, lenV s with
  | .slice base len _, some n => match min n len with
    | 0 => .ok (.int .i64 0) h
    | m + 1 => match cellsM size (m + 1) s h, base with
      | some xs, some ⟨i, off, none⟩ => match h.get i with
        | some (.cells vs ty false) => match Nat.ble (off + (m + 1) * size) vs.length && xs.all one with
          | true => .ok (.int .i64 ((m + 1 : Nat) : Int)) (h.put i (some (.cells (splice vs off xs) ty false)))
          | false => .fail
        | _ => .fail
      | _, _ => .fail
  | _, _ => .fail

def clearM (size : Nat) (zero : List Value) (x : Value) : M Value := fun h =>
  match x with
  | .slice _ 0 _ => .ok undefV h
  | .slice (some ⟨i, off, none⟩) n _ => match h.get i with
    | some (.cells vs ty false) => match Nat.ble (off + n * size) vs.length && (Nat.beq zero.length size && zero.all one) with
      | true => .ok undefV (h.put i (some (.cells (splice vs off (rep zero n)) ty false)))
      | false => .fail
    | _ => .fail
  | _ => .fail

def clearMapM (x : Value) : M Value := fun h =>
  match x with
  | .map none => .ok undefV h
  | .map (some r) => match h.get r with
    | some (.map _ c) => .ok undefV (h.put r (some (.map [] c)))
    | _ => .fail
  | _ => .fail

/-! ### maps -/
def findL (ek : EK) (k : Value) : List (Value × Value × Nat) → Nat → Option (Option (Nat × Value × Nat))
  | [], _ => some none
  | (k', v, b) :: es, i => match eqV ek k k' with
    | some true => some (some (i, v, b))
    | some false => findL ek k es (i + 1)
    | none => none

/-- a key of the kind -/
def keyOk (ek : EK) (k : Value) : Bool := match ek, eqV ek k k with
  | .flat _ _, some _ => true
  | _, _ => false

def makeMapM : M Value := fun h => .ok (.map (some h.size)) (h.new (.map [] 0))

def lookupM (ek : EK) (zero : Option Value) (ok : Bool) (x k : Value) : M Value := fun h =>
  match keyOk ek k, zero with
  | true, some z =>
    let out : Option (Option (Nat × Value × Nat)) := match x with
      | .map none => some none
      | .map (some r) => match h.get r with
        | some (.map es _) => findL ek k es 0
        | _ => none
      | _ => none
    match out with
    | some (some (_, v, _)) => .ok (match ok with | true => .tuple #[v, .bool true] | false => v) h
    | some none => .ok (match ok with | true => .tuple #[z, .bool false] | false => z) h
    | none => .fail
  | _, _ => .fail

def setAt {α : Type} : List α → Nat → α → List α
  | [], _, _ => []
  | _ :: l, 0, x => x :: l
  | a :: l, n + 1, x => a :: setAt l n x

def updateM (ek : EK) (x k v : Value) : M Value := fun h =>
  match keyOk ek k, x with
  | true, .map (some r) => match h.get r with
    | some (.map es c) => match findL ek k es 0 with
      | some (some (i, _, b)) => .ok undefV (h.put r (some (.map (setAt es i (k, v, b)) c)))
      | some none => .ok undefV (h.put r (some (.map (es ++ [(k, v, c)]) (c + 1))))
      | none => .fail
    | _ => .fail
  | _, _ => .fail

def mapEntryM (ek : EK) (zero : Option Value) (x k : Value) : M Value := fun h =>
  match keyOk ek k, x, zero with
  | true, .map (some r), some z => match h.get r with
    | some (.map es c) => match findL ek k es 0 with
      | some (some (i, v, b)) => .ok (.tuple #[v, .int .i64 (b : Int)]) (h.put r (some (.map (setAt es i (k, v, b)) c)))
      | some none => .ok (.tuple #[z, .int .i64 (c : Int)]) (h.put r (some (.map (es ++ [(k, z, c)]) (c + 1))))
      | none => .fail
    | _ => .fail
  | _, _, _ => .fail

def findBorn (b : Nat) : List (Value × Value × Nat) → Nat → Option (Nat × Value × Value)
  | [], _ => none
  | (k, v, b') :: es, i => match Nat.beq b' b with | true => some (i, k, v) | false => findBorn b es (i + 1)

def entryStoreM (x s v : Value) : M Value := fun h =>
  match x, s with
  | .map (some r), .int _ (.ofNat b) => match h.get r with
    | some (.map es c) => match findBorn b es 0 with
      | some (i, k, _) => .ok undefV (h.put r (some (.map (setAt es i (k, v, b)) c)))
      | none => .fail
    | _ => .fail
  | _, _ => .fail

def eraseAt {α : Type} : List α → Nat → List α
  | [], _ => []
  | _ :: l, 0 => l
  | a :: l, n + 1 => a :: eraseAt l n

def deleteM (ek : EK) (x k : Value) : M Value := fun h =>
  match keyOk ek k, x with
  | true, .map none => .ok undefV h
  | true, .map (some r) => match h.get r with
    | some (.map es c) => match findL ek k es 0 with
      | some (some (i, _, _)) => .ok undefV (h.put r (some (.map (eraseAt es i) c)))
      | some none => .ok undefV (h.put r (some (.map es c)))
      | none => .fail
    | _ => .fail
  | _, _ => .fail

def rangeM (x : Value) : M Value := fun h =>
  match x with
  | .map none => .ok (.pointer (some ⟨h.size, 0, none⟩)) (h.new (.iter none 0 [] 0))
  | .map (some r) => match h.get r with
    | some (.map _ c) => .ok (.pointer (some ⟨h.size, 0, none⟩)) (h.new (.iter (some r) c [] c))
    | _ => .fail
  | _ => .fail

def memB (b : Nat) : List Nat → Bool
  | [] => false
  | x :: l => match Nat.beq x b with | true => true | false => memB b l

/-- one step of a range over a map; insertions since the start are not taken -/
def nextM (p : Value) : M Value := fun h =>
  match p with
  | .pointer (some ⟨i, 0, none⟩) => match h.get i with
    | some (.iter none _ _ _) => .ok (.tuple #[.bool false]) h
    | some (.iter (some r) since seen last) => match h.get r with
      | some (.map es c) => match Nat.beq c since && (Nat.beq last c && es.all (fun e => Nat.blt e.2.2 c)) with
        | false => .fail
        | true => match es.filter fun e => !memB e.2.2 seen with
          | [] => .ok (.tuple #[.bool false]) h
          | [e] => .ok (.tuple #[.bool true, e.1, e.2.1]) (h.put i (some (.iter (some r) since (seen ++ [e.2.2]) c)))
          | _ => .fail
      | _ => .fail
    | _ => .fail
  | _ => .fail

def entryM (p : Value) : M Value := fun h =>
  match p with
  | .pointer (some ⟨i, 0, none⟩) => match h.get i with
    | some (.iter (some r) _ seen last) => match h.get r, seen.reverse with
      | some (.map es c), b :: _ => match Nat.beq c last, findBorn b es 0 with
        | true, some (_, k, v) => .ok (.tuple #[k, v]) h
        | _, _ => .fail
      | _, _ => .fail
    | _ => .fail
  | _ => .fail

def typeAssertM (t : TypeId) (zero : Option Value) (x : Value) : M Value := fun h =>
  match x, zero with
  | .iface u v, some z => match Nat.beq u t with
    | true => .ok (.tuple #[v, .bool true]) h
    | false => .ok (.tuple #[z, .bool false]) h
  | .nilIface, some z => .ok (.tuple #[z, .bool false]) h
  | _, _ => .fail

def panicM (x : Value) : M Value := fun h =>
  match x with
  | .iface t v => .pan (.iface t v) h
  | _ => .fail

def recoverM : M Value := fun h =>
  match h.pan with
  | some v => .ok v { h with pan := none }
  | none => .ok .nilIface h

def condX (c : Value) (a b : Hp → X) : Hp → X := fun h =>
  match c with
  | .bool true => a h
  | .bool false => b h
  | _ => .fail

/-! ### equality of values, for the checks in regions whose order is open -/
mutual
def beqV : Value → Value → Bool
  | .bool a, .bool b => match a, b with | true, true => true | false, false => true | _, _ => false
  | .int k a, .int k' b => match decide (k = k') with | true => decide (a = b) | false => false
  | .string a, .string b => bytesEq a.data.toList b.data.toList
  | .pointer a, .pointer b => decide (a = b)
  | .slice a l c, .slice b l' c' => match decide (a = b) with | true => Nat.beq l l' && Nat.beq c c' | false => false
  | .map a, .map b => decide (a = b)
  | .nilFunc, .nilFunc => true
  | .nilIface, .nilIface => true
  | .chan a, .chan b => decide (a = b)
  | .func f a b, .func f' a' b' => match decide (f = f') with
    | true => beqA a a' && beqA b b'
    | false => false
  | .iface t v, .iface t' v' => match Nat.beq t t' with | true => beqV v v' | false => false
  | .agg a, .agg b => beqA a b
  | .tuple a, .tuple b => beqA a b
  | _, _ => false
def beqA : Array Value → Array Value → Bool
  | ⟨a⟩, ⟨b⟩ => beqL a b
def beqL : List Value → List Value → Bool
  | [], [] => true
  | a :: x, b :: y => match beqV a b with | true => beqL x y | false => false
  | _, _ => false
end

/-- the same value as before -/
def reM (u : Value) (m : M Value) : M Value := fun h =>
  match m h with
  | .ok v _ => match beqV v u with
    | true => .ok u h
    | false => .fail
  | _ => .fail

/-! ## Code -/
inductive Tgt where
  | fn (f : FuncId)
  | yld (l : Nat)

abbrev St := Nat → Value
def St.set (st : St) (d : Option Nat) (v : Value) : St := match d with
  | some d => fun i => match Nat.beq i d with | true => v | false => st i
  | none => st
/-- the i-th of a list -/
def nth : List Value → Nat → Value
  | [], _ => undefV
  | v :: _, 0 => v
  | _ :: l, n + 1 => nth l n
def mkSt (vs : List Value) : List Nat → Nat → St
  | d :: ds, k => fun i => match Nat.beq i d with | true => nth vs k | false => mkSt vs ds (k + 1) i
  | [], _ => fun _ => undefV

def St.op (st : St) : Operand → Value
  | .tmp t => st t
  | .const v => v
  | .func f => .func (.func f) #[] #[]
  | .global _ => undefV

section exec
variable (P : Program) (cl : Tgt → List Value → M Value) (fuel : Nat) (fn : Func)

/-- the method of a pointer behind an interface -/
def methodT (t : TypeId) (name : String) : Option FuncId :=
  match P.info? t with
  | some i => match i.methods.find? (·.name == name) with
    | some m => match m.path.toList, m.func, descOf P t with
      | [], some (f, true), .pointer _ => some f
      | _, _, _ => none
    | none => none
  | none => none

def invokeM (name : String) (r : Value) (args : List Value) : M Value := fun h =>
  match r with
  | .iface t v => match methodT P t name with
    | some f => cl (.fn f) (v :: args) h
    | none => .fail
  | _ => .fail

def callM (v : Value) (args : List Value) : M Value := fun h =>
  match v with
  | .func (.func f) first captured => cl (.fn f) (first.toList ++ (args ++ captured.toList)) h
  | .func (.yield l) first _ => cl (.yld l) (first.toList ++ args) h
  | .func (.method name) first _ => match first.toList ++ args with
    | r :: args => invokeM P cl name r args h
    | [] => .fail
  | _ => .fail

/-- a type whose zero value is as it must be -/
def okZ (t : TypeId) : Bool := okT P t && match zeroT P t with
  | some z => Nat.beq z.cells.toList.length (sizeT P t) && (flatB z && notTup z)
  | none => false

def zyM (ts : List TypeId) (m : M Value) : M Value := match ts.all (okZ P) with
  | true => m
  | false => failM

/-- the places of a struct's or an array's parts -/
def partsT (t : TypeId) (st : Operand → Value) (parts : List (Nat × Operand)) : Option (List (Nat × Nat × Value)) :=
  match descOf P t with
  | .struct fs => match fs.toList.all (fun f => okT P f.type) with
    | true => go (fun i => match fs.toList[i]? with | some f => some (f.offset, sizeT P f.type) | none => none) parts
    | false => none
  | .array _ e => match okT P e with
    | true => go (fun i => some (i * sizeT P e, sizeT P e)) parts
    | false => none
  | _ => none
  where go (place : Nat → Option (Nat × Nat)) : List (Nat × Operand) → Option (List (Nat × Nat × Value))
  | [] => some []
  | (i, x) :: r => match place i, go place r with
    | some (o, z), some l => some ((o, z, st x) :: l)
    | _, _ => none

def tyM (ts : List TypeId) (m : M Value) : M Value := match ts.all (okT P) with
  | true => m
  | false => failM

def reptK (ks : List LK) : Nat → List LK
  | 0 => []
  | n + 1 => ks ++ reptK ks n

def leafsGo (lf : TypeId → Option (List LK)) : List Field → List LK → Option (List LK)
  | [], acc => some acc
  | f :: fs, acc => match lf f.type with
    | some ks => match Nat.beq f.offset acc.length && (Nat.beq (sizeT P f.type) ks.length && (f.name != "_")) with
      | true => leafsGo lf fs (acc ++ ks)
      | false => none
    | none => none

/-- the kinds of a type's cells, if none of them is an address and none is blank -/
def leafs : Nat → TypeId → Option (List LK)
  | 0, _ => none
  | d + 1, t => match okT P t with
    | false => none
    | true => match descOf P t with
      | .bool => some [.b]
      | .int _ => some [.i]
      | .string => some [.s]
      | .struct fs => match P.stoodInHeld t with
        | true => none
        | false => leafsGo P (leafs d) fs.toList []
      | .array n e => match leafs d e with
        | some ks => match Nat.beq ks.length (sizeT P e) with
          | true => some (reptK ks n)
          | false => none
        | none => none
      | _ => none

def kindT (t : TypeId) : Option EK := match okT P t with
  | false => none
  | true => match descOf P t with
    | .pointer _ => some .ptr
    | .slice _ => some .slice
    | .map _ _ => some .map
    | .func _ _ _ => some .func
    | .interface _ => some .iface
    | _ => match leafs P 10 t with
      | some ks => some (.flat (aggT P t) ks)
      | none => none

/-- a map's key type must be plain -/
def mapM (t : TypeId) (m : EK → M Value) : M Value := match descOf P t with
  | .map k e => match kindT P k with
    | some ek => zyM P [e] (m ek)
    | none => failM
  | _ => failM

/-- kinds that may be compared; of interfaces one side must be a constant -/
def okEq (c : Bool) : EK → Bool
  | .iface => c
  | .flat true _ => Nat.ble 10 P.depth
  | _ => true

def isC : Operand → Bool
  | .const _ => true
  | _ => false

def binopM (op : BinOp) (t : TypeId) (c : Bool) (a b : Value) : M Value :=
  match descOf P t with
  | .int _ | .string => binM op a b
  | _ => match op, kindT P t with
    | .eql, some k => match okEq P c k with | true => eqM k false a b | false => failM
    | .neq, some k => match okEq P c k with | true => eqM k true a b | false => failM
    | _, _ => failM

def convM (src dst : TypeId) (x : Value) : M Value :=
  match descOf P src, descOf P dst with
  | .int _, .int k => convIntM k x
  | .string, .slice e => match descOf P e, Nat.beq (sizeT P e) 1 with | .int .u8, true => toBytesM (sizeT P e) x | _, _ => failM
  | .slice e, .string => match descOf P e with | .int .u8 => toStringM x | _ => failM
  | _, _ => failM

def builtinM (b : Builtin) (ts : List TypeId) (args : List Value) : M Value :=
  match b, ts, args with
  | .len, [t], [x] => match descOf P t with | .array n _ => pureM (.int .i64 n) | .slice _ => lenSlM x | .string => lenStrM x | .map _ _ => lenMapM x | _ => failM
  | .min, _, xs => minM min2 xs
  | .max, _, xs => minM max2 xs
  | .append, [t, u], [s, x] => match descOf P t, descOf P u with
    | .slice e, .slice _ | .slice e, .string => zyM P [e] (appendM (sizeT P e) (bytesT P e) s x)
    | _, _ => failM
  | .copy, [t, _], [d, s] => match descOf P t with | .slice e => tyM P [e] (copyM (sizeT P e) d s) | _ => failM
  | .clear, [t], [x] => match descOf P t with | .slice e => zyM P [e] (clearM (sizeT P e) (zeroCellsT P e) x) | .map _ _ => clearMapM x | _ => failM
  | .delete, t :: _, [m, k] => mapM P t fun ek => deleteM ek m k
  | .recover, _, _ => recoverM
  | _, _, _ => failM

def mapElemZero (t : TypeId) : Option Value := match descOf P t with | .map _ e => zeroT P e | _ => none


def fnOk : Fn → Bool
  | .func _ | .method _ => true
  | _ => false

def opM (st : St) (o : Oper) : M Value :=
  match o.op with
  | .move x | .assign x => pureM (st.op x)
  | .pick c a b => pickM (st.op c) (st.op a) (st.op b)
  | .alloc t => zyM P [t] (allocM (zeroCellsT P t) (sizeT P t))
  | .box t x => tyM P [t] (boxM (st.op x) (sizeT P t))
  | .build t parts => match partsT P t st.op parts.toList with
    | some ps => zyM P [t] (buildM (zeroCellsT P t) ps)
    | none => failM
  | .buildSlice t len parts => match descOf P t with
    | .slice e => zyM P [e] (buildSliceM (sizeT P e) (zeroCellsT P e) len (parts.toList.map fun q => (q.1 * sizeT P e, sizeT P e, st.op q.2)))
    | _ => failM
  | .load t a => tyM P [t] (ldM (aggT P t) (sizeT P t) (st.op a))
  | .store t a x => tyM P [t] (stM (sizeT P t) (st.op a) (st.op x))
  | .nilCheck x => nilCheckM (st.op x)
  | .binOp op t x y _ => binopM P op t (isC x || isC y) (st.op x) (st.op y)
  | .unOp op _ x => unM op (st.op x)
  | .convert s d x => convM P s d (st.op x)
  | .makeInterface t x => match descOf P t with
    | .interface _ => failM
    | _ => tyM P [t] (ifaceM t (st.op x))
  | .makeFunc f first captured => match fnOk f with
    | true => pureM (.func f ⟨first.toList.map st.op⟩ ⟨captured.toList.map st.op⟩)
    | false => failM
  | .makeMap _ none => makeMapM
  | .makeSlice t l c => match descOf P t with
    | .slice e => zyM P [e] (makeSliceM (sizeT P e) (zeroCellsT P e) (bytesT P e) (st.op l) (st.op c))
    | _ => failM
  | .slice t x lo hi mx => match descOf P t with
    | .string => match mx with | none => sliceStrM (st.op x) (lo.map st.op) (hi.map st.op) | some _ => failM
    | .slice e => tyM P [e] (sliceSlM (sizeT P e) (st.op x) (lo.map st.op) (hi.map st.op) (mx.map st.op))
    | .array n e => match mx with
      | none => match Nat.blt n 1000000 with
        | true => tyM P [e] (sliceArrM n (sizeT P e) (st.op x) (lo.map st.op) (hi.map st.op))
        | false => failM
      | some _ => failM
    | _ => failM
  | .fieldAddr t x f => match descOf P t with
    | .struct fs => match fs.toList[f]? with
      | some fd => match Nat.blt 0 (sizeT P fd.type) with
        | true => fieldAddrM fd.offset (st.op x)
        | false => failM
      | none => failM
    | _ => failM
  | .field t x f => match descOf P t with
    | .struct fs => match fs.toList[f]? with
      | some fd => tyM P [fd.type] (fieldM (aggT P fd.type) (sizeT P fd.type) fd.offset (st.op x))
      | none => failM
    | _ => failM
  | .indexAddr t x i => match descOf P t with
    | .slice e => tyM P [e] (elemAddrM (sizeT P e) (st.op x) (st.op i))
    | .array n e => tyM P [e] (arrAddrM n (sizeT P e) (st.op x) (st.op i))
    | _ => failM
  | .index t x i => match descOf P t with
    | .array n e => tyM P [e] (indexM n (aggT P e) (sizeT P e) (st.op x) (st.op i))
    | .string => indexStrM (st.op x) (st.op i)
    | _ => failM
  | .lookup t x k ok => mapM P t fun ek => lookupM ek (mapElemZero P t) ok (st.op x) (st.op k)
  | .mapUpdate t m k v | .insert t m k v => mapM P t fun ek => updateM ek (st.op m) (st.op k) (st.op v)
  | .mapEntry t m k => mapM P t fun ek => mapEntryM ek (mapElemZero P t) (st.op m) (st.op k)
  | .entryStore _ m s v => entryStoreM (st.op m) (st.op s) (st.op v)
  | .range t x => match descOf P t with
    | .map _ _ => rangeM (st.op x)
    | _ => failM
  | .next it false => nextM (st.op it)
  | .entry it => entryM (st.op it)
  | .typeAssert x _ t true => match descOf P t with
    | .interface _ => failM
    | _ => zyM P [t] (typeAssertM t (zeroT P t) (st.op x))
  | .extract x i => extractM (st.op x) i
  | .panic x => panicM (st.op x)
  | .call c => match c.callee with
    | .value f => callM P cl (st.op f) (c.args.toList.map st.op)
    | .invoke r name => invokeM P cl name (st.op r) (c.args.toList.map st.op)
    | .builtin b => builtinM P b c.argTypes.toList (c.args.toList.map st.op)
  | _ => failM

/-- the value that guards an operation, and what it must be -/
def guardOf (ops : Array Oper) (st : St) (o : Oper) : Option (Value × Bool) :=
  match o.guard with
  | none => none
  | some (j, want) => match ops.toList[j]? with
    | some g => match g.dst with | some d => some (st d, want) | none => some (undefV, want)
    | none => some (undefV, want)

def guardM (g : Option (Value × Bool)) (m : M Value) : M Value :=
  match g with
  | none => m
  | some (c, want) => fun h => match c with
    | .bool b => match b, want with
      | true, true => m h
      | false, false => m h
      | _, _ => .ok skV h
    | .chan _ => .ok skV h
    | _ => .fail

def oneX (ops : Array Oper) (o : Oper) (st : St) (k : St → Hp → X) : Hp → X :=
  match o.op, o.guard with
  | .move x, none => k (st.set o.dst (st.op x))
  | .assign x, none => k (st.set o.dst (st.op x))
  | _, _ => bx (guardM (guardOf ops st o) (opM P cl st o)) fun v => k (st.set o.dst v)

def opsX (ops : Array Oper) : List Oper → St → (St → Hp → X) → Hp → X
  | [], st, k => k st
  | o :: rest, st, k => oneX P cl ops o st fun st => opsX ops rest st k

def reX (ops : Array Oper) (o : Oper) (st : St) (k : St → Hp → X) : Hp → X :=
  match o.dst with
  | some d => bx (reM (st d) (guardM (guardOf ops st o) (opM P cl st o))) fun _ => k st
  | none => fun _ => .fail

def actsX (ops : Array Oper) : List Act → St → (St → Hp → X) → Hp → X
  | [], st, k => k st
  | .op i :: rest, st, k => match ops.toList[i]? with
    | some o => oneX P cl ops o st fun st => actsX ops rest st k
    | none => fun _ => .fail
  | .re i :: rest, st, k => match ops.toList[i]? with
    | some o => reX P cl ops o st fun st => actsX ops rest st k
    | none => fun _ => .fail

/-! ### which orders are as good as any -/
inductive Cls where
  | pure | alloc | read | heavy

def clsOf (o : Oper) : Cls := match o.op with
  | .move _ | .assign _ | .pick .. | .build .. | .nilCheck _ | .binOp .. | .unOp .. | .makeInterface .. | .makeFunc .. | .fieldAddr .. | .field ..
  | .indexAddr .. | .index .. | .typeAssert .. | .extract .. => .pure
  | .alloc _ | .box .. | .buildSlice .. | .makeSlice .. => .alloc
  | .makeMap _ none => .alloc
  | .convert s _ _ => match descOf P s with | .int _ => .pure | .string => .alloc | _ => .read
  | .slice t .. => match descOf P t with | .slice _ => .read | _ => .pure
  | .load .. | .lookup .. | .entry _ => .read
  | .call c => match c.callee with
    | .builtin .len => match c.argTypes.toList with
      | [t] => match descOf P t with | .map _ _ => .read | _ => .pure
      | _ => .heavy
    | .builtin .min | .builtin .max => .pure
    | _ => .heavy
  | _ => .heavy

def isHeavy : Cls → Bool | .heavy => true | _ => false
def isAlloc : Cls → Bool | .alloc => true | _ => false
def isRead : Cls → Bool | .read => true | _ => false

def memN (n : Nat) : List Nat → Bool
  | [] => false
  | x :: l => match Nat.beq n x with | true => true | false => memN n l

def tmpOf : Operand → Option Nat
  | .tmp t => some t
  | _ => none

/-- the temporaries that an operation looks at -/
def looksOf (ops : List Oper) (o : Oper) : List Nat :=
  o.op.operands.toList.filterMap tmpOf ++ (match o.guard with
    | some (j, _) => match ops[j]? with | some g => g.dst.toList | none => []
    | none => [])

/-- what the plan knows of an operation: its class, its target, the names it looks at, its ancestors -/
structure Info where
  cls : Cls
  dst : Option Nat
  looks : List Nat
  anc : Nat

def maskOf (acc : List Info) : List Edge → Nat
  | [] => 0
  | e :: r => match Region.binds .any e with
    | true => match acc[e.on]? with
      | some a => (2 ^ e.on ||| a.anc) ||| maskOf acc r
      | none => maskOf acc r
    | false => maskOf acc r

def infosGo (all : List Oper) : List Oper → List Info → List Info
  | [], acc => acc
  | o :: r, acc => infosGo all r (acc ++ [⟨clsOf P o, o.dst, looksOf all o, maskOf acc o.after.toList⟩])

def hits (d : Option Nat) (a : Info) : Bool := match d with
  | none => false
  | some d => memN d a.looks || (match a.dst with | some e => Nat.beq d e | none => false)

/-- a read is looked at again wherever it may still be made -/
def cov (is : List Info) (i : Nat) (a : Info) : Bool → List Act → Bool
  | fresh, [] => fresh
  | fresh, .re j :: r => cov is i a (match Nat.beq i j with | true => true | false => fresh) r
  | fresh, .op j :: r => match is[j]? with
    | some b => match b.cls with
      | .heavy => fresh && (b.anc.testBit i || (!hits b.dst a && cov is i a false r))
      | .alloc => !hits b.dst a && cov is i a false r
      | _ => !hits b.dst a && cov is i a fresh r
    | none => false

/-- its target is not among the names that it looks at -/
def selfless (a : Info) : Bool := match a.dst with
  | some d => !memN d a.looks
  | none => true

/-- every later operation that must be a descendant is one -/
def after (is : List Info) (i : Nat) (a : Info) : List Act → Bool
  | [] => true
  | .re _ :: r => after is i a r
  | .op j :: r => match is[j]? with
    | some b => ((!isHeavy a.cls && (!hits a.dst b && !hits b.dst a)) || b.anc.testBit i) && after is i a r
    | none => false

def okGo (is : List Info) : List Nat → List Act → Bool
  | _, [] => true
  | done, .re i :: r => memN i done && okGo is done r
  | done, .op i :: r => match is[i]? with
    | some a => !memN i done && (after is i a r && ((!isRead a.cls || (selfless a && cov is i a true r)) && okGo is (i :: done) r))
    | none => false

def opIds : List Act → List Nat
  | [] => []
  | .op i :: r => i :: opIds r
  | .re _ :: r => opIds r

def okEdges : List Oper → Nat → Bool
  | [], _ => true
  | o :: r, i => o.after.toList.all (fun e => match Region.binds .any e with | true => Nat.blt e.on i | false => true) && okEdges r (i + 1)

def upTo : Nat → List Nat
  | 0 => []
  | n + 1 => n :: upTo n

def okActs (ops : List Oper) (acts : List Act) : Bool :=
  okEdges ops 0 && ((upTo ops.length).all (fun i => memN i (opIds acts)) && okGo (infosGo P ops ops []) [] acts)

def resM (st : St) : List ResultVar → List Value → M Value
  | [], acc => pureM (.tuple ⟨acc.reverse⟩)
  | .tmp t :: rest, acc => resM st rest (st t :: acc)
  | .cell a t :: rest, acc => bM (tyM P [t] (ldM (aggT P t) (sizeT P t) (st a))) fun v => resM st rest (v :: acc)

def resultsM (st : St) : M Value :=
  match fn.results.toList with
  | [.tmp t] => pureM (st t)
  | [.cell a t] => tyM P [t] (ldM (aggT P t) (sizeT P t) (st a))
  | rs => resM P st rs []

def resT : ResultVar → Nat
  | .tmp t => t
  | .cell a _ => a

def retX (round : Bool) (st : St) : Hp → X :=
  match round with
  | true => jumpV .ret
  | false => retV (fn.results.toList.map fun r => st (resT r))

/-- the results, out of what the temporaries hold -/
def readM (vs : List Value) : M Value := resultsM P fn (mkSt vs (fn.results.toList.map resT) 0)

def exitX (round : Bool) (id : Nat) (bs : List (Nat × List Nat)) (st : St) : Hp → X :=
  match bs.find? (fun p => Nat.beq p.1 id) with
  | some (_, live) => exitV id (live.map st)
  | none => match round with | true => jumpV (.exit id) | false => fun _ => .fail

/-- behind a range over a function: the jump that was asked for -/
def afterX (l : Nat) (bs : List (Nat × List Nat)) (st : St) (k : St → Hp → X) : Hp → X := fun h =>
  match h.get l with
  | some (.loop .ready pending f vals ps a b x y) =>
    match pending with
    | none => k st (h.put l (some (.loop .exhausted none f vals ps a b x y)))
    | some _ => .fail
  | some (.loop .done pending f vals ps a b x y) =>
    match pending with
    | some .ret => retX fn false st (h.put l (some (.loop .exhausted (some .ret) f vals ps a b x y)))
    | some (.exit id) => exitX false id bs st (h.put l (some (.loop .exhausted (some (.exit id)) f vals ps a b x y)))
    | _ => .fail
  | _ => .fail

def rangeX (round : Bool) (self : FuncId) (f : Value) (vals : List (Nat × Value)) (ps : List Nat) (a b : Code) (x y : An) (bs : List (Nat × List Nat)) (st : St) (k : St → Hp → X) : Hp → X := fun h =>
  match round with
  | true => .fail
  | false => match callM P cl f [.func (.yield h.size) #[] #[]] (h.new (.loop .ready none self vals ps a b x y)) with
    | .ok _ h' => afterX fn h.size bs st k h'
    | .pan v h' => .pan v h'
    | .fail => .fail

def execK (round : Bool) (self : FuncId) : Code → An → List (Nat × List Nat) → St → (St → Hp → X) → Hp → X
  | .skip, _, _, st, k => k st
  | .label _, _, _, st, k => k st
  | .region _ ops false, _, _, st, k => opsX P cl ops ops.toList st k
  | .region _ ops true, .reg order, _, st, k => match okActs P ops.toList order with
    | true => actsX P cl ops order st k
    | false => fun _ => .fail
  | .seq a b, .cat x y, bs, st, k => execK round self a x bs st fun st => execK round self b y bs st k
  | .seq a b, .seq live x y, bs, st, k => sx (execK round self a x bs st fun st => normV (live.map st)) fun vs => execK round self b y bs (mkSt vs live 0) k
  | .cond c a b, .cond x y, bs, st, k => condX (st.op c) (execK round self a x bs st k) (execK round self b y bs st k)
  | .block id c, .block live x, bs, st, k => sx (blockX id (execK round self c x ((id, live) :: bs) st fun st => normV (live.map st))) fun vs => k (mkSt vs live 0)
  | .loop c, .loop live x, bs, st, _ => fun h => loopX (fun vs => execK round self c x bs (mkSt vs live 0) fun st => normV (live.map st)) fuel (live.map st) h
  | .scope c, .scope x, bs, st, k => execK round self c x bs st k
  | .rangeFunc f ps a b, .range live x y, bs, st, k => rangeX P cl fn round self (st.op f) (live.map fun t => (t, st t)) ps.toList a b x y bs st k
  | .exit id, _, bs, st, _ => exitX round id bs st
  | .ret, _, _, st, _ => retX fn round st
  | _, _, _, _, _ => fun _ => .fail

def isRecover : Op → Bool
  | .call ⟨.builtin .recover, _, _⟩ => true
  | _ => false

def okOpnd : Operand → Bool
  | .const v => flatB v
  | _ => true
def okOper (n : Nat) (fz : List Nat) (o : Oper) : Bool :=
  (match o.dst with | some d => Nat.blt d n && !memN d fz | none => true) && (o.op.operands.toList.all okOpnd && !isRecover o.op)
def okCode (n : Nat) (fz : List Nat) : Code → Bool
  | .region _ ops _ => ops.toList.all (okOper n fz)
  | .seq a b => okCode n fz a && okCode n fz b
  | .cond c a b => okOpnd c && (okCode n fz a && okCode n fz b)
  | .block _ c | .loop c | .scope c => okCode n fz c
  | .rangeFunc f ps a b => okOpnd f && (ps.toList.all (fun p => Nat.blt p n) && (okCode n [] a && okCode n [] b))
  | _ => true

/-- a function's body -/
def bodyM (self : FuncId) (an : An) (args : List Value) : M Value :=
  match fn.body with
  | some c => match okCode fn.ntmps [] c && Nat.ble args.length fn.ntmps with
    | true => bodyR (execK P cl fuel fn false self c an [] (fun i => nth args i) (fun st => retX fn false st)) (readM P fn)
    | false => failM
  | none => failM

/-! ### rounds of a range over a function -/
def valsSt : List (Nat × Value) → St
  | [], _ => undefV
  | (t, v) :: r, i => match Nat.beq i t with | true => v | false => valsSt r i

def setPs : List Nat → List Value → St → St
  | t :: ts, v :: vs, st => setPs ts vs (st.set (some t) v)
  | _, _, st => st

def beginX (l : Nat) (k : Hp → X) : Hp → X := fun h => match h.get l with
  | some (.loop .ready pe f vals ps a b x y) => k (h.put l (some (.loop .busy pe f vals ps a b x y)))
  | _ => .fail

def endM (l : Nat) (jump : Option Code) : M Value := fun h => match h.get l with
  | some (.loop _ _ f vals ps a b x y) => match jump with
    | none => .ok (.bool true) (h.put l (some (.loop .ready none f vals ps a b x y)))
    | some c => .ok (.bool false) (h.put l (some (.loop .done (some c) f vals ps a b x y)))
  | _ => .fail

def roundM (l : Nat) (args : List Value) : M Value := fun h => match h.get l with
  | some (.loop .ready _ f vals ps a b x y) => match Nat.beq args.length ps.length with
    | true =>
      match execK P cl fuel fn true f a x [] (setPs ps args (valsSt vals)) (fun st => beginX l (execK P cl fuel fn true f b y [] st (fun _ => normV []))) h with
      | .norm _ h' => endM l none h'
      | .jump c h' => endM l (some c) h'
      | .pan v h' => .pan v h'
      | _ => .fail
    | false => .fail
  | _ => .fail

/-! ### a function that defers a closure which recovers -/
def initL {α : Type} : List α → List α
  | [] => []
  | [_] => []
  | a :: r => a :: initL r
def lastL {α : Type} : List α → Option α
  | [] => none
  | [a] => some a
  | _ :: r => lastL r

/-- what is recovered -/
def panV : Option Value → Value
  | some v => v
  | none => .nilIface

/-- the closure, called while its maker returns (`none`) or panics -/
def closeM (cf : Func) (self : FuncId) (an : An) (pan : Option Value) (args : List Value) : M Value :=
  match cf.body with
  | some (.seq (.region _ ops false) c) => match ops.toList with
    | o :: rest => match o.op, o.dst, o.guard, okCode cf.ntmps [] c && (rest.all (okOper cf.ntmps []) && Nat.ble args.length cf.ntmps) with
      | .call ⟨.builtin .recover, _, _⟩, some d, none, true => match Nat.blt d cf.ntmps with
        | true => bodyR (opsX P cl ops rest (St.set (fun i => nth args i) (some d) (panV pan)) fun st => execK P cl fuel cf false self c an [] st (fun st => retX cf false st)) (readM P cf)
        | false => failM
      | _, _, _, _ => failM
    | [] => failM
  | _ => failM

def noPan (m : M Value) : M Value := fun h => match m h with
  | .ok v h => .ok v h
  | _ => .fail

def cloM (tc : FuncId → Option (Func × An)) (fv : Value) (pan : Option Value) : M Value := match fv with
  | .func (.func g) first captured => match tc g with
    | some (cf, an) => noPan (closeM P cl fuel cf g an pan (first.toList ++ captured.toList))
    | none => failM
  | _ => failM

/-- the body of a function that defers one closure -/
def deferM (self : FuncId) (x1 : An) (l1 : List Nat) (l2 : List Nat) (x2 : An) (tc : FuncId → Option (Func × An)) (args : List Value) : M Value :=
  match fn.body with
  | some (.seq c1 (.seq (.region _ ops false) c2)) =>
    match okCode fn.ntmps [] c1 && (okCode fn.ntmps (fn.results.toList.map resT) c2 && (Nat.ble args.length fn.ntmps && (initL ops.toList).all (okOper fn.ntmps []))), lastL ops.toList with
    | true, some o => match o.op, o.dst, o.guard with
      | .defer ⟨.value (.tmp f), as, _⟩, none, none => match as.toList with
        | [] => fun h =>
          match sx (execK P cl fuel fn false self c1 x1 [] (fun i => nth args i) (fun st => normV (l1.map st)))
            (fun vs => opsX P cl ops (initL ops.toList) (mkSt vs l1 0) (fun st => normV (l2.map st) )) h with
          | .norm vs h =>
            match execK P cl fuel fn false self c2 x2 [] (mkSt vs l2 0) (fun st => retX fn false st) h with
            | .ret rs h => bM (cloM P cl fuel tc (mkSt vs l2 0 f) none) (fun _ => readM P fn rs) h
            | .pan v h => bM (cloM P cl fuel tc (mkSt vs l2 0 f) (some v)) (fun _ => readM P fn ((fn.results.toList.map resT).map (mkSt vs l2 0))) h
            | _ => .fail
          | _ => .fail
        | _ => failM
      | _, _, _ => failM
    | _, _ => failM
  | _ => failM
end exec

/-! ### the program -/
inductive Ent where
  | plain (an : An)
  | dfr (x1 : An) (l1 l2 : List Nat) (x2 : An)

/-- values without addresses, all the way down -/
def flatD : Value → Bool
  | .bool _ | .int _ _ | .string _ | .pointer none | .map none | .nilFunc | .nilIface => true
  | .slice none 0 0 => true
  | .func (.func _) a c => a.toList.isEmpty && c.toList.isEmpty
  | .iface _ v => flatD v
  | .agg ⟨a⟩ => flatDs a
  | .tuple ⟨a :: r⟩ => flatD a && flatDs r
  | _ => false
  where flatDs : List Value → Bool
  | [] => true
  | a :: r => flatD a && flatDs r

/-- answers that are known -/
def ovOf : List (FuncId × List Value × Value) → FuncId → List Value → Option Value
  | [], _, _ => none
  | (g, as, v) :: r, f, args => match Nat.beq f g with
    | true => match beqL args as with
      | true => some v
      | false => ovOf r f args
    | false => ovOf r f args

def callT (P : Program) (T : FuncId → Option (Func × Ent)) (tc : FuncId → Option (Func × An)) (ov : FuncId → List Value → Option Value) (fuel : Nat) : Nat → Tgt → List Value → M Value
  | 0, _, _ => failM
  | n + 1, .fn f, args => match ov f args with
    | some v => pureM v
    | none => match T f with
      | some (fn, .plain an) => bodyM P (callT P T tc ov fuel n) fuel fn f an args
      | some (fn, .dfr x1 l1 l2 x2) => deferM P (callT P T tc ov fuel n) fuel fn f x1 l1 l2 x2 tc args
      | none => failM
  | n + 1, .yld l, args => roundM P (callT P T tc ov fuel n) fuel default l args

/-- the functions of a program, with their annotations -/
def tabOf (P : Program) (A : Tr Ent) : FuncId → Option (Func × Ent) := fun f => match P.funcs[f]? with
  | some fn => match A.get f, fn.body.isSome with
    | some e, true => some (fn, e)
    | _, _ => none
  | none => none
def tcOf (P : Program) (A : Tr An) : FuncId → Option (Func × An) := fun f => match P.funcs[f]? with
  | some fn => match A.get f, fn.body.isSome with
    | some e, true => some (fn, e)
    | _, _ => none
  | none => none
end Go.Abs
