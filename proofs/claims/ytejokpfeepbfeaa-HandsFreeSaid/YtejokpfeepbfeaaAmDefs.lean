/-
  An abstract machine (AM) over the model's own Code: the definitions. A deterministic evaluator: the heap is a list of blocks with numbers of
  their own; a region that draws its order is run in one order; an append that does not fit makes a new block and the old one is dead.
  What AM computes is what 'Calls' says: SEATAmSound.lean.
-/
import Derived.Calls
import Derived.KernelRfl
namespace Go.AM

/-- A block of the abstract heap. cells: the call's own row; k: how wide an element is, if there may be room behind it that is not known (0: there is none); s: made of a string. ro: a row that is only read. -/
inductive Blk where
  | cells (c : List Value) (k : Nat) (s : Bool)
  | ro (c : List Value)
  | map (kt : Bool) (es : List (Value × Value))
  | iter (s : ByteArray) (pos : Nat)
  | dead
  deriving Inhabited

structure Heap where
  bs : List Blk

/-- What comes of a call. -/
inductive Out where
  | ret (v : Value) (h : Heap)
  | pan (v : Value) (h : Heap)

abbrev Res := Option Out
abbrev Env := Nat → Value

inductive Exi where
  | normal | exit (id : Nat) | ret
  deriving DecidableEq

/-- The tables beside the program: what makes the evaluation cheap; any table that meets 'Cfg.Ok' will do. -/
structure Plan where
  ord : List Nat
  pre : List Nat
  post : List (Nat × Nat)
  prev : List (Nat × Nat)
  deriving Inhabited

inductive Tag where
  | int (k : IntKind) | bool | string

structure Cfg where
  ng : Nat
  plan : FuncId → Nat → Option Plan
  live : FuncId → Nat → List Tmp
  keep : FuncId → Nat → List Tmp
  eqT : TypeId → Option (List Tag)

def bindR (r : Res) (k : Value → Heap → Res) : Res :=
  match r with
  | none => none
  | some (.ret v h) => k v h
  | some (.pan v h) => some (.pan v h)

def pureR (x : Option Value) (h : Heap) : Res :=
  match x with
  | none => none
  | some v => some (.ret v h)

def okR (v : Value) (h : Heap) : Res := some (.ret v h)
def guardR (b : Bool) (r : Res) : Res := cond b r none

def put (t : Env) (d : Option Tmp) (v : Value) : Env :=
  match d with
  | some d => fun i => bif Nat.beq i d then v else t i
  | none => t

/-- A constant of the text, if it holds no address. -/
def cst : Value → Value
  | .bool b => .bool b
  | .int k n => .int k n
  | .string s => .string s
  | .pointer none => .pointer none
  | .slice none l c => .slice none l c
  | .map none => .map none
  | .nilFunc => .nilFunc
  | .nilIface => .nilIface
  | _ => undef

def isCst : Value → Bool
  | .bool _ | .int _ _ | .string _ | .pointer none | .slice none _ _ | .map none | .nilFunc | .nilIface => true
  | _ => false

def ev (C : Cfg) (t : Env) : Operand → Value
  | .tmp i => t i
  | .const v => cst v
  | .global g => bif Nat.blt g C.ng then .pointer (some ⟨g, 0, none⟩) else undef
  | .func f => .func (.func f) #[] #[]

/-- What a skipped operation leaves. -/
abbrev skipV : Value := .chan none

/-- No poison. -/
def clean : Value → Bool
  | .tuple _ | .chan _ => false
  | _ => true

def cellOk : Value → Bool
  | .agg _ | .tuple _ | .chan _ => false
  | _ => true
def cellsOk (vs : List Value) : Bool := vs.all cellOk

-- memory

def Heap.row (h : Heap) (b : Nat) : Option (List Value) :=
  match h.bs[b]? with
  | some (.cells c _ _) => some c
  | some (.ro c) => some c
  | _ => none

def ld1 (h : Heap) : Value → Option Value
  | .pointer (some ⟨b, o, none⟩) => (h.row b).bind fun c => c[o]?
  | _ => none

def cut (c : List Value) (o n : Nat) : Option (List Value) := bif Nat.ble (o + n) c.length then some ((c.drop o).take n) else none

def ldN (h : Heap) (n : Nat) : Value → Option (List Value)
  | .pointer (some ⟨b, o, none⟩) => (h.row b).bind fun c => cut c o n
  | _ => none

def ldR (h : Heap) (p : Value) : Res := pureR (ld1 h p) h
def ldNR (h : Heap) (n : Nat) (p : Value) : Res := pureR ((ldN h n p).map fun l => .agg l.toArray) h

def setL : List Value → Nat → List Value → List Value
  | c, _, [] => c
  | c, o, v :: vs => setL (c.set o v) (o + 1) vs

def Heap.upd (h : Heap) (b : Nat) (x : Blk) : Heap := { bs := h.bs.set b x }
def Heap.push (h : Heap) (x : Blk) : Heap := { bs := h.bs ++ [x] }
def Heap.len (h : Heap) : Nat := h.bs.length

def stL (h : Heap) (vs : List Value) : Value → Option Heap
  | .pointer (some ⟨b, o, none⟩) =>
    match h.bs[b]? with
    | some (.cells c k s) => bif Nat.ble (o + vs.length) c.length && cellsOk vs then some (h.upd b (.cells (setL c o vs) k s)) else none
    | _ => none
  | _ => none

def stR (h : Heap) (p v : Value) : Res := (stL h [v] p).bind fun h => some (.ret undef h)
def stNR (h : Heap) (n : Nat) (p v : Value) : Res :=
  match v with
  | .agg cs => bif Nat.beq cs.size n then (stL h cs.toList p).bind fun h => some (.ret undef h) else none
  | _ => none

def newR (h : Heap) (c : List Value) : Res := bif cellsOk c then some (.ret (.pointer (some ⟨h.len, 0, none⟩)) (h.push (.cells c 0 false))) else none

-- addresses

def nonnil : Value → Option Value
  | .pointer (some ⟨b, o, none⟩) => some (.pointer (some ⟨b, o, none⟩))
  | .func (.func f) a c => some (.func (.func f) a c)
  | _ => none

def padd (n : Nat) : Value → Option Value
  | .pointer (some ⟨b, o, none⟩) => some (.pointer (some ⟨b, o + n, none⟩))
  | _ => none

def inB (i : Int) (n : Nat) : Bool := decide (0 ≤ i) && decide (i < n)

/-- The address of an element of a slice. -/
def idxS (size : Nat) (x i : Value) : Option Value :=
  match x, i with
  | .slice (some ⟨b, o, none⟩) len _, .int _ n => bif inB n len then some (.pointer (some ⟨b, o + n.toNat * size, none⟩)) else none
  | _, _ => none

/-- The address of an element of an array. -/
def idxA (len size : Nat) (x i : Value) : Option Value :=
  match x, i with
  | .pointer (some ⟨b, o, none⟩), .int _ n => bif inB n len then some (.pointer (some ⟨b, o + n.toNat * size, none⟩)) else none
  | _, _ => none

def strAt (x i : Value) : Option Value :=
  match x, i with
  | .string s, .int _ n => bif decide (0 ≤ n) then (s[n.toNat]?).map fun b => .int .u8 b.toNat else none
  | _, _ => none

def partOf (agg : Bool) (size : Nat) (cs : List Value) (off : Nat) : Option Value :=
  bif agg then bif Nat.ble (off + size) cs.length then some (.agg ((cs.drop off).take size).toArray) else none
  else (cs[off]?).bind fun v => bif cellOk v then some v else none

def fieldOf (agg : Bool) (size off : Nat) : Value → Option Value
  | .agg cs => partOf agg size cs.toList off
  | _ => none

def idxAgg (agg : Bool) (len size : Nat) (x i : Value) : Option Value :=
  match x, i with
  | .agg cs, .int _ n => bif inB n len then partOf agg size cs.toList (n.toNat * size) else none
  | _, _ => none

-- numbers

def intV (op : BinOp) (k : IntKind) (a b : Int) : Option Value :=
  match op with
  | .add => some (.int k (k.wrap (a + b)))
  | .sub => some (.int k (k.wrap (a - b)))
  | .mul => some (.int k (k.wrap (a * b)))
  | .quo => bif decide (b = 0) then none else some (.int k (k.wrap (a.tdiv b)))
  | .rem => bif decide (b = 0) then none else some (.int k (a.tmod b))
  | .and => some (.int k (k.wrap (BitVec.ofInt k.bits a &&& BitVec.ofInt k.bits b).toNat))
  | .or => some (.int k (k.wrap (BitVec.ofInt k.bits a ||| BitVec.ofInt k.bits b).toNat))
  | .xor => some (.int k (k.wrap (BitVec.ofInt k.bits a ^^^ BitVec.ofInt k.bits b).toNat))
  | .andNot => some (.int k (k.wrap (BitVec.ofInt k.bits a &&& ~~~ BitVec.ofInt k.bits b).toNat))
  | .eql => some (.bool (a == b))
  | .neq => some (.bool (a != b))
  | .lss => some (.bool (decide (a < b)))
  | .leq => some (.bool (decide (a ≤ b)))
  | .gtr => some (.bool (decide (a > b)))
  | .geq => some (.bool (decide (a ≥ b)))
  | _ => none

def shiftV (op : BinOp) (k : IntKind) (a b : Int) : Option Value :=
  bif decide (b < 0) then none else
  match op with
  | .shl => some (.int k (k.wrap (a * 2 ^ (min b.toNat k.bits))))
  | .shr => some (.int k (a.fdiv (2 ^ (min b.toNat k.bits))))
  | _ => none

def isShift : BinOp → Bool
  | .shl | .shr => true
  | _ => false

def strV (op : BinOp) (a b : ByteArray) : Option Value :=
  match op with
  | .add => bif Nat.ble (a.size + b.size) 9223372036854775807 then some (.string (a ++ b)) else none
  | .eql => some (.bool (a.toList == b.toList))
  | .neq => some (.bool !(a.toList == b.toList))
  | .lss => some (.bool (Op.bytesLess a.toList b.toList))
  | .leq => some (.bool (Op.bytesLess a.toList b.toList || a.toList == b.toList))
  | .gtr => some (.bool !(Op.bytesLess a.toList b.toList || a.toList == b.toList))
  | .geq => some (.bool !(Op.bytesLess a.toList b.toList))
  | _ => none

def boolE : Value → Value → Option Bool
  | .bool a, .bool b => some (a == b)
  | _, _ => none

def sliceE : Value → Value → Option Bool
  | .slice none _ _, .slice b _ _ => some b.isNone
  | .slice (some _) _ _, .slice none _ _ => some false
  | _, _ => none

def mapE : Value → Value → Option Bool
  | .map none, .map b => some b.isNone
  | .map (some _), .map none => some false
  | _, _ => none

def funcE : Value → Value → Option Bool
  | .nilFunc, .nilFunc => some true
  | .nilFunc, .func _ _ _ => some false
  | .func _ _ _, .nilFunc => some false
  | _, _ => none

def ifaceE : Value → Value → Option Bool
  | .nilIface, .iface _ _ => some false
  | .iface _ _, .nilIface => some false
  | _, _ => none

def tagged : Tag → Value → Value → Option Bool
  | .int k, .int j a, .int l b => bif decide (k = j) && decide (k = l) then some (a == b) else none
  | .bool, .bool a, .bool b => some (a == b)
  | .string, .string a, .string b => some (a == b)
  | _, _, _ => none

def eqCells : List Tag → List Value → List Value → Option Bool
  | [], [], [] => some true
  | t :: ts, x :: xs, y :: ys => (tagged t x y).bind fun b => (eqCells ts xs ys).map fun c => b && c
  | _, _, _ => none

def plainRow (h : Heap) (b : Nat) : Bool :=
  match h.bs[b]? with
  | some (.cells _ _ s) => !s
  | _ => false

def eqP (h : Heap) (a b : Addr) : Option Bool :=
  match a, b with
  | ⟨x, o, none⟩, ⟨y, q, none⟩ => bif Nat.beq x y then some (Nat.beq o q) else bif plainRow h x && plainRow h y then some false else none
  | _, _ => none

def ptrE (h : Heap) : Value → Value → Option Bool
  | .pointer none, .pointer b => some b.isNone
  | .pointer (some _), .pointer none => some false
  | .pointer (some a), .pointer (some b) => eqP h a b
  | _, _ => none

def aggE (ts : List Tag) : Value → Value → Option Bool
  | .agg a, .agg b => eqCells ts a.toList b.toList
  | _, _ => none

def intB (op : BinOp) (x y : Value) : Option Value :=
  match x, y with
  | .int k a, .int k' b => bif isShift op then shiftV op k a b else bif decide (k = k') then intV op k a b else none
  | _, _ => none

def strB (op : BinOp) (x y : Value) : Option Value :=
  match x, y with
  | .string a, .string b => strV op a b
  | _, _ => none

def eqNeq (op : BinOp) (r : Option Bool) : Option Value :=
  match op with
  | .eql => r.map fun b => .bool b
  | .neq => r.map fun b => .bool (!b)
  | _ => none

def unV (op : UnOp) (x : Value) : Option Value :=
  match op, x with
  | .neg, .int k n => some (.int k (k.wrap (0 - n)))
  | .xor, .int k n => intV .xor k (if k.signed then -1 else k.max) n
  | .not, .bool b => some (.bool !b)
  | _, _ => none

def convI (k : IntKind) : Value → Option Value
  | .int _ n => some (.int k (k.wrap n))
  | _ => none

def pickV (c a b : Value) : Option Value :=
  match c with
  | .bool c => some (cond c a b)
  | _ => none

-- slices

def bnd (x : Value) (y : Nat) : Option Nat :=
  match x with
  | .int _ i => bif decide (0 ≤ i) && decide (i ≤ y) then some i.toNat else none
  | _ => none

def bndO (x : Option Value) (y d : Nat) : Option Nat :=
  match x with
  | some v => bnd v y
  | none => bif Nat.ble d y then some d else none

def addA (m l size : Nat) (a : Addr) : Addr :=
  bif Nat.beq m l then a else { a with off := a.off + l * size }

/-- 's[l:h]' of a slice; behind its length nothing is known. -/
def sliceS (size : Nat) (x : Value) (lo hi : Option Value) : Option Value :=
  match x with
  | .slice (some ⟨b, o, none⟩) len cap =>
    (bndO hi cap len).bind fun h => (bndO lo h 0).bind fun l =>
      bif Nat.blt l cap then some (.slice (some ⟨b, o + l * size, none⟩) (h - l) (cap - l)) else
      bif Nat.beq l cap then some (.slice (some ⟨b, o + l * size, none⟩) 0 0) else none
  | .slice none len cap =>
    (bndO hi cap len).bind fun h => (bndO lo h 0).bind fun l => some (.slice none (h - l) (cap - l))
  | _ => none

def sliceStr (x : Value) (lo hi : Option Value) : Option Value :=
  match x with
  | .string s => (bndO hi s.size s.size).bind fun h => (bndO lo h 0).bind fun l => some (.string (s.extract l h))
  | _ => none

def noRoom (h : Heap) (b : Nat) : Bool :=
  match h.bs[b]? with
  | some (.cells _ k _) => Nat.beq k 0
  | some (.ro _) => true
  | _ => false

def sliceA (h : Heap) (n size : Nat) (x : Value) (lo hi : Option Value) : Option Value :=
  match x with
  | .pointer (some ⟨b, o, none⟩) =>
    bif noRoom h b then
      (bndO hi n n).bind fun h => (bndO lo h 0).bind fun l =>
        bif Nat.blt l n then some (.slice (some ⟨b, o + l * size, none⟩) (h - l) (n - l)) else some (.slice (some ⟨b, o + l * size, none⟩) 0 0)
    else none
  | _ => none

def lenV : Value → Option Value
  | .slice _ n _ => some (.int .i64 n)
  | .string s => some (.int .i64 s.size)
  | .map none => some (.int .i64 0)
  | _ => none

/-- The cells of a slice's first n elements; the bytes of a string. -/
def elemsOf (h : Heap) (size n : Nat) : Value → Option (List Value)
  | .slice (some ⟨b, o, none⟩) len _ => bif Nat.ble n len then (h.row b).bind fun c => cut c o (n * size) else none
  | .slice none _ _ => bif Nat.beq n 0 then some [] else none
  | .string s => bif Nat.ble n s.size then some ((s.data.toList.take n).map fun b => .int .u8 b.toNat) else none
  | _ => none

def lenOf : Value → Option Nat
  | .slice _ n _ => some n
  | .string s => some s.size
  | _ => none

/-- The room behind a row that may be there serves elements of this size alone; was the row made of a string? -/
def roomOf (h : Heap) (size cap : Nat) : Option Addr → Option Bool
  | none => some false
  | some a =>
    match h.bs[a.block]? with
    | some (.cells c k s) => bif (Nat.beq k 0 || Nat.beq k size) && Nat.ble (a.off + cap * size) c.length then some s else none
    | some (.ro _) => some false
    | _ => none

def Heap.kill (h : Heap) : Option Addr → Heap
  | none => h
  | some a =>
    match h.bs[a.block]? with
    | some (.cells _ _ _) => h.upd a.block .dead
    | _ => h

/-- 'append(s, x...)'. -/
def appR (size bytes : Nat) (h : Heap) (s x : Value) : Res :=
  match s with
  | .slice base len cap =>
    (lenOf x).bind fun n => (elemsOf h size n x).bind fun new =>
      bif Nat.ble (len + n) cap then
        match base, new with
        | some a, [] => some (.ret (.slice (some a) (len + n) cap) h)
        | some ⟨b, o, none⟩, v :: vs => (stL h (v :: vs) (.pointer (some ⟨b, o + len * size, none⟩))).bind fun h => some (.ret (.slice (some ⟨b, o, none⟩) (len + n) cap) h)
        | none, _ => bif Nat.beq (len + n) 0 then some (.ret (.slice none 0 cap) h) else none
        | _, _ => none
      else bif Nat.ble ((len + n) * bytes) 70368744177664 && Nat.ble (len + n) 70368744177664 && cellsOk new && Nat.ble 1 size && Nat.beq new.length (n * size) then
        (elemsOf h size len s).bind fun old => (roomOf h size cap base).bind fun str =>
          some (.ret (.slice (some ⟨h.len, 0, none⟩) (len + n) (len + n)) ((h.kill base).push (.cells (old ++ new) size str)))
      else none
  | _ => none

/-- 'copy(d, x)'. -/
def copyR (size : Nat) (h : Heap) (d x : Value) : Res :=
  match d with
  | .slice base len _ =>
    (lenOf x).bind fun m => (elemsOf h size (min m len) x).bind fun new =>
      match base with
      | some a => (stL h new (.pointer (some a))).bind fun h => some (.ret (.int .i64 (min m len : Nat)) h)
      | none => some (.ret (.int .i64 (min m len : Nat)) h)
  | _ => none

def zeros (zero : List Value) : Nat → List Value
  | 0 => []
  | n + 1 => zero ++ zeros zero n

def clearR (zero : List Value) (h : Heap) (x : Value) : Res :=
  match x with
  | .slice (some a) n _ => bif Nat.beq n 0 then some (.ret undef h) else (stL h (zeros zero n) (.pointer (some a))).bind fun h => some (.ret undef h)
  | .slice none _ _ => some (.ret undef h)
  | _ => none

def natOf : Value → Option Nat
  | .int .i64 n => bif decide (0 ≤ n) && decide (n ≤ 70368744177664) then some n.toNat else none
  | _ => none

def makeR (zero : List Value) (bytes : Nat) (h : Heap) (len cap : Value) : Res :=
  (natOf len).bind fun l => (natOf cap).bind fun c =>
    bif Nat.ble l c && Nat.ble (c * bytes) 70368744177664 && cellsOk zero then
      some (.ret (.slice (some ⟨h.len, 0, none⟩) l c) (h.push (.cells (zeros zero c) 0 false)))
    else none

-- making values

def fillL (cells : List Value) : List (Nat × Nat × Value) → Option (List Value)
  | [] => some cells
  | (off, size, v) :: rest =>
    match v with
    | .agg cs => bif Nat.beq cs.size size && Nat.ble (off + size) cells.length && cellsOk cs.toList then fillL (setL cells off cs.toList) rest else none
    | v => bif Nat.beq size 1 && Nat.ble (off + 1) cells.length && cellOk v then fillL (cells.set off v) rest else none

def cellsV : Value → List Value
  | .agg cs => cs.toList
  | v => [v]

def boxR (size : Nat) (h : Heap) (v : Value) : Res :=
  bif Nat.beq (cellsV v).length size then newR h (cellsV v) else none

def buildSliceR (len : Nat) (zero : List Value) (h : Heap) (parts : List (Nat × Nat × Value)) : Res :=
  (fillL (zeros zero len) parts).bind fun c =>
    bif cellsOk c then some (.ret (.slice (some ⟨h.len, 0, none⟩) len len) (h.push (.cells c 0 false))) else none

def minV : Value → Value → Option Value
  | .int k x, .int k' y => bif decide (k = k') then some (.int k (if y < x then y else x)) else none
  | _, _ => none
def maxV : Value → Value → Option Value
  | .int k x, .int k' y => bif decide (k = k') then some (.int k (if y > x then y else x)) else none
  | _, _ => none

-- maps whose keys are integers or strings

def keyEq : Value → Value → Option Bool
  | .int k a, .int j b => bif decide (k = j) then some (a == b) else none
  | .string a, .string b => some (a == b)
  | _, _ => none

def findK (k : Value) : List (Value × Value) → Option (Option Value)
  | [] => some none
  | (x, v) :: es => (keyEq k x).bind fun b => bif b then some (some v) else findK k es

def setK (k v : Value) : List (Value × Value) → Option (List (Value × Value))
  | [] => some [(k, v)]
  | (x, u) :: es => (keyEq k x).bind fun b => bif b then some ((k, v) :: es) else (setK k v es).map ((x, u) :: ·)

def isKey : Bool → Value → Bool
  | true, .int _ _ => true
  | false, .string _ => true
  | _, _ => false

def lookR (kt : Bool) (zero : Value) (ok : Bool) (h : Heap) (m k : Value) : Res :=
  bif isKey kt k then
    match m with
    | .map none => some (.ret (cond ok (.tuple #[zero, .bool false]) zero) h)
    | .map (some r) =>
      match h.bs[r]? with
      | some (.map kt' es) => bif kt == kt' then (findK k es).bind fun
        | some v => some (.ret (cond ok (.tuple #[v, .bool true]) v) h)
        | none => some (.ret (cond ok (.tuple #[zero, .bool false]) zero) h)
        else none
      | _ => none
    | _ => none
  else none

def updR (kt : Bool) (h : Heap) (m k v : Value) : Res :=
  bif isKey kt k && clean v then
    match m with
    | .map (some r) =>
      match h.bs[r]? with
      | some (.map kt' es) => bif kt == kt' then (setK k v es).bind fun es => some (.ret undef (h.upd r (.map kt es))) else none
      | _ => none
    | _ => none
  else none

def newMapR (kt : Bool) (h : Heap) : Res := some (.ret (.map (some h.len)) (h.push (.map kt [])))

-- calls

/-- Whom a function value calls, and what it hands on besides. -/
def callee : Value → Option (FuncId × List Value × List Value)
  | .func (.func f) first captured => some (f, first.toList, captured.toList)
  | _ => none

def callV (callR : FuncId → List Value → Heap → Res) (h : Heap) (f : Value) (args : List Value) : Res :=
  (callee f).bind fun (g, first, captured) => callR g (first ++ args ++ captured) h

def extr (i : Nat) : Value → Option Value
  | .tuple vs => vs[i]?
  | _ => none

def ifaceV (t : TypeId) (v : Value) : Option Value := bif clean v then some (.iface t v) else none
def funcV (fn : Fn) (first captured : List Value) : Option Value :=
  match fn with
  | .func f => bif first.all clean && captured.all clean then some (.func (.func f) first.toArray captured.toArray) else none
  | _ => none

def panR (h : Heap) (v : Value) : Res :=
  match v with
  | .iface t x => some (.pan (.iface t x) h)
  | _ => none

-- one operation

section
variable (P : Program) (C : Cfg) (callR : FuncId → List Value → Heap → Res)

def aggT (t : TypeId) : Option Bool :=
  match P.underlying t with
  | some (.struct _) => some true
  | some (.array _ _) => some true
  | some _ => some false
  | none => none

def sizeT (t : TypeId) : Nat := P.cellsOf t
def bytesT (t : TypeId) : Nat := P.bytesOf t
def zeroT (t : TypeId) : Option Value := (P.info? t).bind (·.zero)
/-- The cells of a type's zero value, if they hold no address. -/
def zeroC (t : TypeId) : Option (List Value) := (zeroT P t).bind fun z => bif (cellsV z).all isCst && Nat.beq (cellsV z).length (sizeT P t) then some (cellsV z) else none

def fieldAt (s : TypeId) (f : Nat) : Option Field :=
  match P.underlying s with
  | some (.struct fs) => fs[f]?
  | _ => none

def elemT (t : TypeId) : Option TypeId :=
  match P.underlying t with
  | some (.slice e) => some e
  | _ => none

def intT (t : TypeId) : Option IntKind :=
  match P.underlying t with
  | some (.int k) => some k
  | _ => none

def fieldPlaces : List Field → Option (List (Nat × Nat))
  | [] => some []
  | f :: r => (P.info? f.type).bind fun i => (fieldPlaces r).map fun l => (f.offset, i.size) :: l

def binV (h : Heap) (op : BinOp) (t : TypeId) (x y : Value) : Option Value :=
  match P.underlying t with
  | some (.int _) => intB op x y
  | some .string => strB op x y
  | some .bool => eqNeq op (boolE x y)
  | some (.pointer e) => bif Nat.beq (sizeT P e) 0 then none else eqNeq op (ptrE h x y)
  | some (.slice _) => eqNeq op (sliceE x y)
  | some (.map _ _) => eqNeq op (mapE x y)
  | some (.func _ _ _) => eqNeq op (funcE x y)
  | some (.interface _) => eqNeq op (ifaceE x y)
  | some (.struct _) => eqNeq op ((C.eqT t).bind fun ts => aggE ts x y)
  | some (.array _ _) => eqNeq op ((C.eqT t).bind fun ts => aggE ts x y)
  | _ => none

def isSeqT (t : TypeId) : Bool :=
  match P.underlying t with
  | some (.slice _) | some .string => true
  | _ => false

def isLenT (t : TypeId) (x : Value) : Bool :=
  match P.underlying t, x with
  | some (.slice _), .slice _ _ _ => true
  | some .string, .string _ => true
  | some (.map _ _), .map none => true
  | _, _ => false

/-- Keys: integers (true) or strings (false). -/
def keyT (t : TypeId) : Option Bool :=
  match P.underlying t with
  | some (.int _) => some true
  | some .string => some false
  | _ => none

/-- The places of a struct's or an array's parts. -/
def placeT (t : TypeId) : Option (Nat → Option (Nat × Nat)) :=
  match P.underlying t with
  | some (.struct fs) => (fieldPlaces P fs.toList).map fun l i => l[i]?
  | some (.array _ e) => (P.info? e).map fun ie i => some (i * ie.size, ie.size)
  | _ => none

def placesT (place : Nat → Option (Nat × Nat)) (ev : Operand → Value) : List (Nat × Operand) → Option (List (Nat × Nat × Value))
  | [] => some []
  | (i, x) :: r => (place i).bind fun (off, size) => (placesT place ev r).map fun l => (off, size, ev x) :: l

def opR (o : Oper) (ρ : Operand → Value) (h : Heap) : Res :=
  match o.op with
  | .move x | .assign x => some (.ret (ρ x) h)
  | .pick c a b => pureR (pickV (ρ c) (ρ a) (ρ b)) h
  | .alloc e => (zeroC P e).bind fun z => newR h z
  | .box e x => boxR (sizeT P e) h (ρ x)
  | .build t ps => (zeroC P t).bind fun z => (placeT P t).bind fun pl => (placesT pl ρ ps.toList).bind fun l => pureR ((fillL z l).map fun c => .agg c.toArray) h
  | .buildSlice t len ps => (elemT P t).bind fun e => (zeroC P e).bind fun z =>
      (placesT (fun i => some (i * sizeT P e, sizeT P e)) ρ ps.toList).bind fun l => bif Nat.ble (len * sizeT P e) 16777216 then buildSliceR len z h l else none
  | .load t a => (aggT P t).bind fun g => bif g then ldNR h (sizeT P t) (ρ a) else ldR h (ρ a)
  | .store t a x => (aggT P t).bind fun g => bif g then stNR h (sizeT P t) (ρ a) (ρ x) else bif Nat.beq (sizeT P t) 1 then stR h (ρ a) (ρ x) else none
  | .nilCheck x => pureR (nonnil (ρ x)) h
  | .binOp op t x y _ => pureR (binV P C h op t (ρ x) (ρ y)) h
  | .unOp op _ x => pureR (unV op (ρ x)) h
  | .convert src dst x => (P.underlying src).bind fun _ => (intT P dst).bind fun k => pureR (convI k (ρ x)) h
  | .makeInterface t x => match P.underlying t with
      | some (.interface _) => none
      | some _ => pureR (ifaceV t (ρ x)) h
      | none => none
  | .makeFunc fn first captured => pureR (funcV fn (first.toList.map ρ) (captured.toList.map ρ)) h
  | .makeMap t none => match P.underlying t with
      | some (.map kt _) => (keyT P kt).bind fun kt => newMapR kt h
      | _ => none
  | .insert t m k x | .mapUpdate t m k x => match P.underlying t with
      | some (.map kt _) => (keyT P kt).bind fun kt => updR kt h (ρ m) (ρ k) (ρ x)
      | _ => none
  | .lookup t m k ok => match P.underlying t with
      | some (.map kt e) => (keyT P kt).bind fun kt => (zeroT P e).bind fun z => bif isCst z then lookR kt z ok h (ρ m) (ρ k) else none
      | _ => none
  | .makeSlice t l c => (elemT P t).bind fun e => (zeroC P e).bind fun z => makeR z (bytesT P e) h (ρ l) (ρ c)
  | .slice t x lo hi mx => match mx with
      | some _ => none
      | none => match P.underlying t with
        | some (.array n e) => (P.info? e).bind fun _ => pureR (sliceA h n (sizeT P e) (ρ x) (lo.map ρ) (hi.map ρ)) h
        | some (.slice e) => (P.info? e).bind fun _ => pureR (sliceS (sizeT P e) (ρ x) (lo.map ρ) (hi.map ρ)) h
        | some .string => pureR (sliceStr (ρ x) (lo.map ρ) (hi.map ρ)) h
        | _ => none
  | .fieldAddr s x f => (fieldAt P s f).bind fun f => bif Nat.beq (sizeT P f.type) 0 then none else pureR (padd f.offset (ρ x)) h
  | .field s x f => (fieldAt P s f).bind fun f => (aggT P f.type).bind fun g => pureR (fieldOf g (sizeT P f.type) f.offset (ρ x)) h
  | .indexAddr t x i => match P.underlying t with
      | some (.slice e) => (P.info? e).bind fun _ => pureR (idxS (sizeT P e) (ρ x) (ρ i)) h
      | some (.array n e) => (P.info? e).bind fun _ => pureR (idxA n (sizeT P e) (ρ x) (ρ i)) h
      | _ => none
  | .index t x i => match P.underlying t with
      | some .string => pureR (strAt (ρ x) (ρ i)) h
      | some (.array n e) => (aggT P e).bind fun g => pureR (idxAgg g n (sizeT P e) (ρ x) (ρ i)) h
      | _ => none
  | .extract x i => pureR (extr i (ρ x)) h
  | .panic x => panR h (ρ x)
  | .call c => match c.callee with
      | .value f => callV callR h (ρ f) (c.args.toList.map ρ)
      | .invoke _ _ => none
      | .builtin b => match b, c.argTypes.toList, c.args.toList with
        | .len, t :: _, [x] => bif isLenT P t (ρ x) then pureR (lenV (ρ x)) h else none
        | .append, t :: u :: _, [s, x] => (elemT P t).bind fun e => (zeroC P e).bind fun _ => bif isSeqT P u then appR (sizeT P e) (bytesT P e) h (ρ s) (ρ x) else none
        | .copy, t :: _, [d, x] => (elemT P t).bind fun e => (P.info? e).bind fun _ => copyR (sizeT P e) h (ρ d) (ρ x)
        | .clear, t :: _, [x] => (elemT P t).bind fun e => (zeroC P e).bind fun z => clearR z h (ρ x)
        | .min, _, [x, y] => pureR (minV (ρ x) (ρ y)) h
        | .max, _, [x, y] => pureR (maxV (ρ x) (ρ y)) h
        | _, _, _ => none
  | _ => none

/-- The slot that a guard looks at. -/
def guardTmp (ops : Array Oper) (j : Nat) : Option Tmp := (ops[j]?).bind (·.dst)

def gopR (ops : Array Oper) (o : Oper) (t : Env) (h : Heap) : Res :=
  match o.guard with
  | none => opR P C callR o (ev C t) h
  | some (j, want) =>
    match guardTmp ops j with
    | some d =>
      match t d with
      | .bool b => cond (cond want b (!b)) (opR P C callR o (ev C t) h) (some (.ret skipV h))
      | .chan none => some (.ret skipV h)
      | _ => none
    | none => none

def opsR (ops : Array Oper) (K : Env → Heap → Res) : List Oper → Env → Heap → Res
  | [], t, h => K t h
  | o :: r, t, h => bindR (gopR P C callR ops o t h) fun v h => opsR ops K r (put t o.dst v) h

/-- Is the same read there still? -/
def veq : Value → Value → Bool
  | .bool a, .bool b => a == b
  | .int k a, .int j b => decide (k = j) && a == b
  | .string a, .string b => a == b
  | .pointer a, .pointer b => decide (a = b)
  | .slice a l c, .slice b m d => decide (a = b) && Nat.beq l m && Nat.beq c d
  | .map a, .map b => decide (a = b)
  | .nilFunc, .nilFunc => true
  | _, _ => false

def veqL : List Value → List Value → Bool
  | [], [] => true
  | x :: xs, y :: ys => veq x y && veqL xs ys
  | _, _ => false

/-- Would the load o read v in the heap h? -/
def again (o : Oper) (t : Env) (h : Heap) (v : Value) : Bool :=
  match o.op with
  | .load ty a =>
    match aggT P ty with
    | some true =>
      match ldN h (sizeT P ty) (ev C t a), v with
      | some l, .agg cs => veqL l cs.toList
      | _, _ => false
    | some false =>
      match ld1 h (ev C t a) with
      | some u => veq u v
      | none => false
    | none => false
  | _ => false

/-- A guarded load that was not wanted is not asked for again. -/
def againG (ops : Array Oper) (o : Oper) (t : Env) (h : Heap) (v : Value) : Bool :=
  match o.guard with
  | none => again P C o t h v
  | some (j, want) =>
    match guardTmp ops j with
    | some d =>
      match t d with
      | .bool b => cond (cond want b (!b)) (again P C o t h v) true
      | .chan none => true
      | _ => false
    | none => false

def opAt (ops : Array Oper) (i : Nat) : Oper := ops.getD i default
def dstOf (ops : Array Oper) (i : Nat) : Tmp := ((opAt ops i).dst).getD 0

def assocL : List (Nat × Nat) → Nat → List Nat
  | [], _ => []
  | (a, b) :: r, i => bif Nat.beq a i then b :: assocL r i else assocL r i

def heapOf : List (Nat × Heap) → Nat → Option Heap
  | [], _ => none
  | (a, h) :: r, i => bif Nat.beq a i then some h else heapOf r i

/-- The loads ahead of an effect are asked for again behind it. -/
def allAgain (ops : Array Oper) (t : Env) (h : Heap) : List Nat → Bool
  | [] => true
  | j :: r => againG P C ops (opAt ops j) t h (t (dstOf ops j)) && allAgain ops t h r

/-- A load behind an effect is asked for in the heap ahead of it. -/
def allBefore (ops : Array Oper) (o : Oper) (t : Env) (saved : List (Nat × Heap)) (v : Value) : List Nat → Bool
  | [] => true
  | e :: r => (match heapOf saved e with | some h => againG P C ops o t h v | none => false) && allBefore ops o t saved v r

def noPan (r : Res) (k : Value → Heap → Res) : Res :=
  match r with
  | some (.ret v h) => k v h
  | _ => none

def planR (ops : Array Oper) (pl : Plan) (K : Env → Heap → Res) : List Nat → List (Nat × Heap) → Env → Heap → Res
  | [], _, t, h => K t h
  | i :: r, saved, t, h =>
    noPan (gopR P C callR ops (opAt ops i) t h) fun v h' =>
      guardR (allAgain P C ops t h' (assocL pl.post i) && allBefore P C ops (opAt ops i) t saved v (assocL pl.prev i))
        (planR ops pl K r ((i, h) :: saved) (put t (opAt ops i).dst v) h')

-- code

def lk (live : List Tmp) (σ : List Value) (d : Env) : Env :=
  match live with
  | [] => d
  | x :: xs => fun i => bif Nat.beq i x then σ.headD undef else lk xs σ.tail d i

def memN (x : Nat) : List Nat → Bool
  | [] => false
  | y :: ys => Nat.beq x y || memN x ys

/-- The frame at a loop's head. -/
def headEnv (live keep : List Tmp) (t : Env) (σ : List Value) : Env := lk live σ fun i => bif memN i keep then t i else undef

def iterK {σ : Type} (n : Nat) (F : (σ → Heap → Res) → σ → Heap → Res) : σ → Heap → Res :=
  match n with
  | 0 => fun _ _ => none
  | n + 1 => F (iterK n F)

variable (n : Nat) (f : FuncId)

def codeR (cur : Nat) : Code → Env → Heap → (Exi → Env → Heap → Res) → Res
  | .skip, t, h, K => K .normal t h
  | .label _, t, h, K => K .normal t h
  | .region id ops draw, t, h, K =>
    match draw with
    | false => opsR P C callR ops (fun t h => K .normal t h) ops.toList t h
    | true =>
      match C.plan f id with
      | some pl => planR P C callR ops pl (fun t h => K .normal t h) pl.ord [] t h
      | none => none
  | .seq a b, t, h, K => codeR cur a t h fun e t h =>
      match e with
      | .normal => codeR cur b t h K
      | .exit i => K (.exit i) t h
      | .ret => K .ret t h
  | .cond c x y, t, h, K =>
    match ev C t c with
    | .bool b => cond b (codeR cur x t h K) (codeR cur y t h K)
    | _ => none
  | .block id b, t, h, K => codeR id b t h fun e t h =>
      match e with
      | .normal => K .normal t h
      | .exit i => bif Nat.beq i id then K .normal t h else K (.exit i) t h
      | .ret => K .ret t h
  | .loop body, t, h, K =>
    iterK n (fun next σ h => codeR cur body (headEnv (C.live f cur) (C.keep f cur) t σ) h fun e t h =>
      match e with
      | .normal => next ((C.live f cur).map t) h
      | .exit i => K (.exit i) t h
      | .ret => K .ret t h) ((C.live f cur).map t) h
  | .exit id, t, h, K => K (.exit id) t h
  | .ret, t, h, K => K .ret t h
  | _, _, _, _ => none
end

def argEnv (args : List Value) : Env := fun i => args.getD i undef

def resultsV (P : Program) (t : Env) (h : Heap) : List ResultVar → Option (List Value)
  | [] => some []
  | .tmp x :: r => (resultsV P t h r).bind fun l => bif clean (t x) then some (t x :: l) else none
  | .cell a ty :: r => (resultsV P t h r).bind fun l =>
    (aggT P ty).bind fun g => (bif g then (ldN h (sizeT P ty) (t a)).map fun c => Value.agg c.toArray else ld1 h (t a)).map fun v => v :: l

def tup : List Value → Value
  | [v] => v
  | l => .tuple l.toArray

def callR (P : Program) (C : Cfg) : Nat → FuncId → List Value → Heap → Res
  | 0, _, _, _ => none
  | n + 1, f, args, h =>
    match P.funcs[f]? with
    | some fn =>
      match fn.body with
      | some c => codeR P C (callR P C n) n f 0 c (argEnv args) h fun e t h =>
        match e with
        | .exit _ => none
        | _ => (resultsV P t h fn.results.toList).bind fun l => some (.ret (tup l) h)
      | none => none
    | none => none

end Go.AM
