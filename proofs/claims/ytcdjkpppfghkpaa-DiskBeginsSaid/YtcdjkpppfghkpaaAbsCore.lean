/-
  A machine of values: what a Go function computes, told without addresses. Slices that nobody writes any more are plain lists; the rest lies in a small heap of named rows. (Definitions; nothing is claimed here.)
-/
import Derived.Calls
import Derived.Tactics
namespace Go.Abs
open Go

inductive AVal where
  | undef
  | bool (b : Bool)
  | int (k : IntKind) (n : Int)
  | str (s : List UInt8)
  | ptr (l : Option (Nat × Nat))
  | cref (cells : List AVal)
  | own (l off len : Nat) (cap : Option Nat)
  | lst (isNil : Bool) (xs : List (List AVal))
  | func (f : FuncId) (first captured : List AVal)
  | nilFunc
  | yld (l : Nat)
  | agg (cells : List AVal)
  | tup (vs : List AVal)
  deriving Inhabited

structure Blk where
  cells : List AVal
  elem : TypeId
  ext : Bool
  deriving Inhabited

abbrev Heap := List (Option Blk)

def hget : Heap → Nat → Option Blk
  | [], _ => none
  | b :: _, 0 => b
  | _ :: t, n + 1 => hget t n

def AVal.cells : AVal → List AVal
  | .agg cs => cs
  | v => [v]

/-- the value of one cell? -/
def AVal.one : AVal → Bool
  | .agg _ | .tup _ | .undef => false
  | _ => true

def mapO {α β : Type} (f : α → Option β) : List α → Option (List β)
  | [] => some []
  | x :: xs => match f x with
    | none => none
    | some y => match mapO f xs with
      | none => none
      | some ys => some (y :: ys)

def gd (b : Bool) : Option Unit := if b then some () else none

/-- a constant's value -/
def ofScalar : Value → Option AVal
  | .bool b => some (.bool b)
  | .int k n => some (.int k n)
  | .string s => some (.str s.data.toList)
  | .pointer none => some (.ptr none)
  | .slice none 0 0 => some (.lst true [])
  | .nilFunc => some .nilFunc
  | _ => none
def ofValue : Value → Option AVal
  | .agg cs => (mapO ofScalar cs.toList).map .agg
  | v => ofScalar v

def setX : List AVal → Nat → AVal → List AVal
  | [], 0, v => [v]
  | [], n + 1, v => .undef :: setX [] n v
  | _ :: t, 0, v => v :: t
  | x :: t, n + 1, v => x :: setX t n v
def getX : List AVal → Nat → AVal
  | [], _ => .undef
  | x :: _, 0 => x
  | _ :: t, n + 1 => getX t n

@[simp] theorem getX_setX (e : List AVal) (i j : Nat) (v : AVal) : getX (setX e i v) j = if i = j then v else getX e j := by
  induction i generalizing e j with
  | zero => cases e <;> cases j <;> simp [setX, getX]
  | succ i ih => cases e <;> cases j <;> simp [setX, getX, ih]

def sizeOf (P : Program) (t : TypeId) : Option Nat := (P.info? t).map (·.size)
def bytesOf (P : Program) (t : TypeId) : Option Nat := (P.info? t).map (·.bytes)
def zeroOf (P : Program) (t : TypeId) : Option (List AVal) := do ((← ofValue (← (← P.info? t).zero)).cells)
def isAggT (P : Program) (t : TypeId) : Option Bool := (P.underlying t).map fun d => match d with | .struct _ | .array _ _ => true | _ => false
def elemT (P : Program) (t : TypeId) : Option TypeId := match P.underlying t with | some (.slice e) => some e | _ => none

def loadAV (P : Program) (t : TypeId) (cells : List AVal) : Option AVal :=
  match isAggT P t with
  | some true => match sizeOf P t with
    | some n => if n ≤ cells.length then some (.agg (cells.take n)) else none
    | none => none
  | some false => match cells with
    | c :: _ => some c
    | [] => none
  | none => none

def loadA (P : Program) (h : Heap) (t : TypeId) : AVal → Option AVal
  | .ptr (some (l, o)) => match hget h l with
    | some b => loadAV P t (b.cells.drop o)
    | none => none
  | .cref cells => loadAV P t cells
  | _ => none

def splice (xs : List AVal) (o : Nat) (ys : List AVal) : List AVal := xs.take o ++ ys ++ xs.drop (o + ys.length)

/-- cells written into a row -/
def write (h : Heap) (base l o : Nat) (vs : List AVal) : Option Heap :=
  match hget h l with
  | some b => if base ≤ l ∧ o + vs.length ≤ b.cells.length ∧ vs.all AVal.one = true then some (h.set l (some { b with cells := splice b.cells o vs })) else none
  | none => none

def storeA (P : Program) (h : Heap) (base : Nat) (t : TypeId) (a v : AVal) : Option Heap :=
  match a with
  | .ptr (some (l, o)) => if sizeOf P t = some v.cells.length then write h base l o v.cells else none
  | _ => none

/-- a new row: behind all others, or at a place that was kept for it -/
def halloc (h : Heap) (slot : Option Nat) (b : Blk) : Option (Nat × Heap) :=
  if b.cells.all AVal.one = true then
    match slot with
    | none => some (h.length, h ++ [some b])
    | some s => match h[s]? with
      | some none => some (s, h.set s (some b))
      | _ => none
  else none

def boundA (x : Option AVal) (dflt y : Nat) : Option Nat :=
  match x with
  | none => some dflt
  | some (.int _ i) => if 0 ≤ i ∧ i ≤ (y : Int) then some i.toNat else none
  | some _ => none

def fillA (place : Nat → Option (Nat × Nat)) (cells : List AVal) : List (Nat × AVal) → Option (List AVal)
  | [] => some cells
  | (i, v) :: rest =>
    match place i with
    | none => none
    | some (off, size) => if v.cells.length = size ∧ off + size ≤ cells.length ∧ v.cells.all AVal.one = true then fillA place (splice cells off v.cells) rest else none

def placeOf (P : Program) (fields : Array Field) (i : Nat) : Option (Nat × Nat) :=
  match fields[i]? with
  | some f => match sizeOf P f.type with
    | some s => some (f.offset, s)
    | none => none
  | none => none

def buildA (P : Program) (t : TypeId) (parts : List (Nat × AVal)) : Option AVal :=
  match zeroOf P t, P.underlying t with
  | some z, some (.struct fields) => if fields.all fun f => (sizeOf P f.type).isSome then (fillA (placeOf P fields) z parts).map .agg else none
  | some z, some (.array _ e) => match sizeOf P e with
    | some s => (fillA (fun i => some (i * s, s)) z parts).map .agg
    | none => none
  | _, _ => none

def zeros (z : List AVal) : Nat → List AVal
  | 0 => []
  | n + 1 => z ++ zeros z n

def buildSliceA (P : Program) (h : Heap) (slot : Option Nat) (t : TypeId) (len : Nat) (parts : List (Nat × AVal)) : Option (AVal × Heap) := do
  let e ← elemT P t
  let s ← sizeOf P e
  gd (decide (len * s ≤ 16777216))
  let z ← zeroOf P e
  gd (decide (z.length = s))
  let cells ← fillA (fun i => some (i * s, s)) (zeros z len) parts
  let (l, h') ← halloc h slot ⟨cells, e, false⟩
  some (.own l 0 len (some len), h')

def makeSliceA (P : Program) (h : Heap) (slot : Option Nat) (t : TypeId) (len cap : AVal) : Option (AVal × Heap) := do
  let e ← elemT P t
  let s ← sizeOf P e
  let by_ ← bytesOf P e
  let z ← zeroOf P e
  gd (decide (z.length = s))
  match len, cap with
  | .int .i64 n, .int .i64 c =>
    if 0 ≤ n ∧ n ≤ c ∧ c ≤ 9223372036854775807 ∧ (by_ : Int) * c ≤ 140737488355328 then
      let (l, h') ← halloc h slot ⟨zeros z c.toNat, e, false⟩
      some (.own l 0 n.toNat (some c.toNat), h')
    else none
  | _, _ => none

def sliceA (P : Program) (t : TypeId) (x : AVal) (lo hi mx : Option AVal) : Option AVal :=
  match P.underlying t, x with
  | some .string, .str s => do
    gd mx.isNone
    let h ← boundA hi s.length s.length
    let l ← boundA lo 0 h
    some (.str ((s.take h).drop l))
  | some (.slice e), .own l off len cap => do
    let sz ← sizeOf P e
    match mx with
    | none =>
      let h ← boundA hi len (cap.getD len)
      let k ← boundA lo 0 h
      some (.own l (off + k * sz) (h - k) (cap.map (· - k)))
    | some m' =>
      gd hi.isSome
      let m ← boundA (some m') 0 (cap.getD len)
      let h ← boundA hi len m
      let k ← boundA lo 0 h
      some (.own l (off + k * sz) (h - k) (some (m - k)))
  | some (.slice e), .lst isNil xs => do
    gd mx.isNone
    let sz ← sizeOf P e
    let h ← boundA hi xs.length xs.length
    let k ← boundA lo 0 h
    gd (decide (k = 0) || xs.all fun c => c.length == sz)
    some (.lst isNil ((xs.take h).drop k))
  | some (.array n e), .ptr (some (l, off)) => do
    gd mx.isNone
    let sz ← sizeOf P e
    let h ← boundA hi n n
    let k ← boundA lo 0 h
    some (.own l (off + k * sz) (h - k) (some (n - k)))
  | _, _ => none

def fieldOf (P : Program) (s : TypeId) (f : Nat) : Option Field := match P.underlying s with | some (.struct fields) => fields[f]? | _ => none

def fieldAddrA (P : Program) (s : TypeId) (x : AVal) (f : Nat) : Option AVal := do
  let fd ← fieldOf P s f
  let sz ← sizeOf P fd.type
  gd (decide (sz ≠ 0))
  match x with
  | .ptr (some (l, o)) => some (.ptr (some (l, o + fd.offset)))
  | .cref cells => some (.cref (cells.drop fd.offset))
  | _ => none

def fieldA (P : Program) (s : TypeId) (x : AVal) (f : Nat) : Option AVal := do
  let fd ← fieldOf P s f
  match x with
  | .agg cs => loadAV P fd.type (cs.drop fd.offset)
  | _ => none

def indexAddrA (P : Program) (t : TypeId) (x ix : AVal) : Option AVal :=
  match ix, P.underlying t, x with
  | .int _ i, some (.array n e), .ptr (some (l, o)) => if 0 ≤ i ∧ i < (n : Int) then (sizeOf P e).map fun sz => .ptr (some (l, o + i.toNat * sz)) else none
  | .int _ i, some (.array n e), .cref cells => if 0 ≤ i ∧ i < (n : Int) then (sizeOf P e).map fun sz => .cref (cells.drop (i.toNat * sz)) else none
  | .int _ i, some (.slice e), .own l o len _ => if 0 ≤ i ∧ i < (len : Int) then (sizeOf P e).map fun sz => .ptr (some (l, o + i.toNat * sz)) else none
  | .int _ i, some (.slice e), .lst _ xs => if 0 ≤ i then match xs[i.toNat]? with
      | some cells => if sizeOf P e = some cells.length then some (.cref cells) else none
      | none => none
    else none
  | _, _, _ => none

def indexA (P : Program) (t : TypeId) (x ix : AVal) : Option AVal :=
  match ix, P.underlying t, x with
  | .int _ i, some (.array n e), .agg cs => if 0 ≤ i ∧ i < (n : Int) then match sizeOf P e with | some sz => loadAV P e (cs.drop (i.toNat * sz)) | none => none else none
  | .int _ i, some .string, .str s => if 0 ≤ i then match s[i.toNat]? with | some b => some (.int .u8 (b.toNat : Int)) | none => none else none
  | _, _, _ => none

def nilP : AVal → Option Bool
  | .ptr p => some p.isNone
  | .cref _ => some false
  | _ => none
def nilS : AVal → Option Bool
  | .own .. => some false
  | .lst n _ => some n
  | _ => none
def nilF : AVal → Option Bool
  | .func .. => some false
  | .nilFunc => some true
  | _ => none

def eqFields (eq : TypeId → AVal → AVal → Option Bool) (P : Program) (xs ys : List AVal) : List Field → Option Bool
  | [] => some true
  | f :: fs => if f.name = "_" then none else
    match loadAV P f.type (xs.drop f.offset), loadAV P f.type (ys.drop f.offset) with
    | some x, some y => match eq f.type x y with
      | some true => eqFields eq P xs ys fs
      | r => r
    | _, _ => none

def eqCells (eq : AVal → AVal → Option Bool) : List AVal → List AVal → Option Bool
  | [], [] => some true
  | x :: xs, y :: ys => match eq x y with
    | some true => eqCells eq xs ys
    | r => r
  | _, _ => none

def eqA (P : Program) : Nat → TypeId → AVal → AVal → Option Bool
  | 0, _, _, _ => none
  | d + 1, t, x, y =>
    match P.underlying t, x, y with
    | some .bool, .bool a, .bool b => some (a == b)
    | some (.int _), .int k a, .int k' b => if k = k' then some (a == b) else none
    | some .string, .str a, .str b => some (a == b)
    | some (.pointer _), .ptr none, y => nilP y
    | some (.pointer _), x, .ptr none => nilP x
    | some (.slice _), .lst true _, y => nilS y
    | some (.slice _), x, .lst true _ => nilS x
    | some (.func _ _ _), .nilFunc, y => nilF y
    | some (.func _ _ _), x, .nilFunc => nilF x
    | some (.struct fields), .agg xs, .agg ys => if P.stoodInHeld t = false then eqFields (eqA P d) P xs ys fields.toList else none
    | some (.array n e), .agg xs, .agg ys => if sizeOf P e = some 1 ∧ isAggT P e = some false ∧ xs.length = n ∧ ys.length = n then eqCells (eqA P d e) xs ys else none
    | _, _, _ => none

def bytesLess : List UInt8 → List UInt8 → Bool := Op.bytesLess

def aggGuard (P : Program) (t : TypeId) (x y : AVal) : Bool := match x, y with | .agg _, .agg _ => P.eqGuardType P.depth t | _, _ => false

def binA (P : Program) (op : BinOp) (t : TypeId) (x y : AVal) : Option AVal :=
  match op, x, y with
  | .shl, .int k a, .int _ b => if b < 0 then none else some (.int k (k.wrap (a * 2 ^ (min b.toNat k.bits))))
  | .shr, .int k a, .int _ b => if b < 0 then none else some (.int k (a.fdiv (2 ^ (min b.toNat k.bits))))
  | op, .int k a, .int k' b => if k = k' then
      match op with
      | .add => some (.int k (k.wrap (a + b)))
      | .sub => some (.int k (k.wrap (a - b)))
      | .mul => some (.int k (k.wrap (a * b)))
      | .quo => if b = 0 then none else some (.int k (k.wrap (a.tdiv b)))
      | .rem => if b = 0 then none else some (.int k (a.tmod b))
      | .and => some (.int k (k.wrap (BitVec.ofInt k.bits a &&& BitVec.ofInt k.bits b).toNat))
      | .or => some (.int k (k.wrap (BitVec.ofInt k.bits a ||| BitVec.ofInt k.bits b).toNat))
      | .xor => some (.int k (k.wrap (BitVec.ofInt k.bits a ^^^ BitVec.ofInt k.bits b).toNat))
      | .andNot => some (.int k (k.wrap (BitVec.ofInt k.bits a &&& ~~~BitVec.ofInt k.bits b).toNat))
      | .eql => some (.bool (a == b))
      | .neq => some (.bool (a != b))
      | .lss => some (.bool (decide (a < b)))
      | .leq => some (.bool (decide (a ≤ b)))
      | .gtr => some (.bool (decide (a > b)))
      | .geq => some (.bool (decide (a ≥ b)))
      | _ => none
    else none
  | op, .str a, .str b =>
    match op with
    | .add => if a.length + b.length ≤ 9223372036854775807 then some (.str (a ++ b)) else none
    | .eql => some (.bool (a == b))
    | .neq => some (.bool !(a == b))
    | .lss => some (.bool (bytesLess a b))
    | .leq => some (.bool (bytesLess a b || a == b))
    | .gtr => some (.bool !(bytesLess a b || a == b))
    | .geq => some (.bool !(bytesLess a b))
    | _ => none
  | .eql, x, y => if aggGuard P t x y = false then (eqA P 8 t x y).map .bool else none
  | .neq, x, y => if aggGuard P t x y = false then (eqA P 8 t x y).map fun b => .bool !b else none
  | _, _, _ => none

def unA (op : UnOp) (x : AVal) : Option AVal :=
  match op, x with
  | .not, .bool b => some (.bool !b)
  | .neg, .int k n => some (.int k (k.wrap (0 - n)))
  | .xor, .int k n => some (.int k (k.wrap (BitVec.ofInt k.bits (if k.signed then -1 else k.max) ^^^ BitVec.ofInt k.bits n).toNat))
  | _, _ => none

def byteOf : AVal → Option UInt8
  | .int .u8 n => some (UInt8.ofNat n.toNat)
  | _ => none
def ofByte (b : UInt8) : AVal := .int .u8 (b.toNat : Int)

/-- the first n elements' cells of a slice (or of a string) -/
def srcCells (h : Heap) (size n : Nat) : AVal → Option (List AVal)
  | .own l off len _ => match hget h l with
    | some b => if n ≤ len ∧ off + n * size ≤ b.cells.length then some ((b.cells.drop off).take (n * size)) else none
    | none => none
  | .lst _ xs => if n ≤ xs.length ∧ (xs.take n).all (fun c => c.length == size) = true then some (xs.take n).flatten else none
  | .str s => if n ≤ s.length ∧ size = 1 then some ((s.take n).map ofByte) else none
  | _ => none
def lenA : AVal → Option Nat
  | .own _ _ len _ => some len
  | .lst _ xs => some xs.length
  | .str s => some s.length
  | _ => none

def isU8 (P : Program) (e : TypeId) : Bool := match P.underlying e with | some (.int .u8) => decide (sizeOf P e = some 1) | _ => false

def convA (P : Program) (h : Heap) (slot : Option Nat) (src dst : TypeId) (x : AVal) : Option (AVal × Heap) :=
  match P.underlying src, P.underlying dst, x with
  | some _, some (.int k), .int _ n => some (.int k (k.wrap n), h)
  | some _, some .string, .str s => some (.str s, h)
  | some _, some (.slice e), .str s => if isU8 P e = true then do
      let (l, h') ← halloc h slot ⟨s.map ofByte, e, true⟩
      some (.own l 0 s.length none, h') else none
  | some (.slice e), some .string, x => if isU8 P e = true then do
      let n ← lenA x
      gd (match x with | .str _ => false | _ => true)
      let cs ← srcCells h 1 n x
      let bs ← mapO byteOf cs
      some (.str bs, h) else none
  | _, _, _ => none

/-- append: the new elements' cells are there -/
def appendA (P : Program) (h : Heap) (base : Nat) (slot : Option Nat) (e : TypeId) (s : AVal) (n : Nat) (new : List AVal) : Option (AVal × Heap) := do
  let size ← sizeOf P e
  let by_ ← bytesOf P e
  gd (decide (new.length = n * size))
  gd (new.all AVal.one)
  match s with
  | .own l off len cap =>
    if n = 0 then some (s, h) else
    let need := len + n
    match hget h l with
    | none => none
    | some b =>
      match cap with
      | some c =>
        if need ≤ c then
          if size = 0 then none else do
          let h' ← write h base l (off + len * size) new
          some (.own l off need (some c), h')
        else if off + len * size ≤ b.cells.length ∧ (2 * need + 1024) * by_ ≤ 140737488355328 ∧ need ≤ 4611686018427387904 then do
          let (l', h') ← halloc h slot ⟨(b.cells.drop off).take (len * size) ++ new, e, true⟩
          some (.own l' 0 need none, h')
        else none
      | none =>
        if off = 0 ∧ len * size = b.cells.length ∧ base ≤ l ∧ b.elem = e ∧ (2 * need + 1024) * by_ ≤ 140737488355328 ∧ need ≤ 4611686018427387904 ∧ size ≠ 0 then do
          let (l', h') ← halloc (h.set l none) slot ⟨b.cells ++ new, e, true⟩
          some (.own l' 0 need none, h')
        else none
  | .lst isNil xs =>
    if n = 0 then some (s, h) else
    if isNil = true ∧ xs.length = 0 ∧ (2 * n + 1024) * by_ ≤ 140737488355328 ∧ n ≤ 4611686018427387904 then do
      let (l', h') ← halloc h slot ⟨new, e, true⟩
      some (.own l' 0 n none, h')
    else none
  | _ => none

def max2A : AVal → AVal → Option AVal
  | .int k x, .int _ y => some (.int k (if y > x then y else x))
  | _, _ => none
def min2A : AVal → AVal → Option AVal
  | .int k x, .int _ y => some (.int k (if y < x then y else x))
  | _, _ => none
def foldA (f : AVal → AVal → Option AVal) : AVal → List AVal → Option AVal
  | x, [] => some x
  | x, y :: ys => match f x y with
    | some z => foldA f z ys
    | none => none

def dstLen : AVal → Option Nat
  | .own _ _ len _ => some len
  | .lst _ xs => some xs.length
  | _ => none

def intArg (P : Program) : List TypeId → Option Bool
  | t :: _ => (P.underlying t).map fun d => match d with | .int _ => true | _ => false
  | [] => some false

def builtinA (P : Program) (h : Heap) (base : Nat) (slot : Option Nat) (b : Builtin) (ts : List TypeId) (args : List AVal) : Option (AVal × Heap) :=
  match b, ts, args with
  | .len, t :: _, x :: _ => match P.underlying t, x with
    | some .string, .str s => some (.int .i64 s.length, h)
    | some (.slice _), .own _ _ n _ => some (.int .i64 n, h)
    | some (.slice _), .lst _ xs => some (.int .i64 xs.length, h)
    | some (.array n _), _ => some (.int .i64 n, h)
    | some (.pointer a), _ => match P.underlying a with
      | some (.array n _) => some (.int .i64 n, h)
      | _ => none
    | _, _ => none
  | .cap, t :: _, x :: _ => match P.underlying t, x with
    | some (.slice _), .own _ _ _ (some c) => some (.int .i64 c, h)
    | some (.slice _), .lst true _ => some (.int .i64 0, h)
    | _, _ => none
  | .append, t :: ts', s :: x :: _ => do
    let e ← elemT P t
    let size ← sizeOf P e
    let z ← zeroOf P e
    gd (decide (z.length = size))
    let isInt ← intArg P ts'
    if isInt then
      match x with
      | .int .i64 n =>
        let by_ ← bytesOf P e
        if 0 ≤ n ∧ n ≤ 4611686018427387904 ∧ n * by_ ≤ 140737488355328 then appendA P h base slot e s n.toNat (zeros z n.toNat) else none
      | _ => none
    else do
      let n ← lenA x
      let new ← srcCells h size n x
      appendA P h base slot e s n new
  | .copy, t :: _, d :: s :: _ => do
    let e ← elemT P t
    let size ← sizeOf P e
    let n ← lenA s
    let m ← dstLen d
    let k := min n m
    let new ← srcCells h size k s
    match d with
    | .own l off _ _ => do
      let h' ← write h base l off new
      some (.int .i64 k, h')
    | _ => if k = 0 then some (.int .i64 k, h) else none
  | .clear, t :: _, x :: _ => do
    let e ← elemT P t
    let z ← zeroOf P e
    let size ← sizeOf P e
    gd (decide (z.length = size))
    match x with
    | .lst isNil xs => if isNil || xs.isEmpty then some (.tup [], h) else none
    | .own l off len _ => if len = 0 then some (.tup [], h) else do
      let h' ← write h base l off (zeros z len)
      some (.tup [], h')
    | _ => none
  | .max, _, x :: xs => (foldA max2A x xs).map (·, h)
  | .min, _, x :: xs => (foldA min2A x xs).map (·, h)
  | _, _, _ => none

/-! ### what a call gives, told without its rows -/
def chunk (sz : Nat) : Nat → List AVal → List (List AVal)
  | 0, _ => []
  | n + 1, l => l.take sz :: chunk sz n (l.drop sz)

def frz (P : Program) : Nat → Bool → Nat → Heap → AVal → Option AVal
  | 0, _, _, _, _ => none
  | d + 1, top, n, h, v =>
    match v with
    | .own l off len cap => if l < n then (if top then some (.own l off len cap) else none) else
      match hget h l with
      | none => none
      | some b => match sizeOf P b.elem with
        | none => none
        | some sz => if off + len * sz ≤ b.cells.length then
            match mapO (frz P d false n h) ((b.cells.drop off).take (len * sz)) with
            | some cs => some (.lst false (chunk sz len cs))
            | none => none
          else none
    | .ptr (some (l, o)) => if top ∧ l < n then some (.ptr (some (l, o))) else none
    | .func f a c => if top then
        match mapO (frz P d true n h) a, mapO (frz P d true n h) c with
        | some a', some c' => some (.func f a' c')
        | _, _ => none
      else if a.isEmpty ∧ c.isEmpty then some (.func f a c) else none
    | .yld _ => none
    | .agg cs => if top then (mapO (frz P d true n h) cs).map .agg else none
    | .tup cs => if top then (mapO (frz P d true n h) cs).map .tup else none
    | v => some v

inductive Kind where
  | pure | grow | full | closed

structure Cfg where
  P : Program
  kind : FuncId → Kind
  ext : FuncId → Option (List AVal → Heap → Option AVal)

inductive Ex where
  | normal
  | exit (id : Nat)
  | ret
  deriving Inhabited

abbrev St := List AVal × Heap
/-- a way to call: base, function, arguments, heap -/
abbrev Caller := Nat → FuncId → List AVal → Heap → Option (AVal × Heap)

def doCall (C : Cfg) (rn : Caller) : Caller := fun base f args h =>
  match C.ext f with
  | some g => match g args h with
    | some v => some (v, h)
    | none => none
  | none => match C.kind f with
    | .pure => match rn h.length f args h with
      | some (v, h') => match frz C.P 9 true h.length h' v with
        | some u => some (u, h)
        | none => none
      | none => none
    | .grow => rn h.length f args h
    | .full => rn base f args h
    | .closed => none

/-- no row is in it, nor a list -/
def flat : AVal → Bool
  | .undef | .bool _ | .int _ _ | .str _ | .ptr none | .nilFunc => true
  | .lst _ xs => xs.isEmpty
  | _ => false
def flatR : AVal → Bool
  | .tup vs => vs.all flat
  | v => flat v

def evalA (env : List AVal) : Operand → Option AVal
  | .tmp t => some (getX env t)
  | .const v => ofValue v
  | .func f => some (.func f [] [])
  | .global _ => none

def evalsA (env : List AVal) : List Operand → Option (List AVal)
  | [] => some []
  | x :: xs => match evalA env x with
    | some v => match evalsA env xs with
      | some vs => some (v :: vs)
      | none => none
    | none => none

def evalO (env : List AVal) : Option Operand → Option (Option AVal)
  | none => some none
  | some x => (evalA env x).map some

def partsA (env : List AVal) : List (Nat × Operand) → Option (List (Nat × AVal))
  | [] => some []
  | (i, x) :: xs => match evalA env x with
    | some v => match partsA env xs with
      | some vs => some ((i, v) :: vs)
      | none => none
    | none => none

def bodied (P : Program) (f : FuncId) : Bool := match P.funcs[f]? with | some fn => fn.body.isSome | none => false

/-- one operation: its value (none: it has none), the heap behind it -/
def opA (C : Cfg) (cl : Caller) (base : Nat) (slot : Option Nat) (env : List AVal) (h : Heap) (op : Op) : Option (AVal × Heap) :=
  match op with
  | .move x | .assign x => (evalA env x).map (·, h)
  | .pick c a b => match evalA env c with
    | some (.bool true) => (evalA env a).map (·, h)
    | some (.bool false) => (evalA env b).map (·, h)
    | _ => none
  | .alloc e => do
    let z ← zeroOf C.P e
    let (l, h') ← halloc h slot ⟨z, e, false⟩
    some (.ptr (some (l, 0)), h')
  | .box e x => do
    let v ← evalA env x
    let (l, h') ← halloc h slot ⟨v.cells, e, false⟩
    some (.ptr (some (l, 0)), h')
  | .build t ps => do
    let ps' ← partsA env ps.toList
    (buildA C.P t ps').map (·, h)
  | .buildSlice t n ps => do
    let ps' ← partsA env ps.toList
    buildSliceA C.P h slot t n ps'
  | .load t a => do
    let p ← evalA env a
    (loadA C.P h t p).map (·, h)
  | .store t a x => do
    let p ← evalA env a
    let v ← evalA env x
    (storeA C.P h base t p v).map (.undef, ·)
  | .nilCheck x => match evalA env x with
    | some (.ptr (some p)) => some (.ptr (some p), h)
    | some (.cref cs) => some (.cref cs, h)
    | some (.func f a c) => some (.func f a c, h)
    | _ => none
  | .binOp op t x y _ => do
    let a ← evalA env x
    let b ← evalA env y
    (binA C.P op t a b).map (·, h)
  | .unOp op _ x => do
    let a ← evalA env x
    (unA op a).map (·, h)
  | .convert s d x => do
    let a ← evalA env x
    convA C.P h slot s d a
  | .makeFunc (.func f) first captured => do
    let a ← evalsA env first.toList
    let c ← evalsA env captured.toList
    some (.func f a c, h)
  | .makeSlice t l c => do
    let n ← evalA env l
    let m ← evalA env c
    makeSliceA C.P h slot t n m
  | .slice t x lo hi mx => do
    let a ← evalA env x
    let l ← evalO env lo
    let k ← evalO env hi
    let m ← evalO env mx
    (sliceA C.P t a l k m).map (·, h)
  | .fieldAddr s x f => do
    let a ← evalA env x
    (fieldAddrA C.P s a f).map (·, h)
  | .field s x f => do
    let a ← evalA env x
    (fieldA C.P s a f).map (·, h)
  | .indexAddr t x i => do
    let a ← evalA env x
    let n ← evalA env i
    (indexAddrA C.P t a n).map (·, h)
  | .index t x i => do
    let a ← evalA env x
    let n ← evalA env i
    (indexA C.P t a n).map (·, h)
  | .extract x i => match evalA env x with
    | some (.tup vs) => match vs[i]? with
      | some v => some (v, h)
      | none => none
    | _ => none
  | .call c => match c.callee with
    | .builtin b => do
      let args ← evalsA env c.args.toList
      builtinA C.P h base slot b c.argTypes.toList args
    | .value f => match evalA env f with
      | some (.func g first captured) => do
        let args ← evalsA env c.args.toList
        gd (bodied C.P g)
        cl base g (first ++ args ++ captured) h
      | _ => none
    | _ => none
  | _ => none

def wantedA (ops : List Oper) (env : List AVal) (o : Oper) : Bool :=
  match o.guard with
  | none => true
  | some (j, want) => match (ops[j]?).bind (·.dst) with
    | some d => match getX env d with
      | .bool b => b == want
      | _ => false
    | none => false

def putA (n : Nat) (env : List AVal) (dst : Option Tmp) (v : AVal) : Option (List AVal) :=
  match dst with
  | none => some env
  | some d => if d < n then some (setX env d v) else none

def opsA (C : Cfg) (cl : Caller) (base n : Nat) (all : List Oper) : List Oper → St → Option St
  | [], s => some s
  | o :: rest, (env, h) =>
    if wantedA all env o = true then
      match opA C cl base none env h o.op with
      | some (v, h') => match putA n env o.dst v with
        | some env' => opsA C cl base n all rest (env', h')
        | none => none
      | none => none
    else match putA n env o.dst .undef with
      | some env' => opsA C cl base n all rest (env', h)
      | none => none

/-! ### a region whose order is open -/
/-- which operations each one waits for, as bits -/
def befL : List Oper → List Nat → List Nat
  | [], acc => acc
  | o :: os, acc => befL os (acc ++ [o.after.toList.foldl (fun s e => if Region.binds .any e then s ||| 2 ^ e.on ||| acc.getD e.on 0 else s) 0])
def waitsB (bs : List Nat) (i j : Nat) : Bool := (bs.getD i 0).testBit j

def tmpOf : Operand → List Nat
  | .tmp t => [t]
  | _ => []
/-- the places that an operation looks at -/
def looks (all : List Oper) (o : Oper) : List Nat :=
  o.op.operands.toList.flatMap tmpOf ++ (match o.guard with | some (g, _) => ((all[g]?).bind (·.dst)).toList | none => [])
def names (all : List Oper) (o : Oper) : List Nat := o.dst.toList ++ looks all o
/-- who writes a place that another one names is ordered against it -/
def orderly (all : List Oper) (bs : List Nat) : Bool :=
  (bs.zipIdx.all fun (b, i) => decide (b < 2 ^ i)) && all.zipIdx.all fun (o, j) => all.zipIdx.all fun (q, i) => i == j || match q.dst with
    | some t => !(names all o).contains t || waitsB bs (max i j) (min i j)
    | none => true

inductive Cls where
  | pure | rd | al | eff
def clsOf (P : Program) : Op → Cls
  | .load _ _ => .rd
  | .alloc _ | .box _ _ | .buildSlice _ _ _ | .makeSlice _ _ _ => .al
  | .convert s d _ => match P.underlying d with
    | some (.slice _) => .al
    | _ => match P.underlying s with
      | some (.slice _) => .rd
      | _ => .pure
  | .store _ _ _ => .eff
  | .call c => match c.callee with
    | .builtin .len | .builtin .cap | .builtin .max | .builtin .min => .pure
    | _ => .eff
  | _ => .pure
def locOf : AVal → List Nat
  | .ptr (some (l, _)) => [l]
  | .own l _ _ _ => [l]
  | _ => []
/-- the rows that are read -/
def rdLocs (env : List AVal) : Op → List Nat
  | .load _ a => match evalA env a with | some v => locOf v | none => []
  | .convert _ _ x => match evalA env x with | some v => locOf v | none => []
  | _ => []
/-- the rows that may be turned (none: any) -/
def touchOf (C : Cfg) (env : List AVal) (slot : Nat) : Op → Option (List Nat)
  | .call c => match c.callee with
    | .value f => match evalA env f with
      | some (.func g _ _) => match C.ext g with
        | some _ => some []
        | none => match C.kind g with
          | .full => none
          | _ => some []
      | _ => none
    | .builtin .append => match c.args.toList with
      | s :: _ => match evalA env s with
        | some v => some (slot :: locOf v)
        | none => none
      | [] => none
    | _ => none
  | _ => none

def mergeF (c : Nat) (p : Nat → Bool) : List (Nat × Blk) → Heap → Heap
  | [], G => G
  | (j, b) :: r, G => mergeF c p r (if p j then G.set (c + j) (some b) else G)

structure DS where
  env : List AVal
  G : Heap
  fl : List (Nat × Blk)
  rs : List (Nat × List Nat)
  es : List (Nat × Option (List Nat) × Nat)

def readsOk (bs : List Nat) (c N i : Nat) (ls : List Nat) (es : List (Nat × Option (List Nat) × Nat)) : Bool :=
  (es.all fun e => waitsB bs i e.1 || match e.2.1 with | some T => ls.all fun l => !T.contains l && decide (l < e.2.2) | none => false) &&
  ls.all fun l => !(decide (c ≤ l) && decide (l < c + N)) || waitsB bs i (l - c)
def effOk (bs : List Nat) (i : Nat) (T : Option (List Nat)) (rs : List (Nat × List Nat)) (es : List (Nat × Option (List Nat) × Nat)) (len : Nat) : Bool :=
  (es.all fun e => waitsB bs i e.1) && rs.all fun r => waitsB bs i r.1 || match T with | some T => r.2.all fun l => !T.contains l && decide (l < len) | none => false

def dstep (C : Cfg) (cl : Caller) (base n c : Nat) (all : List Oper) (bs : List Nat) (i : Nat) (o : Oper) (s : DS) : Option DS :=
  if wantedA all s.env o = true then
    match clsOf C.P o.op with
    | .pure => match opA C cl base none s.env s.G o.op with
      | some (v, _) => match putA n s.env o.dst v with
        | some env => some { s with env := env }
        | none => none
      | none => none
    | .rd =>
      let ls := rdLocs s.env o.op
      if readsOk bs c all.length i ls s.es = true then
        match opA C cl base none s.env (mergeF c (fun _ => true) s.fl s.G) o.op with
        | some (v, _) => match putA n s.env o.dst v with
          | some env => some { s with env := env, rs := (i, ls) :: s.rs }
          | none => none
        | none => none
      else none
    | .al => match opA C cl base (some (c + i)) s.env s.G o.op with
      | some (v, G') => match hget G' (c + i) with
        | some b => match putA n s.env o.dst v with
          | some env => some { s with env := env, fl := (i, b) :: s.fl }
          | none => none
        | none => none
      | none => none
    | .eff =>
      let T := touchOf C s.env (c + i) o.op
      if effOk bs i T s.rs s.es s.G.length = true then
        let G := mergeF c (waitsB bs i) s.fl s.G
        match opA C cl base (some (c + i)) s.env G o.op with
        | some (v, G') => match putA n s.env o.dst v with
          | some env => some { env := env, G := G', fl := s.fl.filter fun f => !waitsB bs i f.1, rs := s.rs, es := (i, T, G.length) :: s.es }
          | none => none
        | none => none
      else none
  else match putA n s.env o.dst .undef with
    | some env => some { s with env := env }
    | none => none

def dsteps (C : Cfg) (cl : Caller) (base n c : Nat) (all : List Oper) (bs : List Nat) : Nat → List Oper → DS → Option DS
  | _, [], s => some s
  | i, o :: os, s => match dstep C cl base n c all bs i o s with
    | some s' => dsteps C cl base n c all bs (i + 1) os s'
    | none => none

def drawA (C : Cfg) (cl : Caller) (base n : Nat) (all : List Oper) (s : St) : Option St :=
  let bs := befL all []
  if orderly all bs = true then
    match dsteps C cl base n s.2.length all bs 0 all ⟨s.1, s.2 ++ List.replicate all.length none, [], [], []⟩ with
    | some t => some (t.env, mergeF s.2.length (fun _ => true) t.fl t.G)
    | none => none
  else none

def loopA (body : St → Option (Ex × St)) : Nat → St → Option (Ex × St)
  | 0, _ => none
  | n + 1, s => match body s with
    | some (.normal, s') => loopA body n s'
    | r => r

def execA (C : Cfg) (cl : Caller) (N base n : Nat) : Code → St → Option (Ex × St)
  | .skip, s => some (.normal, s)
  | .region _ ops d, s => match (if d then drawA C cl base n ops.toList s else opsA C cl base n ops.toList ops.toList s) with
    | some s' => some (.normal, s')
    | none => none
  | .seq a b, s => match execA C cl N base n a s with
    | some (.normal, s') => execA C cl N base n b s'
    | r => r
  | .cond c a b, s => match evalA s.1 c with
    | some (.bool true) => execA C cl N base n a s
    | some (.bool false) => execA C cl N base n b s
    | _ => none
  | .block id b, s => match execA C cl N base n b s with
    | some (.exit i, s') => if i = id then some (.normal, s') else some (.exit i, s')
    | r => r
  | .loop b, s => loopA (execA C cl N base n b) N s
  | .exit id, s => some (.exit id, s)
  | .ret, s => some (.ret, s)
  | _, _ => none

def resA (P : Program) (s : St) : ResultVar → Option AVal
  | .tmp t => some (getX s.1 t)
  | .cell a t => loadA P s.2 t (getX s.1 a)

def finishA (P : Program) (fn : Func) (s : St) : Option AVal :=
  match mapO (resA P s) fn.results.toList with
  | some [v] => some v
  | some vs => some (.tup vs)
  | none => none

def runA (C : Cfg) : Nat → Caller
  | 0 => fun _ _ _ _ => none
  | n + 1 => fun base f args h =>
    match C.P.funcs[f]? with
    | none => none
    | some fn => match fn.body with
      | none => none
      | some c => if fn.ntmps < args.length then none else match execA C (doCall C (runA C n)) n base fn.ntmps c (args, h) with
        | some (.exit _, _) => none
        | some (_, s) => match finishA C.P fn s with
          | some v => some (v, s.2)
          | none => none
        | none => none
end Go.Abs
