/-
  The machine of values as a reckoner of conditions: a piece of code, and what is to hold behind it, give what is to hold ahead of it. (Definitions; nothing is claimed here.)
-/
import Derived.Test.YtcdjkpppfghkpaaAbsLoopT
namespace Go.Abs
open Go

abbrev Env := Nat → AVal
def put (e : Env) (i : Nat) (v : AVal) : Env := fun j => bif Nat.beq j i then v else e j

def Kopt {α : Type} : Option α → (α → Prop) → Prop
  | some v, K => K v
  | none, _ => False
def Kcond : Bool → Prop → Prop → Prop
  | true, A, _ => A
  | false, _, B => B
/-- a small number, as a numeral -/
def Ksz (n : Nat) (K : Nat → Prop) : Prop :=
  bif Nat.beq n 1 then K 1 else bif Nat.beq n 0 then K 0 else bif Nat.beq n 2 then K 2 else bif Nat.beq n 3 then K 3 else bif Nat.beq n 4 then K 4 else bif Nat.beq n 5 then K 5 else bif Nat.beq n 6 then K 6 else bif Nat.beq n 7 then K 7 else bif Nat.beq n 8 then K 8 else bif Nat.beq n 16 then K 16 else bif Nat.beq n 24 then K 24 else bif Nat.beq n 32 then K 32 else bif Nat.beq n 40 then K 40 else bif Nat.beq n 48 then K 48 else K n
/-- values are laid bare as they are put down -/
def Kv1 (v : AVal) (K : AVal → Prop) : Prop := match v with
  | .undef => K .undef
  | .bool b => K (.bool b)
  | .int k n => K (.int k n)
  | .str s => K (.str s)
  | .ptr none => K (.ptr none)
  | .ptr (some (l, o)) => K (.ptr (some (l, o)))
  | .cref c => K (.cref c)
  | .own l o n c => K (.own l o n c)
  | .lst n xs => K (.lst n xs)
  | .func f a c => K (.func f a c)
  | .nilFunc => K .nilFunc
  | .yld l => K (.yld l)
  | .agg cs => K (.agg cs)
  | .tup vs => K (.tup vs)
def Kl1s (v : AVal) (ih : (List AVal → Prop) → Prop) (K : List AVal → Prop) : Prop := Kv1 v fun v => ih fun vs => K (v :: vs)
noncomputable def Kl1 (vs : List AVal) : (List AVal → Prop) → Prop := List.rec (motive := fun _ => (List AVal → Prop) → Prop) (fun K => K []) (fun v _ ih => Kl1s v ih) vs
noncomputable def Kv2 (v : AVal) (K : AVal → Prop) : Prop := match v with
  | .undef => K .undef
  | .bool b => K (.bool b)
  | .int k n => K (.int k n)
  | .str s => K (.str s)
  | .ptr none => K (.ptr none)
  | .ptr (some (l, o)) => K (.ptr (some (l, o)))
  | .cref c => K (.cref c)
  | .own l o n c => K (.own l o n c)
  | .lst n xs => K (.lst n xs)
  | .func f a c => Kl1 a fun a => Kl1 c fun c => K (.func f a c)
  | .nilFunc => K .nilFunc
  | .yld l => K (.yld l)
  | .agg cs => Kl1 cs fun cs => K (.agg cs)
  | .tup vs => K (.tup vs)
def Kl2s (v : AVal) (ih : (List AVal → Prop) → Prop) (K : List AVal → Prop) : Prop := Kv2 v fun v => ih fun vs => K (v :: vs)
noncomputable def Kl2 (vs : List AVal) : (List AVal → Prop) → Prop := List.rec (motive := fun _ => (List AVal → Prop) → Prop) (fun K => K []) (fun v _ ih => Kl2s v ih) vs
noncomputable def Kv3 (v : AVal) (K : AVal → Prop) : Prop := match v with
  | .undef => K .undef
  | .bool b => K (.bool b)
  | .int k n => K (.int k n)
  | .str s => K (.str s)
  | .ptr none => K (.ptr none)
  | .ptr (some (l, o)) => K (.ptr (some (l, o)))
  | .cref c => K (.cref c)
  | .own l o n c => K (.own l o n c)
  | .lst n xs => K (.lst n xs)
  | .func f a c => Kl1 a fun a => Kl1 c fun c => K (.func f a c)
  | .nilFunc => K .nilFunc
  | .yld l => K (.yld l)
  | .agg cs => Kl1 cs fun cs => K (.agg cs)
  | .tup vs => Kl2 vs fun vs => K (.tup vs)

/-! ### where a reckoner stands still, and is helped on -/
inductive Kwrap (z : Int) (K : AVal → Prop) : Prop
  | mk : K (.int .i64 (IntKind.wrap .i64 z)) → Kwrap z K
/-- a condition to be shown on the way -/
inductive VIf (p : Prop) (K : Prop) : Prop
  | mk : p → K → VIf p K
inductive VRow (h : Heap) (l : Nat) (K : Blk → Prop) : Prop
  | mk (b : Blk) : hget h l = some b → K b → VRow h l K
inductive VWrite (h : Heap) (base l o : Nat) (vs : List AVal) (K : Heap → Prop) : Prop
  | mk (h' : Heap) : write h base l o vs = some h' → K h' → VWrite h base l o vs K
inductive VAlloc (h : Heap) (slot : Option Nat) (b : Blk) (K : Nat → Heap → Prop) : Prop
  | mk (l : Nat) (h' : Heap) : halloc h slot b = some (l, h') → K l h' → VAlloc h slot b K
inductive VNth (P : Program) (e : TypeId) (xs : List (List AVal)) (i : Int) (K : List AVal → Prop) : Prop
  | mk (c : List AVal) : 0 ≤ i → xs[i.toNat]? = some c → sizeOf P e = some c.length → K c → VNth P e xs i K
inductive VByte (s : List UInt8) (i : Int) (K : UInt8 → Prop) : Prop
  | mk (b : UInt8) : 0 ≤ i → s[i.toNat]? = some b → K b → VByte s i K
inductive VBytes (cs : List AVal) (K : List UInt8 → Prop) : Prop
  | mk (bs : List UInt8) : mapO byteOf cs = some bs → K bs → VBytes cs K
inductive VB (P : Program) (h : Heap) (base : Nat) (slot : Option Nat) (b : Builtin) (ts : List TypeId) (args : List AVal) (K : AVal → Heap → Prop) : Prop
  | mk (v : AVal) (h' : Heap) : builtinA P h base slot b ts args = some (v, h') → K v h' → VB P h base slot b ts args K
inductive VCall (C : Cfg) (base : Nat) (f : FuncId) (args : List AVal) (h : Heap) (L : LS) (K : AVal → Heap → LS → Prop) : Prop
  | mk : bodied C.P f = true → ∀ v h' L', (∃ N0, ∀ M, N0 ≤ M → doCallL C (runL C M) base (.fn f) args h L = some (v, h', L')) → K v h' L' → VCall C base f args h L K
inductive VYld (C : Cfg) (base : Nat) (y : Nat) (args : List AVal) (h : Heap) (L : LS) (K : AVal → Heap → LS → Prop) : Prop
  | mk (v : AVal) (h' : Heap) (L' : LS) : (∃ N0, ∀ M, N0 ≤ M → doCallL C (runL C M) base (.yld y) args h L = some (v, h', L')) → K v h' L' → VYld C base y args h L K

/-! ### operands -/
def evalF (e : Env) : Operand → Option AVal
  | .tmp t => some (e t)
  | .const v => ofValue v
  | .func f => some (.func f [] [])
  | .global _ => none
def evalsF (e : Env) : List Operand → Option (List AVal)
  | [] => some []
  | x :: xs => match evalF e x with
    | some v => match evalsF e xs with
      | some vs => some (v :: vs)
      | none => none
    | none => none
def evalOF (e : Env) : Option Operand → Option (Option AVal)
  | none => some none
  | some x => (evalF e x).map some
def partsF (e : Env) : List (Nat × Operand) → Option (List (Nat × AVal))
  | [] => some []
  | (i, x) :: xs => match evalF e x with
    | some v => match partsF e xs with
      | some vs => some ((i, v) :: vs)
      | none => none
    | none => none

def arithOf : BinOp → AVal → AVal → Option Int
  | .add, .int .i64 a, .int .i64 b => some (a + b)
  | .sub, .int .i64 a, .int .i64 b => some (a - b)
  | .mul, .int .i64 a, .int .i64 b => some (a * b)
  | .quo, .int .i64 a, .int .i64 b => if b = 0 then none else some (a.tdiv b)
  | _, _, _ => none
def catOf : BinOp → AVal → AVal → Option (List UInt8 × List UInt8)
  | .add, .str a, .str b => some (a, b)
  | _, _, _ => none

def buildF (P : Program) (t : TypeId) (parts : List (Nat × AVal)) : Option AVal :=
  match zeroOf P t, P.underlying t with
  | some z, some (.struct fields) => bif fields.toList.all fun f => (sizeOf P f.type).isSome then (fillA (placeOf P fields) z parts).map .agg else none
  | some z, some (.array _ e) => match sizeOf P e with
    | some s => (fillA (fun i => some (i * s, s)) z parts).map .agg
    | none => none
  | _, _ => none

/-- a slice's cells, laid out -/
def buildCells (P : Program) (t : TypeId) (len : Nat) (parts : List (Nat × AVal)) : Option (TypeId × List AVal) := do
  let e ← elemT P t
  let s ← sizeOf P e
  gd (decide (len * s ≤ 16777216))
  let z ← zeroOf P e
  gd (decide (z.length = s))
  let cells ← fillA (fun i => some (i * s, s)) (zeros z len) parts
  some (e, cells)

def intOf : AVal → Option Int
  | .int _ i => some i
  | _ => none
def boundF (d : Int) : Option AVal → Option Int
  | none => some d
  | some (.int _ i) => some i
  | some _ => none

/-- what a slice expression asks, and gives -/
def wslice (P : Program) (t : TypeId) (x : AVal) (lo hi mx : Option AVal) (K : AVal → Prop) : Prop :=
  match x, mx with
  | .str s, none => match P.underlying t with
    | some .string => Kopt (boundF s.length hi) fun b => Kopt (boundF 0 lo) fun a => VIf (0 ≤ a ∧ a ≤ b ∧ b ≤ s.length) (K (.str ((s.take b.toNat).drop a.toNat)))
    | _ => False
  | .own l off len cap, none => match P.underlying t with
    | some (.slice e) => Kopt (sizeOf P e) fun sz => Kopt (boundF len hi) fun b => Kopt (boundF 0 lo) fun a => Ksz sz fun sz => match cap with
      | some c => VIf (0 ≤ a ∧ a ≤ b ∧ b ≤ (c : Int)) (K (.own l (off + a.toNat * sz) (b.toNat - a.toNat) (some (c - a.toNat))))
      | none => VIf (0 ≤ a ∧ a ≤ b ∧ b ≤ (len : Int)) (K (.own l (off + a.toNat * sz) (b.toNat - a.toNat) none))
    | _ => False
  | .lst n xs, none => match P.underlying t with
    | some (.slice e) => Kopt (sizeOf P e) fun sz => Kopt (boundF xs.length hi) fun b => Kopt (boundF 0 lo) fun a => VIf (0 ≤ a ∧ a ≤ b ∧ b ≤ xs.length) (VIf (a = 0 ∨ ∀ c, c ∈ xs → c.length = sz) (K (.lst n ((xs.take b.toNat).drop a.toNat))))
    | _ => False
  | x, mx => Kopt (sliceA P t x lo hi mx) K

def windexAddr (P : Program) (t : TypeId) (x ix : AVal) (K : AVal → Prop) : Prop :=
  match x with
  | .own l o len _ => match P.underlying t with
    | some (.slice e) => Kopt (intOf ix) fun i => Kopt (sizeOf P e) fun sz => Ksz sz fun sz => VIf (0 ≤ i ∧ i < len) (K (.ptr (some (l, o + i.toNat * sz))))
    | _ => False
  | .lst _ xs => match P.underlying t with
    | some (.slice e) => Kopt (intOf ix) fun i => VNth P e xs i fun c => K (.cref c)
    | _ => False
  | x => Kopt (indexAddrA P t x ix) K

def windex (P : Program) (t : TypeId) (x ix : AVal) (K : AVal → Prop) : Prop :=
  match x with
  | .str s => match P.underlying t with
    | some .string => Kopt (intOf ix) fun i => VByte s i fun b => K (.int .u8 (b.toNat : Int))
    | _ => False
  | x => Kopt (indexA P t x ix) K

def wload (P : Program) (t : TypeId) (p : AVal) (h : Heap) (K : AVal → Prop) : Prop :=
  match p with
  | .ptr (some (l, o)) => VRow h l fun b => Kopt (loadAV P t (b.cells.drop o)) K
  | .cref cells => Kopt (loadAV P t cells) K
  | _ => False

def wconv (P : Program) (h : Heap) (slot : Option Nat) (s d : TypeId) (x : AVal) (K : AVal → Heap → Prop) : Prop :=
  match x with
  | .own l off len _ => match P.underlying s, P.underlying d with
    | some (.slice e), some .string => Kcond (isU8 P e) (VRow h l fun b => VIf (off + len ≤ b.cells.length) (VBytes ((b.cells.drop off).take len) fun bs => K (.str bs) h)) False
    | _, _ => False
  | .lst _ xs => match P.underlying s, P.underlying d with
    | some (.slice e), some .string => Kcond (isU8 P e) (VIf (∀ c, c ∈ xs → c.length = 1) (VBytes xs.flatten fun bs => K (.str bs) h)) False
    | _, _ => False
  | .str bs => match P.underlying s, P.underlying d with
    | some _, some (.slice e) => Kcond (isU8 P e) (VAlloc h slot ⟨bs.map ofByte, e, true⟩ fun l h' => K (.own l 0 bs.length none) h') False
    | _, _ => Kopt (convA P h slot s d (.str bs)) fun r => match r with | (v, h') => K v h'
  | x => Kopt (convA P h slot s d x) fun r => match r with | (v, h') => K v h'

/-- one operation -/
noncomputable def wop (C : Cfg) (base : Nat) (slot : Option Nat) (e : Env) (h : Heap) (L : LS) (op : Op) (K : AVal → Heap → LS → Prop) : Prop :=
  match op with
  | .move x | .assign x => Kopt (evalF e x) fun v => K v h L
  | .pick c a b => match evalF e c with
    | some (.bool p) => Kcond p (Kopt (evalF e a) fun v => K v h L) (Kopt (evalF e b) fun v => K v h L)
    | _ => False
  | .alloc t => Kopt (zeroOf C.P t) fun z => Kl1 z fun z => VAlloc h slot ⟨z, t, false⟩ fun l h' => K (.ptr (some (l, 0))) h' L
  | .box t x => Kopt (evalF e x) fun v => Kl1 v.cells fun z => VAlloc h slot ⟨z, t, false⟩ fun l h' => K (.ptr (some (l, 0))) h' L
  | .build t ps => Kopt (partsF e ps.toList) fun ps => Kopt (buildF C.P t ps) fun v => K v h L
  | .buildSlice t n ps => Kopt (partsF e ps.toList) fun ps => Kopt (buildCells C.P t n ps) fun c => match c with | (et, cs) => Kl1 cs fun z => VAlloc h slot ⟨z, et, false⟩ fun l h' => K (.own l 0 n (some n)) h' L
  | .load t a => Kopt (evalF e a) fun p => wload C.P t p h fun v => K v h L
  | .store t a x => Kopt (evalF e a) fun p => Kopt (evalF e x) fun v => match p with
    | .ptr (some (l, o)) => Kl1 v.cells fun cs => match sizeOf C.P t with
      | some n => Kcond (Nat.beq n cs.length) (VWrite h base l o cs fun h' => K .undef h' L) False
      | none => False
    | _ => False
  | .nilCheck x => match evalF e x with
    | some (.ptr (some p)) => K (.ptr (some p)) h L
    | some (.cref cs) => K (.cref cs) h L
    | some (.func f a c) => K (.func f a c) h L
    | _ => False
  | .binOp o t x y _ => Kopt (evalF e x) fun a => Kopt (evalF e y) fun b => match arithOf o a b with
    | some z => Kwrap z fun v => K v h L
    | none => match catOf o a b with
      | some (s, s') => VIf (s.length + s'.length ≤ 9223372036854775807) (K (.str (s ++ s')) h L)
      | none => Kopt (binA C.P o t a b) fun v => K v h L
  | .unOp o _ x => Kopt (evalF e x) fun a => Kopt (unA o a) fun v => K v h L
  | .convert s d x => Kopt (evalF e x) fun a => wconv C.P h slot s d a fun v h' => K v h' L
  | .makeFunc (.func f) first captured => Kopt (evalsF e first.toList) fun a => Kopt (evalsF e captured.toList) fun c => K (.func f a c) h L
  | .makeSlice t l c => Kopt (evalF e l) fun n => Kopt (evalF e c) fun m => Kopt (elemT C.P t) fun et => Kopt (sizeOf C.P et) fun s => Kopt (bytesOf C.P et) fun by_ => Ksz by_ fun by_ => Kopt (zeroOf C.P et) fun z => Kcond (Nat.beq z.length s)
      (match n, m with
        | .int .i64 n, .int .i64 c => VIf (0 ≤ n ∧ n ≤ c ∧ c ≤ 9223372036854775807 ∧ (by_ : Int) * c ≤ 140737488355328) (Kl1 z fun z => VAlloc h slot ⟨zeros z c.toNat, et, false⟩ fun l h' => K (.own l 0 n.toNat (some c.toNat)) h' L)
        | _, _ => False) False
  | .slice t x lo hi mx => Kopt (evalF e x) fun a => Kopt (evalOF e lo) fun l => Kopt (evalOF e hi) fun k => Kopt (evalOF e mx) fun m => wslice C.P t a l k m fun v => K v h L
  | .fieldAddr s x f => Kopt (evalF e x) fun a => match a with
    | .ptr (some (l, o)) => Kopt (fieldOf C.P s f) fun fd => Kopt (sizeOf C.P fd.type) fun sz => Kcond (Nat.beq sz 0) False (Ksz fd.offset fun off => K (.ptr (some (l, o + off))) h L)
    | a => Kopt (fieldAddrA C.P s a f) fun v => K v h L
  | .field s x f => Kopt (evalF e x) fun a => Kopt (fieldA C.P s a f) fun v => K v h L
  | .indexAddr t x i => Kopt (evalF e x) fun a => Kopt (evalF e i) fun n => windexAddr C.P t a n fun v => K v h L
  | .index t x i => Kopt (evalF e x) fun a => Kopt (evalF e i) fun n => windex C.P t a n fun v => K v h L
  | .extract x i => match evalF e x with
    | some (.tup vs) => Kopt (vs[i]?) fun v => K v h L
    | _ => False
  | .call c => match c.callee with
    | .builtin b => Kopt (evalsF e c.args.toList) fun args => match b with
      | .len | .max | .min => Kopt (builtinA C.P h base slot b c.argTypes.toList args) fun r => match r with | (v, h') => K v h' L
      | b => Kl2 args fun args => VB C.P h base slot b c.argTypes.toList args fun v h' => K v h' L
    | .value f => match evalF e f with
      | some (.func g first captured) => Kopt (evalsF e c.args.toList) fun args => Kl2 (first ++ args ++ captured) fun args => VCall C base g args h L K
      | some (.yld y) => Kopt (evalsF e c.args.toList) fun args => Kl2 args fun args => VYld C base y args h L K
      | _ => False
    | _ => False
  | _ => False

noncomputable def Kput (n : Nat) (e : Env) (dst : Option Tmp) (v : AVal) (K : Env → Prop) : Prop :=
  match dst with
  | none => K e
  | some d => Kcond (Nat.blt d n) (Kv3 v fun v => K (put e d v)) False

/-- a guarded operation: A where it is carried out, B where not; behind the question its answer is known -/
def Kwant (b want : Bool) (A B : Prop) : Prop := match want with
  | true => Kcond b A B
  | false => Kcond b B A

noncomputable def wopsS (C : Cfg) (base n : Nat) (all : List Oper) (o : Oper) (ih : (Env → Heap → LS → Prop) → Env → Heap → LS → Prop) (K : Env → Heap → LS → Prop) (e : Env) (h : Heap) (L : LS) : Prop :=
  match o.guard with
  | none => wop C base none e h L o.op fun v h' L' => Kput n e o.dst v fun e' => ih K e' h' L'
  | some (j, want) => Kopt ((all[j]?).bind (·.dst)) fun d => match e d with
    | .bool b => Kwant b want (wop C base none (put e d (.bool want)) h L o.op fun v h' L' => Kput n (put e d (.bool want)) o.dst v fun e' => ih K e' h' L')
        (Kput n (put e d (.bool !want)) o.dst .undef fun e' => ih K e' h L)
    | _ => Kput n e o.dst .undef fun e' => ih K e' h L
noncomputable def wops (C : Cfg) (base n : Nat) (all : List Oper) (l : List Oper) : (Env → Heap → LS → Prop) → Env → Heap → LS → Prop :=
  List.rec (motive := fun _ => (Env → Heap → LS → Prop) → Env → Heap → LS → Prop) (fun K e h L => K e h L) (fun o _ ih => wopsS C base n all o ih) l

/-! ### a region whose order is open -/
def rdLocsF (e : Env) : Op → List Nat
  | .load _ a => match evalF e a with | some v => locOf v | none => []
  | .convert _ _ x => match evalF e x with | some v => locOf v | none => []
  | _ => []
def touchF (C : Cfg) (e : Env) (slot : Nat) : Op → Option (List Nat)
  | .call c => match c.callee with
    | .value f => match evalF e f with
      | some (.func g _ _) => match C.ext g with
        | some _ => some []
        | none => match C.kind g with
          | .full => none
          | _ => some []
      | _ => none
    | .builtin .append => match c.args.toList with
      | s :: _ => match evalF e s with
        | some v => some (slot :: locOf v)
        | none => none
      | [] => none
    | _ => none
  | _ => none

noncomputable def vT (T : Option (List Nat)) (ls : List Nat) (len : Nat) (K : Prop) : Prop := match T with
  | some T => List.rec (motive := fun _ => Prop) K (fun l _ ih => VIf (l < len) (List.rec (motive := fun _ => Prop) ih (fun t _ ih' => VIf (l ≠ t) ih') T)) ls
  | none => False
/-- what a read asks, and what an effect asks, of those that it does not wait for -/
noncomputable def wReads (bs : List Nat) (c N i : Nat) (ls : List Nat) (es : List (Nat × Option (List Nat) × Nat)) (K : Prop) : Prop :=
  List.rec (motive := fun _ => Prop) (List.rec (motive := fun _ => Prop) K (fun l _ ih => VIf (c ≤ l → l < c + N → waitsB bs i (l - c) = true) ih) ls)
    (fun e _ ih => match e with | (j, T, len) => bif waitsB bs i j then ih else vT T ls len ih) es
noncomputable def wEffsR (bs : List Nat) (i : Nat) (T : Option (List Nat)) (len : Nat) (K : Prop) (rs : List (Nat × List Nat)) : Prop :=
  List.rec (motive := fun _ => Prop) K (fun r _ ih => match r with | (j, ls) => bif waitsB bs i j then ih else vT T ls len ih) rs
noncomputable def wEffs (bs : List Nat) (i : Nat) (T : Option (List Nat)) (rs : List (Nat × List Nat)) (es : List (Nat × Option (List Nat) × Nat)) (len : Nat) (K : Prop) : Prop :=
  List.rec (motive := fun _ => Prop) (wEffsR bs i T len K rs)
    (fun e _ ih => match e with | (j, _, _) => bif waitsB bs i j then ih else False) es
noncomputable def filt (p : Nat → Bool) (l : List (Nat × Blk)) : List (Nat × Blk) := List.rec (motive := fun _ => List (Nat × Blk)) [] (fun x _ ih => match x with | (j, b) => bif p j then (j, b) :: ih else ih) l
/-- rows in flight come to lie -/
noncomputable def KmergeIf (c : Nat) (p : Nat → Bool) (fl : List (Nat × Blk)) (K : Heap → Prop) : Heap → Prop :=
  List.rec (motive := fun _ => Heap → Prop) K (fun jb _ ih G => match jb with | (j, b) => bif p j then ih (G.set (c + j) (some b)) else ih G) fl

/-- a number, as a numeral -/
noncomputable def KnumL (n : Nat) (K : Nat → Prop) (A : Prop) (l : List Nat) : Prop := List.rec (motive := fun _ => Prop) A (fun m _ ih => bif Nat.beq n m then K m else ih) l
noncomputable def Knum (n : Nat) (K : Nat → Prop) : Prop := KnumL n K (KnumL n K (KnumL n K (K n) [64, 65, 66, 67, 68, 69, 70, 71, 72, 73, 74, 75, 76, 77, 78, 79, 80, 81, 82, 83, 84, 85, 86, 87, 88, 89, 90, 91, 92, 93, 94, 95]) [32, 33, 34, 35, 36, 37, 38, 39, 40, 41, 42, 43, 44, 45, 46, 47, 48, 49, 50, 51, 52, 53, 54, 55, 56, 57, 58, 59, 60, 61, 62, 63]) [0, 1, 2, 3, 4, 5, 6, 7, 8, 9, 10, 11, 12, 13, 14, 15, 16, 17, 18, 19, 20, 21, 22, 23, 24, 25, 26, 27, 28, 29, 30, 31]
abbrev DK := Env → Heap → List (Nat × Blk) → List (Nat × List Nat) → List (Nat × Option (List Nat) × Nat) → Prop
noncomputable def wdstep (C : Cfg) (base n c N : Nat) (all : List Oper) (bs : List Nat) (i : Nat) (o : Oper) (K : DK) (e : Env) (G : Heap) (fl : List (Nat × Blk)) (rs : List (Nat × List Nat)) (es : List (Nat × Option (List Nat) × Nat)) : Prop :=
  match clsOf C.P o.op with
  | .pure => wop C base none e G [] o.op fun v _ _ => Kput n e o.dst v fun e' => K e' G fl rs es
  | .rd => Knum i fun i => wReads bs c N i (rdLocsF e o.op) es
      (KmergeIf c (fun _ => true) fl (fun G1 => wop C base none e G1 [] o.op fun v _ _ => Kput n e o.dst v fun e' => K e' G fl ((i, rdLocsF e o.op) :: rs) es) G)
  | .al => Knum i fun i => wop C base (some (c + i)) e G [] o.op fun v G' _ => VRow G' (c + i) fun b => Kput n e o.dst v fun e' => K e' G ((i, b) :: fl) rs es
  | .eff => Knum i fun i => wEffs bs i (touchF C e (c + i) o.op) rs es G.length
      (KmergeIf c (waitsB bs i) fl (fun G1 => wop C base (some (c + i)) e G1 [] o.op fun v G' _ => Kput n e o.dst v fun e' =>
        K e' G' (filt (fun j => !waitsB bs i j) fl) rs ((i, touchF C e (c + i) o.op, G1.length) :: es)) G)

noncomputable def wdstepsS (C : Cfg) (base n c N : Nat) (all : List Oper) (bs : List Nat) (o : Oper) (ih : Nat → DK → DK) (i : Nat) (K : DK) (e : Env) (G : Heap) (fl : List (Nat × Blk)) (rs : List (Nat × List Nat)) (es : List (Nat × Option (List Nat) × Nat)) : Prop :=
  match o.guard with
  | none => wdstep C base n c N all bs i o (fun e G fl rs es => ih (i + 1) K e G fl rs es) e G fl rs es
  | some (j, want) => Kopt ((all[j]?).bind (·.dst)) fun d => match e d with
    | .bool b => Kwant b want (wdstep C base n c N all bs i o (fun e G fl rs es => ih (i + 1) K e G fl rs es) (put e d (.bool want)) G fl rs es)
        (Kput n (put e d (.bool !want)) o.dst .undef fun e' => ih (i + 1) K e' G fl rs es)
    | _ => Kput n e o.dst .undef fun e' => ih (i + 1) K e' G fl rs es
noncomputable def wdsteps (C : Cfg) (base n c N : Nat) (all : List Oper) (bs : List Nat) (l : List Oper) : Nat → DK → DK :=
  List.rec (motive := fun _ => Nat → DK → DK) (fun _ K => K) (fun o _ ih => wdstepsS C base n c N all bs o ih) l

noncomputable def wdraw (C : Cfg) (base n : Nat) (all : List Oper) (K : Env → Heap → Prop) (e : Env) (h : Heap) : Prop :=
  VIf (orderly all (befL all []) = true) (Knum all.length fun N => wdsteps C base n h.length N all (befL all []) all 0 (fun e G fl _ _ => KmergeIf h.length (fun _ => true) fl (fun G => K e G) G) e (h ++ List.replicate N none) [] [] [])

/-! ### bodies -/
abbrev Post := Ex → Env → Heap → LS → Prop
inductive VLoop (C : Cfg) (base n : Nat) (inR : Bool) (b : Code) (Q : Post) (e : Env) (h : Heap) (L : LS) : Prop
  | mk : (∀ env, (∀ i, getX env i = e i) → ∃ x env' h' L' e', (∀ i, getX env' i = e' i) ∧ Q x e' h' L' ∧
    ∃ N0, ∀ N M K, N0 ≤ N → N0 ≤ M → N0 ≤ K → loopL (execL C (doCallL C (runL C M)) N base n inR b) K (env, h, L) = some (x, env', h', L')) → VLoop C base n inR b Q e h L
inductive VRange (C : Cfg) (base n : Nat) (f : FuncId) (first captured : List AVal) (ps : List Nat) (assign body : Code) (Q : Post) (e : Env) (h : Heap) (L : LS) : Prop
  | mk : (∀ env, (∀ i, getX env i = e i) → VCall C base f (first ++ [.yld h.length] ++ captured) (h ++ [none]) (⟨h.length, n, env, ps, assign, body, none⟩ :: L) fun _ h' L' => match L' with
    | r :: L' => match r.jump with
      | none => Q .normal e h' L'
      | some .normal => False
      | some x => Q x e h' L'
    | [] => False) → VRange C base n f first captured ps assign body Q e h L

abbrev WT := Post → Env → Heap → LS → Prop
noncomputable def wRegion (C : Cfg) (base n : Nat) (ops : Array Oper) (d : Bool) : WT := fun Q e h L => match d with
  | true => wdraw C base n ops.toList (fun e' h' => Q .normal e' h' L) e h
  | false => wops C base n ops.toList ops.toList (fun e' h' L' => Q .normal e' h' L') e h L
def seqQ (wb : WT) (Q : Post) : Post := fun x e h L => match x with
  | .normal => wb Q e h L
  | .exit i => Q (.exit i) e h L
  | .ret => Q .ret e h L
def wSeq (wa wb : WT) : WT := fun Q e h L => wa (seqQ wb Q) e h L
def wCond (c : Operand) (wa wb : WT) : WT := fun Q e h L => match evalF e c with
  | some (.bool p) => Kcond p (wa Q e h L) (wb Q e h L)
  | _ => False
def blockQ (id : Nat) (Q : Post) : Post := fun x e h L => match x with
  | .normal => Q .normal e h L
  | .exit i => bif Nat.beq i id then Q .normal e h L else Q (.exit i) e h L
  | .ret => Q .ret e h L
def wBlock (id : Nat) (wb : WT) : WT := fun Q e h L => wb (blockQ id Q) e h L
def wLoop (C : Cfg) (base n : Nat) (inR : Bool) (b : Code) : WT := fun Q e h L => VLoop C base n inR b Q e h L
def wRange (C : Cfg) (base n : Nat) (inR : Bool) (g : Operand) (ps : Array Tmp) (assign body : Code) : WT := fun Q e h L => match inR with
  | true => False
  | false => match evalF e g with
    | some (.func f first captured) => VRange C base n f first captured ps.toList assign body Q e h L
    | _ => False
def wExit (x : Ex) : WT := fun Q e h L => Q x e h L
def wNo : WT := fun _ _ _ _ => False

noncomputable def W (C : Cfg) (base n : Nat) (inR : Bool) (c : Code) : WT :=
  Code.rec (motive := fun _ => WT) (wExit .normal) (fun _ ops d => wRegion C base n ops d) (fun _ _ wa wb => wSeq wa wb) (fun c _ _ wa wb => wCond c wa wb) (fun id _ wb => wBlock id wb) (fun b _ => wLoop C base n inR b)
    (fun g ps assign body _ _ => wRange C base n inR g ps assign body) (fun id => wExit (.exit id)) (fun _ _ => wNo) (fun _ => wNo) (fun _ => wNo) (wExit .ret) (fun _ => wNo) c

def resFs (P : Program) (e : Env) (h : Heap) (r : ResultVar) (ih : (List AVal → Prop) → Prop) (K : List AVal → Prop) : Prop := match r with
  | .tmp t => ih fun vs => K (e t :: vs)
  | .cell a t => wload P t (e a) h fun v => ih fun vs => K (v :: vs)
noncomputable def resF (P : Program) (e : Env) (h : Heap) (rs : List ResultVar) : (List AVal → Prop) → Prop :=
  List.rec (motive := fun _ => (List AVal → Prop) → Prop) (fun K => K []) (fun r _ ih => resFs P e h r ih) rs

noncomputable def finF (P : Program) (rs : List ResultVar) (K : AVal → Heap → LS → Prop) : Post := fun x e h L => match x with
  | .exit _ => False
  | _ => resF P e h rs fun vs => match vs with
    | [v] => Kv3 v fun v => K v h L
    | vs => Kv3 (.tup vs) fun v => K v h L

/-- a function's body, from its arguments -/
def argsE : Nat → List AVal → Env
  | _, [] => fun _ => .undef
  | i, v :: vs => put (argsE (i + 1) vs) i v
noncomputable def WF (C : Cfg) (base : Nat) (fn : Func) (args : List AVal) (h : Heap) (L : LS) (K : AVal → Heap → LS → Prop) : Prop :=
  match fn.body with
  | some c => Kcond (Nat.ble args.length fn.ntmps) (W C base fn.ntmps false c (finF C.P fn.results.toList K) (argsE 0 args) h L) False
  | none => False
end Go.Abs
