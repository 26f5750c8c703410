/- The logical semantics: a deterministic evaluator over the model's Code, with a logical heap and registers for local variables. Definitions alone. -/
import Derived.LoopN
import Derived.Orders
import Derived.Below
namespace Go.Lg
set_option linter.unusedVariables false

/-! ## lists by key -/
def look {α : Type} : List (Nat × α) → Nat → Option α
  | [], _ => none
  | (k, v) :: r, t => cond (Nat.beq k t) (some v) (look r t)

/-! ## what is known of types, functions -/
inductive Shape where
  | int (k : IntKind) | bool | str | struct (fs : List (Nat × Nat × Bool)) | slice (e : Nat) | ptr | func | other   -- a struct's fields: offset, size, is it an aggregate

structure TI where
  size : Nat
  bytes : Nat
  agg : Bool
  zero : List Value
  shape : Shape

structure Env where
  fn : Nat → Option Func
  ti : Nat → Option TI
  tup : Nat → Option Nat
  loc : Nat → Nat → Bool
  keep : Nat → Nat → List Nat × List (Nat × Nat)
  eqT : Nat → List Nat

/-! ## the logical heap -/
structure Blk where
  cells : List Value
  wr : Bool := true

structure LH where
  next : Nat
  mem : Nat → Option Blk

def LH.push (σ : LH) (b : Blk) : LH := ⟨σ.next + 1, fun k => if k = σ.next then some b else σ.mem k⟩
def LH.set (σ : LH) (k : Nat) (b : Option Blk) : LH := ⟨σ.next, fun j => if j = k then b else σ.mem j⟩
def LH.ptr (σ : LH) : Value := .pointer (some ⟨σ.next, 0, none⟩)

/-! ## values: a logical slice's cap is a code: 2 c + 1: c just; 2 c: c at least; its address's spot is how many cells an element has -/
def capE (c : Nat) : Nat := 2 * c + 1
def capL (c : Nat) : Nat := 2 * c

/-- a value of one cell -/
def one (v : Value) : Bool := match v with | .agg _ => false | .tuple _ => false | _ => true

def pFA (v : Value) (off : Nat) : Option Value :=
  match v with
  | .pointer (some a) => some (.pointer (some (a.add off)))
  | _ => none

def pIA (size : Nat) (x i : Value) : Option Value :=
  match x, i with
  | .slice (some a) n _, .int _ i => if 0 ≤ i ∧ i < n then some (.pointer (some ⟨a.block, a.off + i.toNat * size, none⟩)) else none
  | _, _ => none

def pIx (x i : Value) : Option Value :=
  match x, i with
  | .string s, .int _ i => if 0 ≤ i then (match s[i.toNat]? with | some b => some (.int .u8 b.toNat) | none => none) else none
  | _, _ => none

def pNil (v : Value) : Option Value :=
  match v with
  | .pointer (some a) => some (.pointer (some a))
  | .func (.func f) a b => some (.func (.func f) a b)
  | _ => none

def asI (v : Value) : Option Int := match v with | .int _ n => some n | _ => none

/-- bounds of a slice expression: low, high, max -/
def pBd (len cap : Nat) (lo hi mx : Option Value) : Option (Nat × Nat × Nat) :=
  (match mx with | some v => (asI v).bind (fun i => if 0 ≤ i ∧ i ≤ cap then some i.toNat else none) | none => some cap).bind fun m =>
  (match hi, mx with
   | some v, _ => (asI v).bind (fun i => if 0 ≤ i ∧ i ≤ m then some i.toNat else none)
   | none, none => some len
   | none, some _ => none).bind fun h =>
  (match lo with | some v => (asI v).bind (fun i => if 0 ≤ i ∧ i ≤ h then some i.toNat else none) | none => some 0).bind fun l =>
  some (l, h, m)

def pSl (size : Nat) (x : Value) (lo hi mx : Option Value) : Option Value :=
  match x with
  | .slice none 0 0 => (pBd 0 0 lo hi mx).bind fun r => some (.slice none 0 0)
  | .slice (some a) n c => (pBd n (c / 2) lo hi mx).bind fun r =>
      if a.spot = some size then some (.slice (some ⟨a.block, a.off + r.1 * size, a.spot⟩) (r.2.1 - r.1) (2 * (r.2.2 - r.1) + (if mx.isSome then 1 else c % 2))) else none
  | _ => none

def pSs (x : Value) (lo hi : Option Value) : Option Value :=
  match x with
  | .string s => (pBd s.size s.size lo hi none).bind fun r => some (.string (s.extract r.1 r.2.1))
  | _ => none

def pLen (x : Value) : Option Value :=
  match x with
  | .slice _ n _ => some (.int .i64 n)
  | _ => none

def pLs (x : Value) : Option Value :=
  match x with
  | .string s => some (.int .i64 s.size)
  | _ => none

def pCap (x : Value) : Option Value :=
  match x with
  | .slice none 0 0 => some (.int .i64 0)
  | .slice (some _) _ c => if c % 2 = 1 then some (.int .i64 (c / 2 : Nat)) else none
  | _ => none

def pUn (op : UnOp) (x : Value) : Option Value :=
  match op, x with
  | .not, .bool b => some (.bool !b)
  | .neg, .int k n => some (.int k (k.wrap (0 - n)))
  | _, _ => none

def pCmp (op : BinOp) (a b : Int) : Option Value :=
  match op with
  | .eql => some (.bool (a == b))
  | .neq => some (.bool (a != b))
  | .lss => some (.bool (a < b))
  | .leq => some (.bool (a ≤ b))
  | .gtr => some (.bool (a > b))
  | .geq => some (.bool (a ≥ b))
  | _ => none

def pInts (op : BinOp) (k : IntKind) (a b : Int) : Option Value :=
  match op with
  | .add => some (.int k (k.wrap (a + b)))
  | .sub => some (.int k (k.wrap (a - b)))
  | .mul => some (.int k (k.wrap (a * b)))
  | .quo => if b = 0 then none else some (.int k (k.wrap (a.tdiv b)))
  | .rem => if b = 0 then none else some (.int k (a.tmod b))
  | .and => some (.int k (k.wrap (BitVec.ofInt k.bits a &&& BitVec.ofInt k.bits b).toNat))
  | .or => some (.int k (k.wrap (BitVec.ofInt k.bits a ||| BitVec.ofInt k.bits b).toNat))
  | .xor => some (.int k (k.wrap (BitVec.ofInt k.bits a ^^^ BitVec.ofInt k.bits b).toNat))
  | op => pCmp op a b

def pShift (op : BinOp) (k : IntKind) (a b : Int) : Option Value :=
  if b < 0 then none else
  match op with
  | .shl => some (.int k (k.wrap (a * 2 ^ (min b.toNat k.bits))))
  | .shr => some (.int k (a.fdiv (2 ^ (min b.toNat k.bits))))
  | _ => none

def pStrs (op : BinOp) (a b : ByteArray) : Option Value :=
  match op with
  | .add => if ((a.size + b.size : Nat) : Int) > IntKind.i64.max then none else some (.string (a ++ b))
  | .eql => some (.bool (a.toList == b.toList))
  | .neq => some (.bool !(a.toList == b.toList))
  | .lss => some (.bool (Op.bytesLess a.toList b.toList))
  | .leq => some (.bool (Op.bytesLess a.toList b.toList || a.toList == b.toList))
  | .gtr => some (.bool !(Op.bytesLess a.toList b.toList || a.toList == b.toList))
  | .geq => some (.bool !(Op.bytesLess a.toList b.toList))
  | _ => none

/-- one cell of two structs that are compared: a bool, a whole number, a text -/
def eqCell (kd : Nat) (x y : Value) : Option Bool :=
  match kd, x, y with
  | 1, .int k a, .int k' b => if k = k' then some (a == b) else none
  | 0, .bool a, .bool b => some (a == b)
  | 2, .string a, .string b => some (a.toList == b.toList)
  | _, _, _ => none

def eqCells : List Nat → List Value → List Value → Option Bool
  | [], [], [] => some true
  | kd :: ks, x :: xs, y :: ys => (eqCell kd x y).bind fun b => if b then eqCells ks xs ys else some false
  | _, _, _ => none

/-- equality beside whole numbers and texts -/
def pEq (sh : Shape) (x y : Value) : Option Bool :=
  match sh, x, y with
  | .bool, .bool a, .bool b => some (a == b)
  | .slice _, .slice none 0 0, .slice b _ _ => some b.isNone
  | .slice _, .slice (some _) _ _, .slice none 0 0 => some false
  | .ptr, .pointer none, .pointer b => some b.isNone
  | .ptr, .pointer (some _), .pointer none => some false
  | _, _, _ => none

def pBin (sh : Shape) (op : BinOp) (x y : Value) : Option Value :=
  match x, y with
  | .int k a, .int k' b =>
    match op with
    | .shl | .shr => pShift op k a b
    | op => if k = k' then pInts op k a b else none
  | .string a, .string b => pStrs op a b
  | x, y =>
    match op with
    | .eql => (pEq sh x y).map .bool
    | .neq => (pEq sh x y).map fun b => .bool !b
    | _ => none

/-- structs of plain cells compared -/
def pEqS (ks : List Nat) (op : BinOp) (x y : Value) : Option Value :=
  match x, y, op with
  | .agg xs, .agg ys, .eql => if xs.size = ks.length ∧ ys.size = ks.length then (eqCells ks xs.toList ys.toList).map .bool else none
  | .agg xs, .agg ys, .neq => if xs.size = ks.length ∧ ys.size = ks.length then (eqCells ks xs.toList ys.toList).map fun b => .bool !b else none
  | _, _, _ => none

def pInt (k : IntKind) (x : Value) : Option Value := match x with | .int _ n => some (.int k (k.wrap n)) | _ => none
def pStr (x : Value) : Option Value := match x with | .string s => some (.string s) | _ => none

def pMin (x y : Value) : Option Value :=
  match x, y with
  | .int k a, .int k' b => if k = k' then some (.int k (if b < a then b else a)) else none
  | _, _ => none
def pMax (x y : Value) : Option Value :=
  match x, y with
  | .int k a, .int k' b => if k = k' then some (.int k (if a < b then b else a)) else none
  | _, _ => none

def pFld (off size : Nat) (agg : Bool) (x : Value) : Option Value :=
  match x with
  | .agg cs => if agg then (if off + size ≤ cs.size then some (.agg ((cs.toList.drop off).take size).toArray) else none) else cs[off]?
  | _ => none

/-! ## memory -/
def pLd (σ : LH) (size : Nat) (agg : Bool) (p : Value) : Option Value :=
  match p with
  | .pointer (some a) =>
    match σ.mem a.block with
    | some b => if agg then (if a.off + size ≤ b.cells.length then some (.agg ((b.cells.drop a.off).take size).toArray) else none) else b.cells[a.off]?
    | none => none
  | _ => none

/-- cells put into a row from a place on -/
def over (l : List Value) (off : Nat) (vs : List Value) : List Value := l.take off ++ vs ++ l.drop (off + vs.length)

def LH.write (σ : LH) (k off : Nat) (vs : List Value) : Option LH :=
  match σ.mem k with
  | some b => if b.wr = true ∧ off + vs.length ≤ b.cells.length then some (σ.set k (some { b with cells := over b.cells off vs })) else none
  | none => none

def pSt (σ : LH) (size : Nat) (p v : Value) : Option LH :=
  match p with
  | .pointer (some a) => if v.cells.size = size then σ.write a.block a.off v.cells.toList else none
  | _ => none

/-- the parts of a composite literal put over zeros -/
def fillL (place : Nat → Option (Nat × Nat)) : List Value → List (Nat × Value) → Option (List Value)
  | cells, [] => some cells
  | cells, (i, v) :: rest =>
    match place i with
    | none => none
    | some (off, size) => if v.cells.size = size ∧ off + size ≤ cells.length then fillL place (over cells off v.cells.toList) rest else none

def zeros (zero : List Value) : Nat → List Value
  | 0 => []
  | n + 1 => zero ++ zeros zero n

def pBuild (zero : List Value) (fs : List (Nat × Nat × Bool)) (parts : List (Nat × Value)) : Option Value :=
  (fillL (fun i => (fs[i]?).map fun x => (x.1, x.2.1)) zero parts).map fun l => .agg l.toArray

def pBS (σ : LH) (zero : List Value) (size len : Nat) (parts : List (Nat × Value)) : Option (Value × LH) :=
  if len * size ≤ 16777216 ∧ zero.length = size then
    (fillL (fun i => some (i * size, size)) (zeros zero len) parts).map fun l =>
      (.slice (some ⟨σ.next, 0, some size⟩) len (capE len), σ.push { cells := l })
  else none

def pMS (σ : LH) (zero : List Value) (size bytes : Nat) (l c : Value) : Option (Value × LH) :=
  match l, c with
  | .int .i64 l, .int .i64 c => if 0 ≤ l ∧ l ≤ c ∧ c * bytes ≤ 140737488355328 ∧ c ≤ 9223372036854775807 ∧ zero.length = size then
      some (.slice (some ⟨σ.next, 0, some size⟩) l.toNat (capE c.toNat), σ.push { cells := zeros zero c.toNat }) else none
  | _, _ => none

/-- the first cells of a slice's row -/
def cellsOf (σ : LH) (size n : Nat) (x : Value) : Option (List Value) :=
  match x with
  | .slice none 0 0 => if n = 0 then some [] else none
  | .slice (some a) _ _ =>
    if n = 0 then some [] else
    match σ.mem a.block with
    | some b => if a.off + n * size ≤ b.cells.length then some ((b.cells.drop a.off).take (n * size)) else none
    | none => none
  | .string s => if n ≤ s.size ∧ size = 1 then some ((s.data.toList.take n).map fun b => .int .u8 b.toNat) else none
  | _ => none

def lenV (x : Value) : Option Nat :=
  match x with
  | .slice _ n _ => some n
  | .string s => some s.size
  | _ => none

def pAp (σ : LH) (size bytes : Nat) (s x : Value) : Option (Value × LH) :=
  (lenV x).bind fun m => (cellsOf σ size m x).bind fun news =>
  match s with
  | .slice none 0 0 =>
    if m = 0 then some (.slice none 0 0, σ) else
    if m * bytes ≤ 140737488355328 ∧ 0 < bytes ∧ m ≤ 9223372036854775807 then some (.slice (some ⟨σ.next, 0, some size⟩) m (capL m), σ.push { cells := news }) else none
  | .slice (some a) n c =>
    if n + m ≤ c / 2 then (if m = 0 then some (.slice (some a) n c, σ) else (σ.write a.block (a.off + n * size) news).map fun σ => (.slice (some a) (n + m) c, σ))
    else
      (cellsOf σ size n (.slice (some a) n c)).bind fun olds =>
      if (n + m) * bytes ≤ 140737488355328 ∧ 0 < bytes ∧ n + m ≤ 9223372036854775807 then
        (if c % 2 = 1 then some (.slice (some ⟨σ.next, 0, some size⟩) (n + m) (capL (n + m)), σ.push { cells := olds ++ news })
         else match σ.mem a.block with
          | some b => if b.wr = true ∧ a.spot = some size then some (.slice (some ⟨σ.next, 0, some size⟩) (n + m) (capL (n + m)), (σ.set a.block none).push { cells := olds ++ news }) else none
          | none => none)
      else none
  | _ => none

def pCp (σ : LH) (size : Nat) (d x : Value) : Option (Value × LH) :=
  (lenV x).bind fun m =>
  match d with
  | .slice none 0 0 => (cellsOf σ size 0 x).bind fun _ => some (.int .i64 0, σ)
  | .slice (some a) n _ => (cellsOf σ size (min m n) x).bind fun cs => if min m n = 0 then some (.int .i64 0, σ) else (σ.write a.block a.off cs).map fun σ => (.int .i64 (min m n : Nat), σ)
  | _ => none

def pClr (σ : LH) (zero : List Value) (x : Value) : Option LH :=
  match x with
  | .slice none 0 0 => some σ
  | .slice (some a) n _ => if n = 0 then some σ else σ.write a.block a.off (zeros zero n)
  | _ => none

def bytesOf : List Value → Option (List UInt8)
  | [] => some []
  | .int .u8 n :: r => (bytesOf r).map (UInt8.ofNat n.toNat :: ·)
  | _ :: _ => none

def pB2S (σ : LH) (x : Value) : Option Value :=
  match x with
  | .slice none 0 0 => some (.string .empty)
  | .slice (some a) n c => (cellsOf σ 1 n (.slice (some a) n c)).bind fun cs => (bytesOf cs).map fun l => .string ⟨l.toArray⟩
  | _ => none

def pS2B (σ : LH) (x : Value) : Option (Value × LH) :=
  match x with
  | .string s => some (.slice (some ⟨σ.next, 0, some 1⟩) s.size (capL s.size), σ.push { cells := s.data.toList.map fun b => .int .u8 b.toNat })
  | _ => none

/-- a quick look at whether two values are one (false: perhaps) -/
def beqA : Option Addr → Option Addr → Bool
  | none, none => true
  | some ⟨b, o, none⟩, some ⟨b', o', none⟩ => Nat.beq b b' && Nat.beq o o'
  | some ⟨b, o, some s⟩, some ⟨b', o', some s'⟩ => Nat.beq b b' && Nat.beq o o' && Nat.beq s s'
  | _, _ => false
def beqB : List UInt8 → List UInt8 → Bool
  | [], [] => true
  | x :: r, y :: l => Nat.beq x.toNat y.toNat && beqB r l
  | _, _ => false
def beq1 : Value → Value → Bool
  | .bool true, .bool true => true
  | .bool false, .bool false => true
  | .int .i64 n, .int .i64 m => decide (n = m)
  | .int .u64 n, .int .u64 m => decide (n = m)
  | .int .u8 n, .int .u8 m => decide (n = m)
  | .string s, .string t => beqB s.data.toList t.data.toList
  | .pointer a, .pointer b => beqA a b
  | .slice a n c, .slice b m d => beqA a b && Nat.beq n m && Nat.beq c d
  | .nilFunc, .nilFunc => true
  | _, _ => false
def beqL : List Value → List Value → Bool
  | [], [] => true
  | x :: r, y :: l => beq1 x y && beqL r l
  | _, _ => false
def beqV (x y : Value) : Bool :=
  match x, y with
  | .agg a, .agg b => beqL a.toList b.toList
  | x, y => beq1 x y
def beqO : Option Value → Value → Bool
  | some x, y => beqV x y
  | none, _ => false

/-! ## frames -/
inductive FV where
  | val (v : Value)
  | reg (t off : Nat)
  | tup (l : List Value)
  | und       -- what is put where an operation was skipped

structure Fr where
  n : Nat
  tmps : List (Nat × Option FV)
  regs : List (Nat × List Value)

/-- a constant of the code that leads nowhere -/
def constOk : Value → Bool
  | .bool _ | .int _ _ | .string _ | .nilFunc | .nilIface | .pointer none | .slice none 0 0 => true
  | _ => false

section
variable {α : Type}

def Fr.ev (fr : Fr) (x : Operand) (k : FV → Option α) : Option α :=
  match x with
  | .tmp t => match look fr.tmps t with
    | some (some v) => k v
    | _ => none
  | .const v => cond (constOk v) (k (.val v)) none
  | .func f => k (.val (.func (.func f) #[] #[]))
  | .global _ => none

def Fr.evV (fr : Fr) (x : Operand) (k : Value → Option α) : Option α :=
  fr.ev x fun
    | .val v => k v
    | _ => none

def Fr.evVs (fr : Fr) : List Operand → (List Value → Option α) → Option α
  | [], k => k []
  | x :: r, k => fr.evV x fun v => fr.evVs r fun l => k (v :: l)

def Fr.evO (fr : Fr) (x : Option Operand) (k : Option Value → Option α) : Option α :=
  match x with
  | none => k none
  | some x => fr.evV x fun v => k (some v)

def Fr.evPs (fr : Fr) : List (Nat × Operand) → (List (Nat × Value) → Option α) → Option α
  | [], k => k []
  | (i, x) :: r, k => fr.evV x fun v => fr.evPs r fun l => k ((i, v) :: l)

def asB (v : Value) (k : Bool → Option α) : Option α := match v with | .bool b => k b | _ => none
def asF (v : Value) (k : Nat → Array Value → Array Value → Option α) : Option α := match v with | .func (.func f) a b => k f a b | _ => none
/-- a list of just n values -/
def unN : Nat → List Value → (List Value → Option α) → Option α
  | 0 => fun l k => match l with
    | [] => k []
    | _ :: _ => none
  | n + 1 => fun l k => match l with
    | [] => none
    | v :: r => unN n r fun l => k (v :: l)
/-- a value of one cell -/
def sc1 (v : Value) (k : Option α) : Option α := match v with | .agg _ => none | .tuple _ => none | _ => k
/-- the cells of a value of a type of so many cells -/
def unC (agg : Bool) (n : Nat) (v : Value) (k : List Value → Option α) : Option α :=
  cond agg (match v with | .agg cs => unN n cs.toList k | _ => none) (sc1 v (k [v]))
noncomputable def chk (x : Option Value) (v : Value) (k : Option α) : Option α := cond (beqO x v) k (open Classical in if x = some v then k else none)

def Fr.put (fr : Fr) (regs : List (Nat × List Value)) (d : Option Nat) (x : Option FV) : Fr :=
  match d with
  | none => ⟨fr.n, fr.tmps, regs⟩
  | some t => ⟨fr.n, (t, x) :: fr.tmps, regs⟩

def rdReg (cs : List Value) (off size : Nat) (agg : Bool) (k : Value → Option α) : Option α :=
  cond agg (cond (Nat.ble (off + size) cs.length) (k (.agg ((cs.drop off).take size).toArray)) none) (match cs.drop off with | v :: _ => k v | [] => none)

/-! ## operations -/
def isNone' {β : Type} : Option β → Bool | none => true | some _ => false

def opC (E : Env) (call : Nat → List Value → LH → Option (List Value × LH)) (f : Nat) (o : Oper) (fr : Fr) (σ : LH)
    (k : Option FV → List (Nat × List Value) → LH → Option α) : Option α :=
  match o.op with
  | .move x => fr.ev x fun v => k (some v) fr.regs σ
  | .assign x => fr.ev x fun v => k (some v) fr.regs σ
  | .pick c a b => fr.evV c fun v => asB v fun t => cond t (fr.ev a fun v => k (some v) fr.regs σ) (fr.ev b fun v => k (some v) fr.regs σ)
  | .alloc T => match E.ti T, o.dst with
    | some ti, some d => cond (E.loc f d)
        (cond (isNone' (look fr.regs d)) (k (some (.reg d 0)) ((d, ti.zero) :: fr.regs) σ) none)
        (k (some (.val σ.ptr)) fr.regs (σ.push { cells := ti.zero }))
    | _, _ => none
  | .box T x => match E.ti T, o.dst with
    | some ti, some d => fr.evV x fun v => unC ti.agg ti.size v fun cs => cond (E.loc f d)
        (cond (isNone' (look fr.regs d)) (k (some (.reg d 0)) ((d, cs) :: fr.regs) σ) none)
        (k (some (.val σ.ptr)) fr.regs (σ.push { cells := cs }))
    | _, _ => none
  | .load T x => match E.ti T with
    | some ti => fr.ev x fun
      | .reg t off => (match look fr.regs t with
        | some cs => rdReg cs off ti.size ti.agg fun v => k (some (.val v)) fr.regs σ
        | none => none)
      | .val p => (pLd σ ti.size ti.agg p).bind fun v => k (some (.val v)) fr.regs σ
      | _ => none
    | none => none
  | .store T x y => match E.ti T with
    | some ti => fr.ev x fun
      | .reg t off => (match look fr.regs t with
        | some cs => fr.evV y fun v => unC ti.agg ti.size v fun vs =>
            cond (Nat.ble (off + ti.size) cs.length) (k none ((t, over cs off vs) :: fr.regs) σ) none
        | none => none)
      | .val p => fr.evV y fun v => (pSt σ ti.size p v).bind fun σ => k none fr.regs σ
      | _ => none
    | none => none
  | .fieldAddr T x i => match E.ti T with
    | some ⟨_, _, _, _, .struct fs⟩ => (match fs[i]? with
      | some (off, size, _) => cond (Nat.beq size 0) none (fr.ev x fun
        | .reg t o => k (some (.reg t (o + off))) fr.regs σ
        | .val p => (pFA p off).bind fun v => k (some (.val v)) fr.regs σ
        | _ => none)
      | none => none)
    | _ => none
  | .field T x i => match E.ti T with
    | some ⟨_, _, _, _, .struct fs⟩ => (match fs[i]? with
      | some (off, size, agg) => fr.evV x fun v => (pFld off size agg v).bind fun v => k (some (.val v)) fr.regs σ
      | none => none)
    | _ => none
  | .indexAddr T x i => match E.ti T with
    | some ⟨_, _, _, _, .slice e⟩ => (match E.ti e with
      | some te => fr.evV x fun x => fr.evV i fun i => (pIA te.size x i).bind fun v => k (some (.val v)) fr.regs σ
      | none => none)
    | _ => none
  | .index T x i => match E.ti T with
    | some ⟨_, _, _, _, .str⟩ => fr.evV x fun x => fr.evV i fun i => (pIx x i).bind fun v => k (some (.val v)) fr.regs σ
    | _ => none
  | .nilCheck x => fr.ev x fun
    | .reg t o => k (some (.reg t o)) fr.regs σ
    | .val v => (pNil v).bind fun v => k (some (.val v)) fr.regs σ
    | _ => none
  | .binOp op T x y _ => match E.ti T with
    | some ti => fr.evV x fun x => fr.evV y fun y => (match ti.shape with
      | .struct _ => (match E.eqT T with
        | [] => none
        | q :: ks => (pEqS (q :: ks) op x y).bind fun v => k (some (.val v)) fr.regs σ)
      | sh => (pBin sh op x y).bind fun v => k (some (.val v)) fr.regs σ)
    | none => none
  | .unOp op _ x => fr.evV x fun x => (pUn op x).bind fun v => k (some (.val v)) fr.regs σ
  | .convert S T x => match E.ti S, E.ti T with
    | some s, some t => (match s.shape, t.shape with
      | .int _, .int q => fr.evV x fun x => (pInt q x).bind fun v => k (some (.val v)) fr.regs σ
      | .str, .str => fr.evV x fun x => (pStr x).bind fun v => k (some (.val v)) fr.regs σ
      | .slice e, .str => (match E.ti e with
        | some ⟨_, _, _, _, .int .u8⟩ => fr.evV x fun x => (pB2S σ x).bind fun v => k (some (.val v)) fr.regs σ
        | _ => none)
      | .str, .slice e => (match E.ti e with
        | some ⟨_, _, _, _, .int .u8⟩ => fr.evV x fun x => (pS2B σ x).bind fun r => k (some (.val r.1)) fr.regs r.2
        | _ => none)
      | _, _ => none)
    | _, _ => none
  | .makeFunc (.func g) first captured => fr.evVs first.toList fun a => fr.evVs captured.toList fun b => k (some (.val (.func (.func g) a.toArray b.toArray))) fr.regs σ
  | .makeSlice T l c => match E.ti T with
    | some ⟨_, _, _, _, .slice e⟩ => (match E.ti e with
      | some te => fr.evV l fun l => fr.evV c fun c => (pMS σ te.zero te.size te.bytes l c).bind fun r => k (some (.val r.1)) fr.regs r.2
      | none => none)
    | _ => none
  | .slice T x lo hi mx => match E.ti T with
    | some ⟨_, _, _, _, .slice e⟩ => (match E.ti e with
      | some te => fr.evV x fun x => fr.evO lo fun lo => fr.evO hi fun hi => fr.evO mx fun mx => (pSl te.size x lo hi mx).bind fun v => k (some (.val v)) fr.regs σ
      | none => none)
    | some ⟨_, _, _, _, .str⟩ => (match mx with
      | none => fr.evV x fun x => fr.evO lo fun lo => fr.evO hi fun hi => (pSs x lo hi).bind fun v => k (some (.val v)) fr.regs σ
      | some _ => none)
    | _ => none
  | .build T ps => match E.ti T with
    | some ⟨_, _, _, z, .struct fs⟩ => fr.evPs ps.toList fun l => (pBuild z fs l).bind fun v => k (some (.val v)) fr.regs σ
    | _ => none
  | .buildSlice T n ps => match E.ti T with
    | some ⟨_, _, _, _, .slice e⟩ => (match E.ti e with
      | some te => fr.evPs ps.toList fun l => (pBS σ te.zero te.size n l).bind fun r => k (some (.val r.1)) fr.regs r.2
      | none => none)
    | _ => none
  | .extract x i => fr.ev x fun
    | .tup l => (match l[i]? with
      | some v => k (some (.val v)) fr.regs σ
      | none => none)
    | _ => none
  | .call { callee := .value g, args, argTypes := _ } => fr.evV g fun g => asF g fun g a b => fr.evVs args.toList fun l =>
      (call g (a.toList ++ l ++ b.toList) σ).bind fun r => (match E.tup o.type with
        | none => unN 1 r.1 fun l => (match l with | [v] => k (some (.val v)) fr.regs r.2 | _ => none)
        | some n => cond (Nat.beq n 1) none (unN n r.1 fun l => k (some (.tup l)) fr.regs r.2))
  | .call { callee := .builtin .len, args, argTypes } => (match args.toList, argTypes.toList with
    | [x], [T] => (match E.ti T with
      | some ⟨_, _, _, _, .slice _⟩ => fr.evV x fun x => (pLen x).bind fun v => k (some (.val v)) fr.regs σ
      | some ⟨_, _, _, _, .str⟩ => fr.evV x fun x => (pLs x).bind fun v => k (some (.val v)) fr.regs σ
      | _ => none)
    | _, _ => none)
  | .call { callee := .builtin .cap, args, argTypes } => (match args.toList, argTypes.toList with
    | [x], [T] => (match E.ti T with
      | some ⟨_, _, _, _, .slice _⟩ => fr.evV x fun x => (pCap x).bind fun v => k (some (.val v)) fr.regs σ
      | _ => none)
    | _, _ => none)
  | .call { callee := .builtin .append, args, argTypes } => (match args.toList, argTypes.toList with
    | [x, y], [T, U] => (match E.ti T, E.ti U with
      | some ⟨_, _, _, _, .slice e⟩, some u => (match E.ti e, u.shape with
        | some te, .slice _ => fr.evV x fun x => fr.evV y fun y => (pAp σ te.size te.bytes x y).bind fun r => k (some (.val r.1)) fr.regs r.2
        | some te, .str => fr.evV x fun x => fr.evV y fun y => (pAp σ te.size te.bytes x y).bind fun r => k (some (.val r.1)) fr.regs r.2
        | _, _ => none)
      | _, _ => none)
    | _, _ => none)
  | .call { callee := .builtin .copy, args, argTypes } => (match args.toList, argTypes.toList with
    | [x, y], T :: _ => (match E.ti T with
      | some ⟨_, _, _, _, .slice e⟩ => (match E.ti e with
        | some te => fr.evV x fun x => fr.evV y fun y => (pCp σ te.size x y).bind fun r => k (some (.val r.1)) fr.regs r.2
        | none => none)
      | _ => none)
    | _, _ => none)
  | .call { callee := .builtin .clear, args, argTypes } => (match args.toList, argTypes.toList with
    | [x], [T] => (match E.ti T with
      | some ⟨_, _, _, _, .slice e⟩ => (match E.ti e with
        | some te => fr.evV x fun x => (pClr σ te.zero x).bind fun σ => k (some (.tup [])) fr.regs σ
        | none => none)
      | _ => none)
    | _, _ => none)
  | .call { callee := .builtin .min, args, argTypes := _ } => (match args.toList with
    | [x, y] => fr.evV x fun x => fr.evV y fun y => (pMin x y).bind fun v => k (some (.val v)) fr.regs σ
    | _ => none)
  | .call { callee := .builtin .max, args, argTypes := _ } => (match args.toList with
    | [x, y] => fr.evV x fun x => fr.evV y fun y => (pMax x y).bind fun v => k (some (.val v)) fr.regs σ
    | _ => none)
  | _ => none
end
end Go.Lg
