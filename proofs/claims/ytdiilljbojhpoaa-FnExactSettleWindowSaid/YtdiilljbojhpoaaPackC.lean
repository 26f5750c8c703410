/- Values that bear what they lead to; a call's own memory apart. Definitions alone. -/
import Derived.Test.YtdiilljbojhpoaaPackB
namespace Go.Lg.Pv
open Go Go.Lg
set_option linter.unusedVariables false
set_option linter.unnecessarySimpa false

/-- a cell's shape: what a slice's elements are -/
inductive Sh where
  | sc
  | sl (e : List Sh)

inductive DV where
  | int (k : IntKind) (n : Int)
  | bool (b : Bool)
  | str (s : ByteArray)
  | nilF | nilI | nilP
  | nil
  | e0 (z : Nat)
  | agg (l : List DV)
  | sl (sh : List Sh) (l : List DV)
  | rp (e : DV) (off : Nat)
  | fn (f : Nat) (a b : List DV)
  | own (id ver o n c : Nat) (x : Bool)
  | ptr (id ver i off : Nat)
  | dead

mutual
/-- leads to nothing of a call's own -/
def cl : DV → Bool
  | .agg l => clL l
  | .sl _ l => clL l
  | .rp e _ => cl e
  | .fn _ a b => clL a && clL b
  | .nil => false
  | .e0 _ => false
  | .own .. => false
  | .ptr .. => false
  | .dead => false
  | _ => true
def clL : List DV → Bool
  | [] => true
  | v :: r => cl v && clL r
end
mutual
/-- the own blocks that a value names -/
def idsV : DV → List Nat
  | .agg l => idsL l
  | .sl _ l => idsL l
  | .rp e _ => idsV e
  | .fn _ a b => idsL a ++ idsL b
  | .own id .. => [id]
  | .ptr id .. => [id]
  | _ => []
def idsL : List DV → List Nat
  | [] => []
  | v :: r => idsV v ++ idsL r
end

def cellsD : DV → List DV
  | .agg l => l
  | v => [v]
def mkE (e : DV) (cs : List DV) : DV :=
  match e with
  | .agg _ => .agg cs
  | e => match cs with
    | [c] => c
    | _ => e
def overD (l : List DV) (off : Nat) (vs : List DV) : List DV := l.take off ++ vs ++ l.drop (off + vs.length)
def isSl : DV → Bool | .sl .. => true | _ => false
def isSc : DV → Bool | .int .. => true | .bool _ => true | .str _ => true | .nilF => true | .nilI => true | .nilP => true | _ => false
/-- what may be put into closed memory -/
def okC : DV → Bool | .nil => true | .e0 _ => true | .own .. => true | v => isSc v
def nz (s : Sh) (v : DV) : DV :=
  match v, s with
  | .nil, .sl e => .sl e []
  | .e0 z, .sl e => if e.length = z then .sl e [] else .e0 z
  | v, _ => v
def nzL : List Sh → List DV → List DV
  | s :: r, c :: l => nz s c :: nzL r l
  | _, l => l

def toV : DV → Option Value
  | .int k n => some (.int k n)
  | .bool b => some (.bool b)
  | .str s => some (.string s)
  | _ => none
def ofV : Value → Option DV
  | .int k n => some (.int k n)
  | .bool b => some (.bool b)
  | .string s => some (.str s)
  | _ => none
/-- a constant -/
def dvC : Value → DV
  | .int k n => .int k n
  | .bool b => .bool b
  | .string s => .str s
  | .nilFunc => .nilF
  | .nilIface => .nilI
  | .pointer none => .nilP
  | .slice none 0 0 => .nil
  | _ => .dead
def zD (l : List Value) : List DV := l.map dvC
def elemD (agg : Bool) (l : List DV) : DV := cond agg (.agg l) (match l with | [c] => c | _ => .dead)

/-! ## own memory -/
structure PB where
  ver : Nat
  sh : List Sh
  el : List DV
  live : Bool
  op : Bool
  whole : Bool
abbrev PH := List PB

def bk (μ : PH) (id ver : Nat) : Option PB :=
  match μ[id]? with
  | some b => if b.live = true ∧ b.ver = ver then some b else none
  | none => none
def kl (μ : PH) (id : Nat) : PH :=
  match μ[id]? with
  | some b => μ.set id { b with live := false, el := [] }
  | none => μ

def qLen (μ : PH) (x : DV) : Option DV :=
  match x with
  | .nil => some (.int .i64 0)
  | .e0 _ => some (.int .i64 0)
  | .sl _ l => some (.int .i64 l.length)
  | .own id ver _ n _ _ => (bk μ id ver).bind fun _ => some (.int .i64 n)
  | _ => none
def qCap (μ : PH) (x : DV) : Option DV :=
  match x with
  | .nil => some (.int .i64 0)
  | .e0 _ => some (.int .i64 0)
  | .own id ver _ _ c true => (bk μ id ver).bind fun _ => some (.int .i64 c)
  | _ => none
def qLs (x : DV) : Option DV := match x with | .str s => some (.int .i64 s.size) | _ => none
def qFA (μ : PH) (v : DV) (off : Nat) : Option DV :=
  match v with
  | .ptr id ver i o => (bk μ id ver).bind fun _ => some (.ptr id ver i (o + off))
  | .rp e o => some (.rp e (o + off))
  | _ => none
def qIA (μ : PH) (size : Nat) (x i : DV) : Option DV :=
  match x, i with
  | .sl sh l, .int _ i => if 0 ≤ i ∧ sh.length = size then (match l[i.toNat]? with | some e => some (.rp e 0) | none => none) else none
  | .own id ver o n _ _, .int _ i => (bk μ id ver).bind fun b => if 0 ≤ i ∧ i < n ∧ b.sh.length = size then some (.ptr id ver (o + i.toNat) 0) else none
  | _, _ => none
def qIx (x i : DV) : Option DV :=
  match x, i with
  | .str s, .int _ i => if 0 ≤ i then (match s[i.toNat]? with | some b => some (.int .u8 b.toNat) | none => none) else none
  | _, _ => none
def qNil (μ : PH) (v : DV) : Option DV :=
  match v with
  | .ptr id ver i o => (bk μ id ver).bind fun _ => some (.ptr id ver i o)
  | .rp e o => some (.rp e o)
  | .fn f a b => some (.fn f a b)
  | _ => none
def asID (v : DV) : Option Int := match v with | .int _ n => some n | _ => none
def qBd (len cap : Nat) (lo hi mx : Option DV) : Option (Nat × Nat × Nat) :=
  (match mx with | some v => (asID v).bind (fun i => if 0 ≤ i ∧ i ≤ cap then some i.toNat else none) | none => some cap).bind fun m =>
  (match hi, mx with
   | some v, _ => (asID v).bind (fun i => if 0 ≤ i ∧ i ≤ m then some i.toNat else none)
   | none, none => some len
   | none, some _ => none).bind fun h =>
  (match lo with | some v => (asID v).bind (fun i => if 0 ≤ i ∧ i ≤ h then some i.toNat else none) | none => some 0).bind fun l =>
  some (l, h, m)
def qSl (μ : PH) (size : Nat) (x : DV) (lo hi mx : Option DV) : Option DV :=
  match x with
  | .nil => (qBd 0 0 lo hi mx).bind fun _ => some .nil
  | .sl sh l => if sh.length = size then (qBd l.length l.length lo hi mx).bind fun r => if mx.isSome ∧ r.2.2 = r.1 then some (.e0 size) else some (.sl sh ((l.drop r.1).take (r.2.1 - r.1))) else none
  | .own id ver o n c x => (bk μ id ver).bind fun b => if b.sh.length = size then (qBd n c lo hi mx).bind fun r => if mx.isSome ∧ r.2.2 = r.1 then some (.e0 size) else some (.own id ver (o + r.1) (r.2.1 - r.1) (r.2.2 - r.1) (mx.isSome || x)) else none
  | _ => none
def qSs (x : DV) (lo hi : Option DV) : Option DV :=
  match x with
  | .str s => (qBd s.size s.size lo hi none).bind fun r => some (.str (s.extract r.1 r.2.1))
  | _ => none
def qUn (op : UnOp) (x : DV) : Option DV := (toV x).bind fun v => (pUn op v).bind ofV
def qEqN (μ : PH) (x y : DV) : Option Bool :=
  match x, y with
  | .nil, .nil => some true
  | .sl _ (_ :: _), .nil => some false
  | .own id ver _ n _ _, .nil => (bk μ id ver).bind fun _ => if 0 < n then some false else none
  | _, _ => none
def qEqP (μ : PH) (x y : DV) : Option Bool :=
  match x, y with
  | .nilP, .nilP => some true
  | .ptr id ver _ _, .nilP => (bk μ id ver).bind fun _ => some false
  | .rp _ _, .nilP => some false
  | _, _ => none
def qBin (μ : PH) (sh : Shape) (op : BinOp) (x y : DV) : Option DV :=
  match toV x, toV y with
  | some a, some b => (pBin sh op a b).bind ofV
  | _, _ =>
    match sh with
    | .slice _ => (match op with
      | .eql => (qEqN μ x y).map .bool
      | .neq => (qEqN μ x y).map fun b => .bool !b
      | _ => none)
    | .ptr => (match op with
      | .eql => (qEqP μ x y).map .bool
      | .neq => (qEqP μ x y).map fun b => .bool !b
      | _ => none)
    | _ => none
def toVs : List DV → Option (List Value)
  | [] => some []
  | x :: r => (toV x).bind fun v => (toVs r).bind fun l => some (v :: l)
def qEqS (ks : List Nat) (op : BinOp) (x y : DV) : Option DV :=
  match x, y with
  | .agg xs, .agg ys => (toVs xs).bind fun a => (toVs ys).bind fun b => (pEqS ks op (.agg a.toArray) (.agg b.toArray)).bind ofV
  | _, _ => none
def qInt (k : IntKind) (x : DV) : Option DV := match x with | .int _ n => some (.int k (k.wrap n)) | _ => none
def qStr (x : DV) : Option DV := match x with | .str s => some (.str s) | _ => none
def qMin (x y : DV) : Option DV :=
  match x, y with
  | .int k a, .int k' b => if k = k' then some (.int k (if b < a then b else a)) else none
  | _, _ => none
def qMax (x y : DV) : Option DV :=
  match x, y with
  | .int k a, .int k' b => if k = k' then some (.int k (if a < b then b else a)) else none
  | _, _ => none

def getC (cs : List DV) (off size : Nat) (agg : Bool) : Option DV :=
  cond agg (if off + size ≤ cs.length then some (.agg ((cs.drop off).take size)) else none) cs[off]?
def qFld (off size : Nat) (agg : Bool) (x : DV) : Option DV :=
  match x with
  | .agg cs => getC cs off size agg
  | _ => none

/-- what lies within is given a block of its own -/
def unfL (wh : Bool) : PH → List DV → List DV × PH
  | μ, [] => ([], μ)
  | μ, .sl sh l :: r => (.own μ.length 0 0 l.length l.length false :: (unfL wh (μ ++ [⟨0, sh, l, true, false, wh⟩]) r).1, (unfL wh (μ ++ [⟨0, sh, l, true, false, wh⟩]) r).2)
  | μ, c :: r => (c :: (unfL wh μ r).1, (unfL wh μ r).2)

def qLd (μ : PH) (size : Nat) (agg : Bool) (p : DV) : Option (DV × PH) :=
  match p with
  | .rp e off => (getC (cellsD e) off size agg).map fun v => (v, μ)
  | .ptr id ver i off => (bk μ id ver).bind fun b => (b.el[i]?).bind fun e =>
    if b.op = true ∨ (((cellsD e).drop off).take size).all okC = true then (getC (cellsD e) off size agg).map fun v => (v, μ)
    else if off + size ≤ (cellsD e).length ∧ (((cellsD e).drop off).take size).all (fun c => okC c || isSl c) = true ∧ (agg = true ∨ size = 1) then
      some (elemD agg (unfL true μ (((cellsD e).drop off).take size)).1,
        (unfL true μ (((cellsD e).drop off).take size)).2.set id { b with el := b.el.set i (mkE e (overD (cellsD e) off (unfL true μ (((cellsD e).drop off).take size)).1)) })
    else none
  | _ => none

/-- the cells of a value that is put into a block -/
def nA : DV → Bool | .agg _ => false | _ => true
def putC (op : Bool) (sh : List Sh) (cs : List DV) : Option (List DV) := cond op (if cs.all nA = true then some cs else none) (if cs.all okC = true then some (nzL sh cs) else none)

def qSt (μ : PH) (size : Nat) (p v : DV) : Option PH :=
  match p with
  | .ptr id ver i off => (bk μ id ver).bind fun b => (b.el[i]?).bind fun e =>
    if (cellsD v).length = size ∧ off + size ≤ (cellsD e).length then
      (putC b.op (b.sh.drop off) (cellsD v)).map fun cs => μ.set id { b with el := b.el.set i (mkE e (overD (cellsD e) off cs)) }
    else none
  | _ => none

def qAl (μ : PH) (op : Bool) (sh : List Sh) (agg : Bool) (cs : List DV) : Option (DV × PH) :=
  if sh.length = cs.length ∧ (agg = true ∨ cs.length = 1) then
    (putC op sh cs).map fun cs => (.ptr μ.length 0 0 0, μ ++ [⟨0, sh, [elemD agg cs], true, op, true⟩])
  else none

def qMS (μ : PH) (sh : List Sh) (agg : Bool) (zero : List DV) (size bytes : Nat) (l c : DV) : Option (DV × PH) :=
  match l, c with
  | .int .i64 l, .int .i64 c => if 0 ≤ l ∧ l ≤ c ∧ c * bytes ≤ 140737488355328 ∧ c ≤ 9223372036854775807 ∧ zero.length = size ∧ sh.length = size ∧ (agg = true ∨ size = 1) ∧ zero.all okC = true then
      some (.own μ.length 0 0 l.toNat c.toNat true, μ ++ [⟨0, sh, List.replicate c.toNat (elemD agg (nzL sh zero)), true, false, true⟩]) else none
  | _, _ => none

/-- elements of a literal, put over zeros -/
def litP (size : Nat) : List DV → List (Nat × DV) → Option (List DV)
  | l, [] => some l
  | l, (i, v) :: r => if (cellsD v).length = size ∧ i < l.length then litP size (l.set i v) r else none

def closeE (sh : List Sh) (e : DV) : Option DV :=
  match e with
  | .agg cs => if cs.all okC = true then some (.agg (nzL sh cs)) else none
  | v => if okC v = true then (match sh with | [s] => some (nz s v) | _ => none) else none
def closeEs (sh : List Sh) : List DV → Option (List DV)
  | [] => some []
  | e :: r => (closeE sh e).bind fun e => (closeEs sh r).bind fun l => some (e :: l)

/-- a literal slice: lit: nobody writes it, it is a value; else a block -/
def qBS (μ : PH) (lit : Bool) (sh : List Sh) (agg : Bool) (zero : List DV) (size len : Nat) (parts : List (Nat × DV)) : Option (DV × PH) :=
  if len * size ≤ 16777216 ∧ zero.length = size ∧ sh.length = size ∧ (agg = true ∨ size = 1) then
    (litP size (List.replicate len (elemD agg zero)) parts).bind fun l =>
      if len = 0 then some (.e0 size, μ) else
      cond lit (some (.sl sh l, μ)) ((closeEs sh l).map fun l => (.own μ.length 0 0 len len true, μ ++ [⟨0, sh, l, true, false, true⟩]))
  else none

mutual
/-- bears no slice -/
def flat : DV → Bool
  | .agg l => flatL l
  | .int .. => true
  | .bool _ => true
  | .str _ => true
  | .nilF => true
  | .nilI => true
  | .nilP => true
  | _ => false
def flatL : List DV → Bool
  | [] => true
  | v :: r => flat v && flatL r
end

def okE (e : DV) : Bool := (cellsD e).all okC
/-- the elements that a slice shows -/
def elsOf (μ : PH) (size : Nat) (x : DV) : Option (List DV) :=
  match x with
  | .nil => some []
  | .e0 _ => some []
  | .sl sh l => if sh.length = size then some l else none
  | .own id ver o n _ _ => (bk μ id ver).bind fun b => if b.sh.length = size ∧ (b.op = true ∨ flatL ((b.el.drop o).take n) = true ∨ ((b.el.drop o).take n).all okE = true) then some ((b.el.drop o).take n) else none
  | .str s => if size = 1 then some (s.data.toList.map fun b => .int .u8 b.toNat) else none
  | _ => none

/-- elements made ready to lie in a block -/
def putEs (op : Bool) (sh : List Sh) (l : List DV) : Option (List DV) := cond op (some l) (if flatL l = true then some l else closeEs sh l)

def qAp (μ : PH) (opn : Bool) (sh : List Sh) (size bytes : Nat) (s x : DV) : Option (DV × PH) :=
  if sh.length = size then
  (elsOf μ size x).bind fun news =>
  match s with
  | .own id ver o n c ex => (bk μ id ver).bind fun b => if b.sh.length = size then
    (if news.length = 0 then some (.own id ver o n c ex, μ) else
     (putEs b.op b.sh news).bind fun ns =>
     if n + news.length ≤ c then some (.own id ver o (n + news.length) c ex, μ.set id { b with el := overD b.el (o + n) ns })
     else if (n + news.length) * bytes ≤ 140737488355328 ∧ 0 < bytes ∧ n + news.length ≤ 9223372036854775807 then
       (if ex = true then (if b.op = true ∨ flatL ((b.el.drop o).take n) = true then some (.own μ.length news.length 0 (n + news.length) (n + news.length) false, μ ++ [⟨news.length, b.sh, (b.el.drop o).take n ++ ns, true, b.op, true⟩]) else none)
        else if b.whole = true then some (.own id (ver + news.length) 0 (n + news.length) (n + news.length) false, μ.set id ⟨ver + news.length, b.sh, (b.el.drop o).take n ++ ns, true, b.op, true⟩) else none)
     else none)
    else none
  | s => cond (match s with | .nil => true | .e0 _ => true | _ => false)
    (if news.length = 0 then some (s, μ) else
     (putEs opn sh news).bind fun ns =>
     if news.length * bytes ≤ 140737488355328 ∧ 0 < bytes ∧ news.length ≤ 9223372036854775807 then some (.own μ.length news.length 0 news.length news.length false, μ ++ [⟨news.length, sh, ns, true, opn, true⟩]) else none)
    none
  else none

def lenD (μ : PH) (x : DV) : Option Nat :=
  match x with
  | .str s => some s.size
  | x => (qLen μ x).bind fun v => match v with | .int _ n => some n.toNat | _ => none

def qCp (μ : PH) (size : Nat) (d x : DV) : Option (DV × PH) :=
  (elsOf μ size x).bind fun news =>
  match d with
  | .nil => some (.int .i64 0, μ)
  | .own id ver o n _ _ => (bk μ id ver).bind fun b => if min news.length n = 0 then some (.int .i64 0, μ) else
      if b.sh.length = size ∧ b.op = false ∧ flatL news = true then some (.int .i64 (min news.length n : Nat), μ.set id { b with el := overD b.el o (news.take (min news.length n)) }) else none
  | _ => none

def qClr (μ : PH) (agg : Bool) (zero : List DV) (x : DV) : Option PH :=
  match x with
  | .nil => some μ
  | .own id ver o n _ _ => (bk μ id ver).bind fun b => if n = 0 then some μ else if zero.length = b.sh.length ∧ (agg = true ∨ zero.length = 1) ∧ zero.all okC = true ∧ b.op = false then
      some (μ.set id { b with el := overD b.el o (List.replicate n (elemD agg (nzL b.sh zero))) }) else none
  | _ => none

def bytesD : List DV → Option (List UInt8)
  | [] => some []
  | .int .u8 n :: r => (bytesD r).map (UInt8.ofNat n.toNat :: ·)
  | _ :: _ => none
def qB2S (μ : PH) (x : DV) : Option DV :=
  match x with
  | .str _ => none
  | x => (elsOf μ 1 x).bind fun l => (bytesD l).map fun l => .str ⟨l.toArray⟩
def qS2B (μ : PH) (lit : Bool) (x : DV) : Option (DV × PH) :=
  match x with
  | .str s => cond lit (some (.sl [.sc] (s.data.toList.map fun b => .int .u8 b.toNat), μ))
      (some (.own μ.length 0 0 s.size s.size false, μ ++ [⟨0, [.sc], s.data.toList.map fun b => .int .u8 b.toNat, true, false, true⟩]))
  | _ => none

/-! ## values shown to a call, and taken back -/
def mapO {α β : Type} (f : α → Option β) : List α → Option (List β)
  | [] => some []
  | x :: r => (f x).bind fun y => (mapO f r).bind fun l => some (y :: l)
def zipO (f : Sh → DV → Option DV) : List Sh → List DV → Option (List DV)
  | _, [] => some []
  | s, c :: r => (f (s.headD .sc) c).bind fun y => (zipO f s.tail r).bind fun l => some (y :: l)
def onE (f : Sh → DV → Option DV) (sh : List Sh) (e : DV) : Option DV :=
  match e with
  | .agg cs => (zipO f sh cs).map .agg
  | v => f (sh.headD .sc) v
def onEs (f : Sh → DV → Option DV) (sh : List Sh) (l : List DV) : Option (List DV) := if clL l = true then some l else mapO (onE f sh) l

/-- a value as it is now -/
def snC (μ : PH) : Nat → Sh → DV → Option DV
  | 0, _, _ => none
  | k + 1, s, v => if cl v = true then some v else
    match v with
    | .nil => (match s with | .sl e => some (.sl e []) | .sc => none)
    | .e0 z => (match s with | .sl e => if e.length = z then some (.sl e []) else none | .sc => none)
    | .sl e l => (onEs (snC μ k) e l).map (.sl e)
    | .own id ver o n _ _ => (bk μ id ver).bind fun b => (onEs (snC μ k) b.sh ((b.el.drop o).take n)).map (.sl b.sh)
    | .ptr id ver i off => (bk μ id ver).bind fun b => (b.el[i]?).bind fun e => (onE (snC μ k) b.sh e).map (.rp · off)
    | .rp e off => (onE (snC μ k) [] e).map (.rp · off)
    | .fn f a b => (mapO (onE (snC μ k) []) a).bind fun a => (mapO (onE (snC μ k) []) b).map (.fn f a)
    | _ => none

def zipS (f : PH → Sh → DV → Option (DV × PH)) : PH → List Sh → List DV → Option (List DV × PH)
  | μ, _, [] => some ([], μ)
  | μ, s, c :: r => (f μ (s.headD .sc) c).bind fun p => (zipS f p.2 s.tail r).bind fun q => some (p.1 :: q.1, q.2)
def onS (f : PH → Sh → DV → Option (DV × PH)) (μ : PH) (sh : List Sh) (e : DV) : Option (DV × PH) :=
  match e with
  | .agg cs => (zipS f μ sh cs).map fun p => (.agg p.1, p.2)
  | v => f μ (sh.headD .sc) v
def mapS (f : PH → Sh → DV → Option (DV × PH)) (sh : List Sh) : PH → List DV → Option (List DV × PH)
  | μ, [] => some ([], μ)
  | μ, e :: r => (onS f μ sh e).bind fun p => (mapS f sh p.2 r).bind fun q => some (p.1 :: q.1, q.2)
def onSs (f : PH → Sh → DV → Option (DV × PH)) (μ : PH) (sh : List Sh) (l : List DV) : Option (List DV × PH) := if clL l = true then some (l, μ) else mapS f sh μ l

/-- a cell of closed memory, with what it leads to; that is no block any more -/
def vwC : Nat → PH → Sh → DV → Option (DV × PH)
  | 0, _, _, _ => none
  | k + 1, μ, s, v => if cl v = true then some (v, μ) else
    match v with
    | .own id ver o n _ _ => (bk μ id ver).bind fun b => if b.whole = true ∧ b.op = false then
        (onSs (vwC k) (kl μ id) b.sh ((b.el.drop o).take n)).map fun p => (.sl b.sh p.1, p.2) else none
    | _ => none
/-- a value that is given away -/
def tkC (μ : PH) (s : Sh) (v : DV) : Option (DV × PH) :=
  if isSc v = true then some (v, μ) else
  match v with
  | .nil => (match s with | .sl e => some (.sl e [], μ) | .sc => none)
  | .e0 z => (match s with | .sl e => if e.length = z then some (.sl e [], μ) else none | .sc => none)
  | .own id ver o n c x => vwC 5 μ s (.own id ver o n c x)
  | _ => none

inductive Md where | snap | move | mut | ref (size : Nat) (agg : Bool)
structure Sig where
  ps : List (Md × List Sh)
  rs : List (List Sh)
  fresh : Bool

/-- first what is moved -/
def pack1 : List (Md × List Sh) → List DV → PH → Option (List (Option DV) × PH)
  | [], [], μ => some ([], μ)
  | (m, s) :: ps, v :: vs, μ =>
    match m with
    | .snap => (pack1 ps vs μ).bind fun q => some (none :: q.1, q.2)
    | .move => (onS tkC μ s v).bind fun p => (pack1 ps vs p.2).bind fun q => some (some p.1 :: q.1, q.2)
    | _ => none
  | _, _, _ => none
/-- then what is shown -/
def pack2 (μ : PH) : List (Md × List Sh) → List DV → List (Option DV) → Option (List DV)
  | [], [], [] => some []
  | (_, s) :: ps, v :: vs, o :: os => (match o with | some v => some v | none => onE (snC μ 6) s v).bind fun v => (pack2 μ ps vs os).bind fun l => some (v :: l)
  | _, _, _ => none

def adV (wh : Bool) (μ : PH) (v : DV) : DV × PH :=
  match v with
  | .agg cs => (.agg (unfL wh μ cs).1, (unfL wh μ cs).2)
  | v => (match (unfL wh μ [v]).1 with | [c] => c | _ => v, (unfL wh μ [v]).2)
def adL (fresh : Bool) : PH → List DV → List DV × PH
  | μ, [] => ([], μ)
  | μ, v :: r => cond fresh ((adV true μ v).1 :: (adL fresh (adV true μ v).2 r).1, (adL fresh (adV true μ v).2 r).2) (v :: (adL fresh μ r).1, (adL fresh μ r).2)

def enter : List (Md × List Sh) → List DV → PH → Option (List DV × PH)
  | [], [], μ => some ([], μ)
  | (m, s) :: ps, v :: vs, μ =>
    match m with
    | .snap => (enter ps vs μ).bind fun q => some (v :: q.1, q.2)
    | .move => if (cellsD v).all (fun c => okC c || isSl c) = true then (enter ps vs (adV true μ v).2).bind fun q => some ((adV true μ v).1 :: q.1, q.2) else none
    | _ => none
  | _, _, _ => none

def resO : List (List Sh) → List DV → PH → Option (List DV × PH)
  | [], [], μ => some ([], μ)
  | s :: ss, v :: vs, μ => (onS tkC μ s v).bind fun p => (resO ss vs p.2).bind fun q => some (p.1 :: q.1, q.2)
  | _, _, _ => none
def resF (μ : PH) : List (List Sh) → List DV → Option (List DV)
  | [], [] => some []
  | s :: ss, v :: vs => (onE (snC μ 6) s v).bind fun p => (resF μ ss vs).bind fun q => some (p :: q)
  | _, _ => none
/-- a call with memory of its own -/
def run1 (s : Sig) (core : List DV → PH → Option (List DV × PH)) (args : List DV) : Option (List DV × List DV) :=
  (enter s.ps args []).bind fun a => (core a.1 a.2).bind fun r =>
    cond s.fresh ((resO s.rs r.1 r.2).bind fun q => some (q.1, [])) ((resF r.2 s.rs r.1).bind fun q => some (q, []))
def isSnap : Md → Bool | .snap => true | _ => false
/-- a call, as its caller sees it -/
def nC (ps : List (Md × List Sh)) (fresh : Bool) (run : List DV → Option (List DV × List DV)) (args : List DV) (μ : PH) : Option (List DV × PH) :=
  (pack1 ps args μ).bind fun p => (pack2 (cond fresh p.2 []) ps args p.1).bind fun vs =>
  if fresh = true ∨ (idsL args = [] ∧ ps.all (fun q => isSnap q.1) = true) then
    (run vs).bind fun r => if fresh = true → r.1.all (fun v => (cellsD v).all fun c => okC c || isSl c) = true then some (adL fresh p.2 r.1) else none
  else none
end Go.Lg.Pv
namespace Go.Lg.Pv
open Go Go.Lg
set_option linter.unusedVariables false
set_option linter.unnecessarySimpa false

structure PEnv where
  E : Env
  sh : Nat → List Sh
  sig : Nat → Option Sig
  lit : Nat → Nat → Bool
  opn : Nat → Nat → Bool
  td : Nat → Nat → Bool
  /-- a function that clones a slice: how many cells an element has; 0: none such -/
  cl : Nat → Nat

inductive DF where
  | val (v : DV)
  | reg (t off : Nat)
  | tup (l : List DV)
  | und
structure DFr where
  n : Nat
  tmps : List (Nat × Option DF)
  regs : List (Nat × List DV)

abbrev CW := Nat → List DV → PH → Option (List DV × PH)

section
variable {α : Type}

def DFr.ev (fr : DFr) (x : Operand) (k : DF → Option α) : Option α :=
  match x with
  | .tmp t => match look fr.tmps t with
    | some (some v) => k v
    | _ => none
  | .const v => cond (constOk v) (k (.val (dvC v))) none
  | .func f => k (.val (.fn f [] []))
  | .global _ => none
def DFr.evV (fr : DFr) (x : Operand) (k : DV → Option α) : Option α :=
  fr.ev x fun
    | .val v => k v
    | _ => none
def DFr.evVs (fr : DFr) : List Operand → (List DV → Option α) → Option α
  | [], k => k []
  | x :: r, k => fr.evV x fun v => fr.evVs r fun l => k (v :: l)
def DFr.evO (fr : DFr) (x : Option Operand) (k : Option DV → Option α) : Option α :=
  match x with
  | none => k none
  | some x => fr.evV x fun v => k (some v)
def DFr.evPs (fr : DFr) : List (Nat × Operand) → (List (Nat × DV) → Option α) → Option α
  | [], k => k []
  | (i, x) :: r, k => fr.evV x fun v => fr.evPs r fun l => k ((i, v) :: l)

def qB (v : DV) (k : Bool → Option α) : Option α := match v with | .bool b => k b | _ => none
def qF (v : DV) (k : Nat → List DV → List DV → Option α) : Option α := match v with | .fn f a b => k f a b | _ => none
def dN : Nat → List DV → (List DV → Option α) → Option α
  | 0 => fun l k => match l with
    | [] => k []
    | _ :: _ => none
  | n + 1 => fun l k => match l with
    | [] => none
    | v :: r => dN n r fun l => k (v :: l)
/-- a value of one cell -/
def s1 (v : DV) (k : Option α) : Option α := match v with | .agg _ => none | _ => k
/-- the cells of a value -/
def dC (agg : Bool) (n : Nat) (v : DV) (k : List DV → Option α) : Option α :=
  cond agg (match v with | .agg cs => dN n cs k | _ => none) (s1 v (k [v]))
def DFr.put (fr : DFr) (regs : List (Nat × List DV)) (d : Option Nat) (x : Option DF) : DFr :=
  match d with
  | none => ⟨fr.n, fr.tmps, regs⟩
  | some t => ⟨fr.n, (t, x) :: fr.tmps, regs⟩
def rdD (cs : List DV) (off size : Nat) (agg : Bool) (k : DV → Option α) : Option α :=
  cond agg (cond (Nat.ble (off + size) cs.length) (k (.agg ((cs.drop off).take size))) none) (match cs.drop off with | v :: _ => k v | [] => none)

def fill (place : Nat → Option (Nat × Nat)) : List DV → List (Nat × DV) → Option (List DV)
  | cells, [] => some cells
  | cells, (i, v) :: rest =>
    match place i with
    | none => none
    | some (off, size) => if (cellsD v).length = size ∧ off + size ≤ cells.length then fill place (overD cells off (cellsD v)) rest else none
def qBuild (zero : List DV) (fs : List (Nat × Nat × Bool)) (parts : List (Nat × DV)) : Option DV :=
  (fill (fun i => (fs[i]?).map fun x => (x.1, x.2.1)) zero parts).map .agg

def callW (P : PEnv) (call : CW) (g : Nat) (l : List DV) (μ : PH) : Option (List DV × PH) :=
  match P.sig g with
  | none => call g l μ
  | some s => nC s.ps s.fresh (run1 s (call g)) l μ

def opW (P : PEnv) (call : CW) (f : Nat) (o : Oper) (fr : DFr) (μ : PH)
    (k : Option DF → List (Nat × List DV) → PH → Option α) : Option α :=
  match o.op with
  | .move x => fr.ev x fun v => k (some v) fr.regs μ
  | .assign x => fr.ev x fun v => k (some v) fr.regs μ
  | .pick c a b => fr.evV c fun v => qB v fun t => cond t (fr.ev a fun v => k (some v) fr.regs μ) (fr.ev b fun v => k (some v) fr.regs μ)
  | .alloc T => match P.E.ti T, o.dst with
    | some ti, some d => cond (P.E.loc f d)
        (cond (isNone' (look fr.regs d)) (k (some (.reg d 0)) ((d, zD ti.zero) :: fr.regs) μ) none)
        ((qAl μ (P.opn f d) (P.sh T) ti.agg (zD ti.zero)).bind fun r => k (some (.val r.1)) fr.regs r.2)
    | _, _ => none
  | .box T x => match P.E.ti T, o.dst with
    | some ti, some d => fr.evV x fun v => dC ti.agg ti.size v fun cs => cond (P.E.loc f d)
        (cond (isNone' (look fr.regs d)) (k (some (.reg d 0)) ((d, cs) :: fr.regs) μ) none)
        ((qAl μ (P.opn f d) (P.sh T) ti.agg cs).bind fun r => k (some (.val r.1)) fr.regs r.2)
    | _, _ => none
  | .load T x => match P.E.ti T with
    | some ti => fr.ev x fun
      | .reg t off => (match look fr.regs t with
        | some cs => rdD cs off ti.size ti.agg fun v => k (some (.val v)) fr.regs μ
        | none => none)
      | .val p => (qLd μ ti.size ti.agg p).bind fun r => k (some (.val r.1)) fr.regs r.2
      | _ => none
    | none => none
  | .store T x y => match P.E.ti T with
    | some ti => fr.ev x fun
      | .reg t off => (match look fr.regs t with
        | some cs => fr.evV y fun v => dC ti.agg ti.size v fun vs =>
            cond (Nat.ble (off + ti.size) cs.length) (k none ((t, overD cs off vs) :: fr.regs) μ) none
        | none => none)
      | .val p => fr.evV y fun v => (qSt μ ti.size p v).bind fun μ => k none fr.regs μ
      | _ => none
    | none => none
  | .fieldAddr T x i => match P.E.ti T with
    | some ⟨_, _, _, _, .struct fs⟩ => (match fs[i]? with
      | some (off, size, _) => cond (Nat.beq size 0) none (fr.ev x fun
        | .reg t o => k (some (.reg t (o + off))) fr.regs μ
        | .val p => (qFA μ p off).bind fun v => k (some (.val v)) fr.regs μ
        | _ => none)
      | none => none)
    | _ => none
  | .field T x i => match P.E.ti T with
    | some ⟨_, _, _, _, .struct fs⟩ => (match fs[i]? with
      | some (off, size, agg) => fr.evV x fun v => (qFld off size agg v).bind fun v => k (some (.val v)) fr.regs μ
      | none => none)
    | _ => none
  | .indexAddr T x i => match P.E.ti T with
    | some ⟨_, _, _, _, .slice e⟩ => (match P.E.ti e with
      | some te => fr.evV x fun x => fr.evV i fun i => (qIA μ te.size x i).bind fun v => k (some (.val v)) fr.regs μ
      | none => none)
    | _ => none
  | .index T x i => match P.E.ti T with
    | some ⟨_, _, _, _, .str⟩ => fr.evV x fun x => fr.evV i fun i => (qIx x i).bind fun v => k (some (.val v)) fr.regs μ
    | _ => none
  | .nilCheck x => fr.ev x fun
    | .reg t o => k (some (.reg t o)) fr.regs μ
    | .val v => (qNil μ v).bind fun v => k (some (.val v)) fr.regs μ
    | _ => none
  | .binOp op T x y _ => match P.E.ti T with
    | some ti => fr.evV x fun x => fr.evV y fun y => (match ti.shape with
      | .struct _ => (match P.E.eqT T with
        | [] => none
        | q :: ks => (qEqS (q :: ks) op x y).bind fun v => k (some (.val v)) fr.regs μ)
      | sh => (qBin μ sh op x y).bind fun v => k (some (.val v)) fr.regs μ)
    | none => none
  | .unOp op _ x => fr.evV x fun x => (qUn op x).bind fun v => k (some (.val v)) fr.regs μ
  | .convert S T x => match P.E.ti S, P.E.ti T with
    | some s, some t => (match s.shape, t.shape with
      | .int _, .int q => fr.evV x fun x => (qInt q x).bind fun v => k (some (.val v)) fr.regs μ
      | .str, .str => fr.evV x fun x => (qStr x).bind fun v => k (some (.val v)) fr.regs μ
      | .slice e, .str => (match P.E.ti e with
        | some ⟨_, _, _, _, .int .u8⟩ => fr.evV x fun x => (qB2S μ x).bind fun v => k (some (.val v)) fr.regs μ
        | _ => none)
      | .str, .slice e => (match P.E.ti e, o.dst with
        | some ⟨_, _, _, _, .int .u8⟩, some d => fr.evV x fun x => (qS2B μ (P.lit f d) x).bind fun r => k (some (.val r.1)) fr.regs r.2
        | _, _ => none)
      | _, _ => none)
    | _, _ => none
  | .makeFunc (.func g) first captured => fr.evVs first.toList fun a => fr.evVs captured.toList fun b => k (some (.val (.fn g a b))) fr.regs μ
  | .makeSlice T l c => match P.E.ti T with
    | some ⟨_, _, _, _, .slice e⟩ => (match P.E.ti e with
      | some te => fr.evV l fun l => fr.evV c fun c => (qMS μ (P.sh e) te.agg (zD te.zero) te.size te.bytes l c).bind fun r => k (some (.val r.1)) fr.regs r.2
      | none => none)
    | _ => none
  | .slice T x lo hi mx => match P.E.ti T with
    | some ⟨_, _, _, _, .slice e⟩ => (match P.E.ti e with
      | some te => fr.evV x fun x => fr.evO lo fun lo => fr.evO hi fun hi => fr.evO mx fun mx => (qSl μ te.size x lo hi mx).bind fun v => k (some (.val v)) fr.regs μ
      | none => none)
    | some ⟨_, _, _, _, .str⟩ => (match mx with
      | none => fr.evV x fun x => fr.evO lo fun lo => fr.evO hi fun hi => (qSs x lo hi).bind fun v => k (some (.val v)) fr.regs μ
      | some _ => none)
    | _ => none
  | .build T ps => match P.E.ti T with
    | some ⟨_, _, _, z, .struct fs⟩ => fr.evPs ps.toList fun l => (qBuild (zD z) fs l).bind fun v => k (some (.val v)) fr.regs μ
    | _ => none
  | .buildSlice T n ps => match P.E.ti T, o.dst with
    | some ⟨_, _, _, _, .slice e⟩, some d => (match P.E.ti e with
      | some te => fr.evPs ps.toList fun l => (qBS μ (P.lit f d) (P.sh e) te.agg (zD te.zero) te.size n l).bind fun r => k (some (.val r.1)) fr.regs r.2
      | none => none)
    | _, _ => none
  | .extract x i => fr.ev x fun
    | .tup l => (match l[i]? with
      | some v => k (some (.val v)) fr.regs μ
      | none => none)
    | _ => none
  | .call { callee := .value (.func g), args, argTypes := _ } => fr.evVs args.toList fun l =>
      (callW P call g l μ).bind fun r => (match P.E.tup o.type with
        | none => dN 1 r.1 fun l => (match l with | [v] => k (some (.val v)) fr.regs r.2 | _ => none)
        | some n => cond (Nat.beq n 1) none (dN n r.1 fun l => k (some (.tup l)) fr.regs r.2))
  | .call { callee := .value g, args, argTypes := _ } => fr.evV g fun g => qF g fun g a b => fr.evVs args.toList fun l =>
      (call g (a ++ l ++ b) μ).bind fun r => (match P.E.tup o.type with
        | none => dN 1 r.1 fun l => (match l with | [v] => k (some (.val v)) fr.regs r.2 | _ => none)
        | some n => cond (Nat.beq n 1) none (dN n r.1 fun l => k (some (.tup l)) fr.regs r.2))
  | .call { callee := .builtin .len, args, argTypes } => (match args.toList, argTypes.toList with
    | [x], [T] => (match P.E.ti T with
      | some ⟨_, _, _, _, .slice _⟩ => fr.evV x fun x => (qLen μ x).bind fun v => k (some (.val v)) fr.regs μ
      | some ⟨_, _, _, _, .str⟩ => fr.evV x fun x => (qLs x).bind fun v => k (some (.val v)) fr.regs μ
      | _ => none)
    | _, _ => none)
  | .call { callee := .builtin .cap, args, argTypes } => (match args.toList, argTypes.toList with
    | [x], [T] => (match P.E.ti T with
      | some ⟨_, _, _, _, .slice _⟩ => fr.evV x fun x => (qCap μ x).bind fun v => k (some (.val v)) fr.regs μ
      | _ => none)
    | _, _ => none)
  | .call { callee := .builtin .append, args, argTypes } => (match args.toList, argTypes.toList with
    | [x, y], [T, U] => (match P.E.ti T, P.E.ti U, o.dst with
      | some ⟨_, _, _, _, .slice e⟩, some u, some d => (match P.E.ti e, u.shape with
        | some te, .slice _ => fr.evV x fun x => fr.evV y fun y => (qAp μ (P.opn f d) (P.sh e) te.size te.bytes x y).bind fun r => k (some (.val r.1)) fr.regs r.2
        | some te, .str => fr.evV x fun x => fr.evV y fun y => (qAp μ (P.opn f d) (P.sh e) te.size te.bytes x y).bind fun r => k (some (.val r.1)) fr.regs r.2
        | _, _ => none)
      | _, _, _ => none)
    | _, _ => none)
  | .call { callee := .builtin .copy, args, argTypes } => (match args.toList, argTypes.toList with
    | [x, y], T :: _ => (match P.E.ti T with
      | some ⟨_, _, _, _, .slice e⟩ => (match P.E.ti e with
        | some te => fr.evV x fun x => fr.evV y fun y => (qCp μ te.size x y).bind fun r => k (some (.val r.1)) fr.regs r.2
        | none => none)
      | _ => none)
    | _, _ => none)
  | .call { callee := .builtin .clear, args, argTypes } => (match args.toList, argTypes.toList with
    | [x], [T] => (match P.E.ti T with
      | some ⟨_, _, _, _, .slice e⟩ => (match P.E.ti e with
        | some te => fr.evV x fun x => (qClr μ te.agg (zD te.zero) x).bind fun μ => k (some (.tup [])) fr.regs μ
        | none => none)
      | _ => none)
    | _, _ => none)
  | .call { callee := .builtin .min, args, argTypes := _ } => (match args.toList with
    | [x, y] => fr.evV x fun x => fr.evV y fun y => (qMin x y).bind fun v => k (some (.val v)) fr.regs μ
    | _ => none)
  | .call { callee := .builtin .max, args, argTypes := _ } => (match args.toList with
    | [x, y] => fr.evV x fun x => fr.evV y fun y => (qMax x y).bind fun v => k (some (.val v)) fr.regs μ
    | _ => none)
  | _ => none

/-! ## regions -/
def grdW (all : List Oper) (o : Oper) (fr : DFr) (run skip : DFr → Option α) : Option α :=
  match o.guard with
  | none => run fr
  | some (j, want) =>
    match (all[j]?).bind (·.dst) with
    | none => none
    | some t => match look fr.tmps t with
      | some (some (.val v)) => qB v fun b => cond b
          (cond want (run ⟨fr.n, (t, some (.val (.bool true))) :: fr.tmps, fr.regs⟩) (skip ⟨fr.n, (t, some (.val (.bool true))) :: fr.tmps, fr.regs⟩))
          (cond want (skip ⟨fr.n, (t, some (.val (.bool false))) :: fr.tmps, fr.regs⟩) (run ⟨fr.n, (t, some (.val (.bool false))) :: fr.tmps, fr.regs⟩))
      | some (some .und) => skip fr
      | _ => none
def opsW (P : PEnv) (call : CW) (f : Nat) (all : List Oper) : List Oper → DFr → PH → (DFr → PH → Option α) → Option α
  | [], fr, μ, k => k fr μ
  | o :: r, fr, μ, k => cond (dstOk o fr.n)
      (grdW all o fr
        (fun fr => opW P call f o fr μ fun x regs μ => opsW P call f all r (fr.put regs o.dst x) μ k)
        (fun fr => opsW P call f all r (fr.put fr.regs o.dst (some .und)) μ k)) none

def DFr.only (fr : DFr) (l : List Nat) : DFr := ⟨fr.n, fr.tmps.filter (fun p => l.any (Nat.beq p.1)), fr.regs⟩

/-- what an operation is to the memory: nothing; it makes a block; it loads from there; it may write (which blocks) -/
inductive Kw where
  | plain
  | mk
  | ld (p : DV)
  | eff (t : Option (List Nat))
  | gone      -- a load that something ordered behind it may have undone
def adrW (fr : DFr) (x : Operand) : Option (Option DF) := match x with | .tmp t => look fr.tmps t | _ => none
/-- the temporaries' values, as far as they are such -/
def argW (fr : DFr) : List Operand → List DV
  | [] => []
  | .tmp t :: r => (match look fr.tmps t with
    | some (some (.val v)) => v :: argW fr r
    | _ => argW fr r)
  | _ :: r => argW fr r
def tchW (raw : Bool) (l : List Nat) : Option (List Nat) := cond raw none (some l)

def kindW (P : PEnv) (f : Nat) (o : Oper) (fr : DFr) : Option Kw :=
  match o.op with
  | .load _ x => match adrW fr x with
    | some (some (.val p)) => some (.ld p)
    | some (some (.reg _ _)) => some .plain
    | _ => none
  | .store _ x _ => match adrW fr x with
    | some (some (.val p)) => some (.eff (some (idsV p)))
    | _ => none
  | .alloc _ | .box .. => (match o.dst with | some d => cond (P.E.loc f d) none (some .mk) | none => none)
  | .makeSlice .. | .buildSlice .. => some .mk
  | .move _ | .assign _ | .pick .. | .fieldAddr .. | .field .. | .indexAddr .. | .index .. | .nilCheck _ | .binOp .. | .unOp ..
  | .makeFunc .. | .slice .. | .build .. | .extract .. => some .plain
  | .convert S T _ => (match P.E.ti S, P.E.ti T with
    | some s, some t => (match s.shape, t.shape with
      | .int _, .int _ => some .plain
      | .str, .str => some .plain
      | _, _ => some (.eff (some [])))
    | _, _ => none)
  | .call { callee := .builtin .len, .. } | .call { callee := .builtin .cap, .. } | .call { callee := .builtin .min, .. } | .call { callee := .builtin .max, .. } => some .plain
  | .call { callee := .value (.func g), args, .. } => some (.eff (tchW (match P.sig g with | some _ => false | none => true) (idsL (argW fr args.toList))))
  | .call { callee := .value g, args, .. } => some (.eff (tchW true (idsL (argW fr (g :: args.toList)))))
  | .call { callee := .builtin .append, args, .. } | .call { callee := .builtin .copy, args, .. } | .call { callee := .builtin .clear, args, .. } => some (.eff (some (idsL (argW fr args.toList))))
  | _ => none

structure EntW where
  i : Nat
  kd : Kw
/-- a load stands, whatever is done behind it -/
def stand (p : DV) (t : Option (List Nat)) (μ : PH) (k : Option α) : Option α :=
  match p with
  | .rp _ _ => k
  | .ptr id ver _ _ => (match t with
    | some l => if (bk μ id ver).isSome = true ∧ id ∉ l then k else none
    | none => none)
  | _ => none
def chkW (b : List (List Nat)) (i : Nat) (kd : Kw) (μ' : PH) : List EntW → Option α → Option α
  | [], k => k
  | d :: r, k => match d.kd, kd with
    | .eff _, .eff _ => cond (ahead b d.i i) (chkW b i kd μ' r k) none
    | .eff _, .mk => cond (ahead b d.i i) (chkW b i kd μ' r k) none
    | .eff _, .ld _ => cond (ahead b d.i i) (chkW b i kd μ' r k) none
    | .ld p, .eff t => cond (ahead b d.i i) (chkW b i kd μ' r k) (stand p t μ' (chkW b i kd μ' r k))
    | .gone, .eff _ => cond (ahead b d.i i) (chkW b i kd μ' r k) none
    | _, _ => chkW b i kd μ' r k
def spend1 (b : List (List Nat)) (i : Nat) (kd : Kw) (d : EntW) : EntW :=
  match kd, d.kd with
  | .eff _, .ld _ => cond (ahead b d.i i) ⟨d.i, .gone⟩ d
  | _, _ => d
def spend (b : List (List Nat)) (i : Nat) (kd : Kw) (g : List EntW) : List EntW := g.map (spend1 b i kd)

def opsDW (P : PEnv) (call : CW) (f : Nat) (all : List Oper) (b : List (List Nat)) :
    List (Oper × Nat) → List EntW → DFr → PH → (DFr → PH → Option α) → Option α
  | [], _, fr, μ, k => k fr μ
  | (o, i) :: r, g, fr, μ, k => cond (dstOk o fr.n)
      (grdW all o fr
        (fun fr => match kindW P f o (fr.only (o.looksAt all.toArray)) with
          | none => none
          | some kd => opW P call f o (fr.only (o.looksAt all.toArray)) μ fun x _ μ' =>
            chkW b i kd μ' g (opsDW P call f all b r (⟨i, kd⟩ :: spend b i kd g) (fr.put fr.regs o.dst x) μ' k))
        (fun fr => opsDW P call f all b r g (fr.put fr.regs o.dst (some .und)) μ k)) none

/-! ## code -/
def packRW (fr : DFr) : List (Nat × Nat) → (List DV → Option α) → Option α
  | [], k => k []
  | (t, n) :: rs, k => (match look fr.regs t, look fr.tmps t with
    | some cs, some (some (.reg t' 0)) => cond (Nat.beq cs.length n && Nat.beq t' t) (packRW fr rs fun l => k (cs ++ l)) none
    | _, _ => none)
def packW (fr : DFr) (rs : List (Nat × Nat)) : List Nat → (List DV → Option α) → Option α
  | [], k => packRW fr rs k
  | t :: r, k => (match look fr.tmps t with
    | some (some (.val v)) => packW fr rs r fun l => k (v :: l)
    | _ => none)
def unpackRW (n : Nat) : List (Nat × Nat) → List DV → DFr
  | [], _ => ⟨n, [], []⟩
  | (t, m) :: rs, l => ⟨n, (t, some (.reg t 0)) :: (unpackRW n rs (l.drop m)).tmps, (t, l.take m) :: (unpackRW n rs (l.drop m)).regs⟩
def unpackW (n : Nat) (rs : List (Nat × Nat)) : List Nat → List DV → DFr
  | [], l => unpackRW n rs l
  | t :: r, l => match l with
    | [] => ⟨n, [], []⟩
    | v :: l => ⟨n, (t, some (.val v)) :: (unpackW n rs r l).tmps, (unpackW n rs r l).regs⟩

/-! ## memory put in order at a loop's head -/
/-- cells that lead to blocks that nobody else names are told in full -/
def foldC (pins : List Nat) (k : Nat) (μ : PH) (s : Sh) (v : DV) : Option (DV × PH) :=
  match v with
  | .own id ver o n c x => if id ∈ pins then some (v, μ) else vwC k μ s (.own id ver o n c x)
  | v => some (v, μ)
def foldB (pins : List Nat) (μ : PH) (id : Nat) : Option PH :=
  match μ[id]? with
  | some b => if b.live = true ∧ b.op = false ∧ clL b.el = false then
      (mapS (foldC pins 5) b.sh (kl μ id) b.el).map fun p => p.2.set id { b with el := p.1 }
    else some μ
  | none => none
def foldBs (pins : List Nat) : List Nat → PH → Option PH
  | [], μ => some μ
  | i :: r, μ => (foldB pins μ i).bind fun μ => foldBs pins r μ
def trim (base : Nat) : PH → Nat → PH
  | μ, 0 => μ
  | μ, k + 1 => match μ.getLast? with
    | some b => if b.live = false ∧ base < μ.length then trim base μ.dropLast k else μ
    | none => μ
def idsB (μ : PH) : List Nat := μ.flatMap fun b => if clL b.el = true then [] else idsL b.el
def opens (μ : PH) : List Nat := μ.flatMap fun b => cond b.op (idsL b.el) []
/-- base: so many blocks are the callers' -/
def tidy (base : Nat) (xs : List DV) (μ : PH) : Option PH :=
  (foldBs (idsL xs ++ opens μ) (List.range' base (μ.length - base)) μ).bind fun μ1 =>
  if (idsL xs).all (· < (trim base μ1 μ1.length).length) = true ∧ (idsB (trim base μ1 μ1.length)).all (· < (trim base μ1 μ1.length).length) = true then some (trim base μ1 μ1.length) else none

def iterD {β : Type} (F : (List DV → PH → Option β) → List DV → PH → Option β) : Nat → List DV → PH → Option β
  | 0, _, _ => none
  | n + 1, xs, μ => F (iterD F n) xs μ

def tdy (t : Bool) (base : Nat) (xs : List DV) (μ : PH) (k : PH → Option α) : Option α := cond t ((tidy base xs μ).bind k) (k μ)

def ew (P : PEnv) (N : Nat) (call : CW) (f base : Nat) :
    Code → DFr → PH → (Ex → DFr → PH → Option α) → Option α
  | .skip, fr, μ, k => k .normal fr μ
  | .ret, fr, μ, k => k .ret fr μ
  | .exit id, fr, μ, k => k (.exit id) fr μ
  | .seq a b, fr, μ, k => ew P N call f base a fr μ fun
      | .normal, fr, μ => ew P N call f base b fr μ k
      | e, fr, μ => k e fr μ
  | .cond c a b, fr, μ, k => fr.evV c fun v => qB v fun t => cond t (ew P N call f base a fr μ k) (ew P N call f base b fr μ k)
  | .block id c, fr, μ, k => ew P N call f base c fr μ fun
      | .exit id', fr, μ => cond (Nat.beq id' id) (k .normal fr μ) (k (.exit id') fr μ)
      | e, fr, μ => k e fr μ
  | .region _ ops draw, fr, μ, k => cond draw
      (cond (drawOk ops.toList)
        (opsDW P call f ops.toList (befs ops.toList []) (ordD ops.toList) [] fr μ fun fr μ => k .normal fr μ) none)
      (opsW P call f ops.toList ops.toList fr μ fun fr μ => k .normal fr μ)
  | .loop c, fr, μ, k =>
    (match Code.rid c with
    | none => none
    | some i => packW fr (P.E.keep f i).2 (P.E.keep f i).1 fun xs => tdy (P.td f i) base xs μ fun μ =>
      iterD (fun rec xs μ => dN (sizeK (P.E.keep f i).2 (P.E.keep f i).1) xs fun l =>
        ew P N call f base c (unpackW fr.n (P.E.keep f i).2 (P.E.keep f i).1 l) μ fun
          | .normal, fr, μ => packW fr (P.E.keep f i).2 (P.E.keep f i).1 fun xs => tdy (P.td f i) base xs μ fun μ => rec xs μ
          | e, fr, μ => k e fr μ) N xs μ)
  | _, _, _, _ => none

def resW (P : PEnv) (fr : DFr) (μ : PH) : List ResultVar → (List DV → PH → Option α) → Option α
  | [], k => k [] μ
  | .tmp t :: r, k => (match look fr.tmps t with
    | some (some (.val v)) => resW P fr μ r fun l μ => k (v :: l) μ
    | _ => none)
  | .cell a T :: r, k => (match P.E.ti T, look fr.tmps a with
    | some ti, some (some (.reg t off)) => (match look fr.regs t with
      | some cs => rdD cs off ti.size ti.agg fun v => resW P fr μ r fun l μ => k (v :: l) μ
      | none => none)
    | some ti, some (some (.val p)) => (qLd μ ti.size ti.agg p).bind fun q => resW P fr q.2 r fun l μ => k (q.1 :: l) μ
    | _, _ => none)
end

def argsD : Nat → List DV → List (Nat × Option DF)
  | _, [] => []
  | i, v :: r => (i, some (.val v)) :: argsD (i + 1) r

/-- a clone of an empty slice, nil or not -/
def hk (z : Nat) (args : List DV) (μ : PH) (k : Option (List DV × PH)) : Option (List DV × PH) :=
  match args with
  | [.sl sh []] => cond (Nat.beq sh.length z) (some ([.e0 z], μ)) k
  | _ => k
def bodyW (P : PEnv) (N : Nat) (call : CW) (f : Nat) (args : List DV) (μ : PH) : Option (List DV × PH) :=
  match P.E.fn f with
  | none => none
  | some fn => match fn.body with
    | none => none
    | some c => cond (Nat.ble args.length fn.ntmps)
        (ew P N call f μ.length c ⟨fn.ntmps, argsD 0 args, []⟩ μ fun
          | .exit _, _, _ => none
          | _, fr, μ => resW P fr μ fn.results.toList fun vs μ => some (vs, μ)) none
def qfn (P : PEnv) (N : Nat) : Nat → Nat → List DV → PH → Option (List DV × PH)
  | 0, _, _, _ => none
  | n + 1, f, args, μ => cond (Nat.beq (P.cl f) 0) (bodyW P N (qfn P N n) f args μ) (hk (P.cl f) args μ (bodyW P N (qfn P N n) f args μ))
end Go.Lg.Pv
namespace Go.Lg.Pv
open Go Go.Lg
set_option linter.unusedVariables false
set_option linter.unnecessarySimpa false
set_option linter.unusedSimpArgs false
set_option linter.unusedSectionVars false

mutual
/-- a closed value, with the blocks that it leads to -/
inductive RV (σ : LH) : DV → Value → List Nat → Prop where
  | int (k : IntKind) (n : Int) : RV σ (.int k n) (.int k n) []
  | bool (b : Bool) : RV σ (.bool b) (.bool b) []
  | str (s : ByteArray) : RV σ (.str s) (.string s) []
  | nilF : RV σ .nilF .nilFunc []
  | nilI : RV σ .nilI .nilIface []
  | nilP : RV σ .nilP (.pointer none) []
  | nil : RV σ .nil (.slice none 0 0) []
  | e0N (z : Nat) : RV σ (.e0 z) (.slice none 0 0) []
  | e0 (z b o : Nat) : RV σ (.e0 z) (.slice (some ⟨b, o, some z⟩) 0 1) []
  | dead (v : Value) : one v = true → RV σ .dead v []
  | slN (sh : List Sh) : RV σ (.sl sh []) (.slice none 0 0) []
  | slE (sh : List Sh) (b o : Nat) : RV σ (.sl sh []) (.slice (some ⟨b, o, some sh.length⟩) 0 1) []
  | sl (sh : List Sh) (l : List DV) (b o c : Nat) (blk : Blk) (Fs : Nat → List Nat) : σ.mem b = some blk → l.length ≤ c / 2 → o + l.length * sh.length ≤ blk.cells.length → (blk.wr = true → o + c / 2 * sh.length ≤ blk.cells.length) →
      (∀ i e, l[i]? = some e → RVs σ (cellsD e) (cellsAt (blk.cells.drop o) sh.length i) (Fs i)) →
      RV σ (.sl sh l) (.slice (some ⟨b, o, some sh.length⟩) l.length c) (b :: (List.range l.length).flatMap Fs)
  | rp (e : DV) (off b o : Nat) (blk : Blk) (F : List Nat) : σ.mem b = some blk → o + (cellsD e).length ≤ blk.cells.length →
      RVs σ (cellsD e) ((blk.cells.drop o).take (cellsD e).length) F → RV σ (.rp e off) (.pointer (some ⟨b, o + off, none⟩)) (b :: F)
  | fn (f : Nat) (a b : List DV) (a' b' : List Value) (F G : List Nat) : RVs σ a a' F → RVs σ b b' G → RV σ (.fn f a b) (.func (.func f) a'.toArray b'.toArray) (F ++ G)
  | agg (l : List DV) (l' : List Value) (F : List Nat) : RVs σ l l' F → RV σ (.agg l) (.agg l'.toArray) F
inductive RVs (σ : LH) : List DV → List Value → List Nat → Prop where
  | nil : RVs σ [] [] []
  | cons {v : DV} {x : Value} {F : List Nat} {l : List DV} {l' : List Value} {G : List Nat} : RV σ v x F → RVs σ l l' G → RVs σ (v :: l) (x :: l') (F ++ G)
end

/-- the state of memory: the heap, what is frozen, own blocks, where they lie, and all that each one owns -/
structure St where
  σ : LH
  Z : Nat → Prop
  μ : PH
  ι : Nat → Option (Nat × Nat)
  Fm : Nat → List Nat

/-- how long a row is -/
def lenOf (σ : LH) (b : Nat) : Nat := match σ.mem b with | some lb => lb.cells.length | none => 0
def OwnR (S : St) (blk : PB) (id o n c : Nat) (x : Bool) (v : Value) : Prop :=
  (n = 0 ∧ o = 0 ∧ c = 0 ∧ (v = .slice none 0 0 ∨ ∃ b' o', v = .slice (some ⟨b', o', some blk.sh.length⟩) 0 1)) ∨
  ∃ b lo cc, S.ι id = some (b, lo) ∧ v = .slice (some ⟨b, lo + o * blk.sh.length, some blk.sh.length⟩) n cc ∧ n ≤ c ∧ c ≤ cc / 2 ∧ o + c ≤ blk.el.length ∧ (x = true → cc = 2 * c + 1) ∧ lo + o * blk.sh.length + cc / 2 * blk.sh.length ≤ lenOf S.σ b
def PtrR (S : St) (blk : PB) (id i off : Nat) (v : Value) : Prop :=
  ∃ b lo, S.ι id = some (b, lo) ∧ v = .pointer (some ⟨b, lo + i * blk.sh.length + off, none⟩)

mutual
/-- a value of a frame -/
inductive TV (S : St) : DV → Value → Prop where
  | int (k : IntKind) (n : Int) : TV S (.int k n) (.int k n)
  | bool (b : Bool) : TV S (.bool b) (.bool b)
  | str (s : ByteArray) : TV S (.str s) (.string s)
  | nilF : TV S .nilF .nilFunc
  | nilI : TV S .nilI .nilIface
  | nilP : TV S .nilP (.pointer none)
  | nil : TV S .nil (.slice none 0 0)
  | e0N (z : Nat) : TV S (.e0 z) (.slice none 0 0)
  | e0 (z b o : Nat) : TV S (.e0 z) (.slice (some ⟨b, o, some z⟩) 0 1)
  | dead (v : Value) : one v = true → TV S .dead v
  | slN (sh : List Sh) : TV S (.sl sh []) (.slice none 0 0)
  | slE (sh : List Sh) (b o : Nat) : TV S (.sl sh []) (.slice (some ⟨b, o, some sh.length⟩) 0 1)
  | sl (sh : List Sh) (l : List DV) (b o c : Nat) (blk : Blk) : S.Z b → S.σ.mem b = some blk → l.length ≤ c / 2 → o + l.length * sh.length ≤ blk.cells.length → (blk.wr = true → o + c / 2 * sh.length ≤ blk.cells.length) →
      (∀ i e, l[i]? = some e → TVs S (cellsD e) (cellsAt (blk.cells.drop o) sh.length i)) → TV S (.sl sh l) (.slice (some ⟨b, o, some sh.length⟩) l.length c)
  | rp (e : DV) (off b o : Nat) (blk : Blk) : S.Z b → S.σ.mem b = some blk → o + (cellsD e).length ≤ blk.cells.length →
      TVs S (cellsD e) ((blk.cells.drop o).take (cellsD e).length) → TV S (.rp e off) (.pointer (some ⟨b, o + off, none⟩))
  | fn (f : Nat) (a b : List DV) (a' b' : List Value) : TVs S a a' → TVs S b b' → TV S (.fn f a b) (.func (.func f) a'.toArray b'.toArray)
  | agg (l : List DV) (l' : List Value) : TVs S l l' → TV S (.agg l) (.agg l'.toArray)
  | own (id ver o n c : Nat) (x : Bool) (v : Value) : (∃ b, S.μ[id]? = some b ∧ ver ≤ b.ver) → one v = true → (∀ blk, bk S.μ id ver = some blk → OwnR S blk id o n c x v) → TV S (.own id ver o n c x) v
  | ptr (id ver i off : Nat) (v : Value) : (∃ b, S.μ[id]? = some b ∧ ver ≤ b.ver) → one v = true → (∀ blk, bk S.μ id ver = some blk → PtrR S blk id i off v) → TV S (.ptr id ver i off) v
inductive TVs (S : St) : List DV → List Value → Prop where
  | nil : TVs S [] []
  | cons {v : DV} {x : Value} {l : List DV} {l' : List Value} : TV S v x → TVs S l l' → TVs S (v :: l) (x :: l')
end

def isOwn : DV → Bool | .own .. => true | _ => false
/-- a cell of a block -/
inductive CV (S : St) (op : Bool) : DV → Value → List Nat → Prop where
  | rv {v : DV} {x : Value} {F : List Nat} : op = false → RV S.σ v x F → CV S op v x F
  | tv {v : DV} {x : Value} : (op = true ∨ isOwn v = true) → TV S v x → CV S op v x []
inductive CVs (S : St) (op : Bool) : List DV → List Value → List Nat → Prop where
  | nil : CVs S op [] [] []
  | cons {v : DV} {x : Value} {F : List Nat} {l : List DV} {l' : List Value} {G : List Nat} : CV S op v x F → CVs S op l l' G → CVs S op (v :: l) (x :: l') (F ++ G)

/-- an own block in the heap -/
inductive HB (S : St) (id : Nat) (blk : PB) : List Nat → Prop where
  | none : S.ι id = none → blk.el = [] → HB S id blk []
  | some (b lo : Nat) (lb : Blk) (Fs : Nat → List Nat) : S.ι id = some (b, lo) → S.σ.mem b = some lb → lb.wr = true → lo + blk.el.length * blk.sh.length ≤ lb.cells.length →
      (∀ i e, blk.el[i]? = some e → CVs S blk.op (cellsD e) (cellsAt (lb.cells.drop lo) blk.sh.length i) (Fs i)) → HB S id blk (b :: (List.range blk.el.length).flatMap Fs)

structure HOk (S : St) : Prop where
  hb : ∀ id blk, S.μ[id]? = some blk → blk.live = true → HB S id blk (S.Fm id)
  nd : ∀ id blk, S.μ[id]? = some blk → blk.live = true → (S.Fm id).Nodup
  nz : ∀ id blk, S.μ[id]? = some blk → blk.live = true → ∀ b ∈ S.Fm id, ¬ S.Z b
  wr : ∀ id blk, S.μ[id]? = some blk → blk.live = true → ∀ b ∈ S.Fm id, ∃ lb, S.σ.mem b = some lb ∧ lb.wr = true
  dj : ∀ id id' blk blk', S.μ[id]? = some blk → blk.live = true → S.μ[id']? = some blk' → blk'.live = true → id ≠ id' → ∀ b ∈ S.Fm id, b ∉ S.Fm id'
  zl : ∀ b, S.Z b → b < S.σ.next
  md : MD S.σ

/-- a block of the logical heap that an own block owns -/
def foot (S : St) (b : Nat) : Prop := ∃ id blk, S.μ[id]? = some blk ∧ blk.live = true ∧ b ∈ S.Fm id

/-- an own block lies where it lay -/
def SameAt (S S' : St) (id : Nat) : Prop := S'.ι id = S.ι id ∧ ∀ b lo, S.ι id = some (b, lo) → lenOf S'.σ b = lenOf S.σ b
theorem SameAt.refl (S : St) (id : Nat) : SameAt S S id := ⟨rfl, fun _ _ _ => rfl⟩
theorem SameAt.trans {A B C : St} {id : Nat} (h : SameAt A B id) (k : SameAt B C id) : SameAt A C id := ⟨k.1.trans h.1, fun b lo hb => (k.2 b lo (h.1.trans hb)).trans (h.2 b lo hb)⟩
/-- outside of an own part a row stays -/
def SegOk (σ σ' : LH) (b lo hi : Nat) : Prop := ∀ lb, σ.mem b = some lb → ∃ lb', σ'.mem b = some lb' ∧ lb'.wr = lb.wr ∧ lb'.cells.length = lb.cells.length ∧ ∀ j, (j < lo ∨ hi ≤ j) → lb'.cells[j]? = lb.cells[j]?

/-- G: what may change -/
structure LaterG (G : Nat → Prop) (S S' : St) : Prop where
  nx : S.σ.next ≤ S'.σ.next
  z : ∀ b, S.Z b → S'.Z b
  zn : ∀ b, S'.Z b → S.Z b ∨ G b ∨ S.σ.next ≤ b
  fr : ∀ b, b < S.σ.next → ¬ G b → S'.σ.mem b = S.σ.mem b
  len : S.μ.length ≤ S'.μ.length
  lv : ∀ (id : Nat) (b : PB), S.μ[id]? = some b → ∃ b', S'.μ[id]? = some b' ∧ b.ver ≤ b'.ver ∧ (b'.ver = b.ver → b'.live = true → b.live = true ∧ SameAt S S' id ∧ b'.sh = b.sh ∧ b'.el.length = b.el.length ∧ b'.op = b.op ∧ b'.whole = b.whole)
  sg : ∀ id blk, S.μ[id]? = some blk → blk.live = true → blk.whole = false → ∃ blk', S'.μ[id]? = some blk' ∧ blk'.live = true ∧ blk'.ver = blk.ver ∧
    ∀ b lo, S.ι id = some (b, lo) → SegOk S.σ S'.σ b lo (lo + blk.el.length * blk.sh.length)
  ft : ∀ b, foot S' b → G b ∨ S.σ.next ≤ b
abbrev Later (S S' : St) : Prop := LaterG (foot S) S S'

theorem SegOk.refl (σ : LH) (b lo hi : Nat) : SegOk σ σ b lo hi := fun lb h => ⟨lb, h, rfl, rfl, fun _ _ => rfl⟩
theorem SegOk.trans {a b c : LH} {k lo hi : Nat} (h : SegOk a b k lo hi) (g : SegOk b c k lo hi) : SegOk a c k lo hi := fun lb hl => by
  obtain ⟨l1, h1, h2, h3, h4⟩ := h lb hl
  obtain ⟨l2, g1, g2, g3, g4⟩ := g l1 h1
  exact ⟨l2, g1, g2.trans h2, g3.trans h3, fun j hj => (g4 j hj).trans (h4 j hj)⟩

theorem bk_some {μ : PH} {id ver : Nat} {blk : PB} (h : bk μ id ver = some blk) : μ[id]? = some blk ∧ blk.live = true ∧ blk.ver = ver := by
  unfold bk at h
  split at h
  · rename_i b hb
    split at h
    · rename_i hc; cases h; exact ⟨hb, hc⟩
    · cases h
  · cases h
theorem bk_of {μ : PH} {id : Nat} {blk : PB} (h : μ[id]? = some blk) (hl : blk.live = true) : bk μ id blk.ver = some blk := by
  unfold bk; rw [h]; simp [hl]
theorem bk_lt {μ : PH} {id ver : Nat} {blk : PB} (h : bk μ id ver = some blk) : id < μ.length := (List.getElem?_eq_some_iff.1 (bk_some h).1).1

theorem Later.refl (S : St) : Later S S :=
  ⟨Nat.le_refl _, fun _ h => h, fun _ h => .inl h, fun _ _ _ => rfl, Nat.le_refl _, fun id b h => ⟨b, h, Nat.le_refl _, fun _ hl => ⟨hl, SameAt.refl _ _, rfl, rfl, rfl, rfl⟩⟩, fun id blk h hl _ => ⟨blk, h, hl, rfl, fun _ _ _ => SegOk.refl _ _ _ _⟩, fun b h => .inl h⟩

theorem LaterG.mono {G G' : Nat → Prop} {A B : St} (h : LaterG G A B) (hg : ∀ b, G b → G' b ∨ A.σ.next ≤ b) : LaterG G' A B :=
  ⟨h.nx, h.z, fun b hb => by
    rcases h.zn b hb with h1 | h1 | h1
    · exact .inl h1
    · rcases hg b h1 with h2 | h2
      · exact .inr (.inl h2)
      · exact .inr (.inr h2)
    · exact .inr (.inr h1), fun b hb hn => h.fr b hb fun hh => (hg b hh).elim hn (fun h2 => by omega), h.len, h.lv, h.sg, fun b hb => by
    rcases h.ft b hb with h1 | h1
    · exact hg b h1
    · exact .inr h1⟩
theorem LaterG.trans {G G' : Nat → Prop} {A B C : St} (h : LaterG G A B) (g : LaterG G' B C) (hg : ∀ b, G' b → G b ∨ A.σ.next ≤ b) : LaterG G A C := by
  refine ⟨Nat.le_trans h.nx g.nx, fun b hb => g.z b (h.z b hb), fun b hb => ?_, fun b hb hf => ?_, Nat.le_trans h.len g.len, fun id b hb => ?_, fun id blk hb hl hw => ?_, fun b hb => ?_⟩
  · rcases g.zn b hb with h1 | h1 | h1
    · exact h.zn b h1
    · rcases hg b h1 with h2 | h2
      · exact .inr (.inl h2)
      · exact .inr (.inr h2)
    · exact .inr (.inr (Nat.le_trans h.nx h1))
  · rw [g.fr b (Nat.lt_of_lt_of_le hb h.nx) (fun hh => (hg b hh).elim hf (fun hn => by omega)), h.fr b hb hf]
  · obtain ⟨b1, h1, h2, h3⟩ := h.lv id b hb
    obtain ⟨b2, k1, k2, k3⟩ := g.lv id b1 h1
    refine ⟨b2, k1, Nat.le_trans h2 k2, fun hv hl => ?_⟩
    obtain ⟨e1, e2, e3, e4, e5, e6⟩ := k3 (by omega) hl
    obtain ⟨f1, f2, f3, f4, f5, f6⟩ := h3 (by omega) e1
    exact ⟨f1, f2.trans e2, e3.trans f3, e4.trans f4, e5.trans f5, e6.trans f6⟩
  · obtain ⟨b1, h1, h2, h3, h4⟩ := h.sg id blk hb hl hw
    obtain ⟨b1', k0, _, k1⟩ := h.lv id blk hb
    rw [h1] at k0; cases k0
    obtain ⟨_, k2, k3, k4, k5, k6⟩ := k1 h3 h2
    obtain ⟨b2, g1, g2, g3, g4⟩ := g.sg id b1 h1 h2 (k6.trans hw)
    refine ⟨b2, g1, g2, g3.trans h3, fun b lo hi => (h4 b lo hi).trans ?_⟩
    rw [← k4, ← k3]; exact g4 b lo (k2.1.trans hi)
  · rcases g.ft b hb with h1 | h1
    · exact hg b h1
    · exact .inr (Nat.le_trans h.nx h1)
theorem Later.trans {A B C : St} (h : Later A B) (g : Later B C) : Later A C := LaterG.trans h g h.ft

/-! ## values that stay -/
theorem RV.mem {σ : LH} {v : DV} {x : Value} {F : List Nat} (h : RV σ v x F) : ∀ b ∈ F, ∃ blk, σ.mem b = some blk := by
  refine RV.rec (motive_1 := fun v x F _ => ∀ b ∈ F, ∃ blk, σ.mem b = some blk) (motive_2 := fun l l' F _ => ∀ b ∈ F, ∃ blk, σ.mem b = some blk)
    ?_ ?_ ?_ ?_ ?_ ?_ ?_ ?_ ?_ ?_ ?_ ?_ ?_ ?_ ?_ ?_ ?_ ?_ h
  all_goals try (intros; rename_i hb; cases hb; done)
  · intro sh l b o c blk Fs h1 h2 h3 h3' h4 ih k hk
    cases hk with
    | head => exact ⟨_, h1⟩
    | tail _ hk =>
      obtain ⟨i, hi, hki⟩ := List.mem_flatMap.1 hk
      exact ih i _ (List.getElem?_eq_getElem (List.mem_range.1 hi)) k hki
  · intro e off b o blk F h1 h2 h3 ih k hk
    cases hk with
    | head => exact ⟨_, h1⟩
    | tail _ hk => exact ih k hk
  · intro f a b a' b' F G h1 h2 ih1 ih2 k hk
    exact (List.mem_append.1 hk).elim (ih1 k) (ih2 k)
  · intro l l' F h ih k hk; exact ih k hk
  · intro v x F l l' G h1 h2 ih1 ih2 k hk
    exact (List.mem_append.1 hk).elim (ih1 k) (ih2 k)

theorem RV.keep {σ σ' : LH} {v : DV} {x : Value} {F : List Nat} (h : RV σ v x F) : (∀ b ∈ F, σ'.mem b = σ.mem b) → RV σ' v x F := by
  refine RV.rec (motive_1 := fun v x F _ => (∀ b ∈ F, σ'.mem b = σ.mem b) → RV σ' v x F) (motive_2 := fun l l' F _ => (∀ b ∈ F, σ'.mem b = σ.mem b) → RVs σ' l l' F)
    ?_ ?_ ?_ ?_ ?_ ?_ ?_ ?_ ?_ ?_ ?_ ?_ ?_ ?_ ?_ ?_ ?_ ?_ h
  all_goals try (intros; constructor; done)
  · intro v h _; exact .dead v h
  · intro sh l b o c blk Fs h1 h2 h3 h3' h4 ih hs
    refine .sl sh l b o c blk Fs (by rw [hs b (.head _)]; exact h1) h2 h3 h3' fun i e he => ih i e he fun k hk => hs k (.tail _ (List.mem_flatMap.2 ⟨i, ?_, hk⟩))
    exact List.mem_range.2 (List.getElem?_eq_some_iff.1 he).1
  · intro e off b o blk F h1 h2 h3 ih hs
    exact .rp e off b o blk F (by rw [hs b (.head _)]; exact h1) h2 (ih fun k hk => hs k (.tail _ hk))
  · intro f a b a' b' F G h1 h2 ih1 ih2 hs
    exact .fn f a b a' b' F G (ih1 fun k hk => hs k (List.mem_append_left _ hk)) (ih2 fun k hk => hs k (List.mem_append_right _ hk))
  · intro l l' F h ih hs; exact .agg l l' F (ih hs)
  · intro v x F l l' G h1 h2 ih1 ih2 hs
    exact .cons (ih1 fun k hk => hs k (List.mem_append_left _ hk)) (ih2 fun k hk => hs k (List.mem_append_right _ hk))

theorem RVs.keep {σ σ' : LH} {l : List DV} {l' : List Value} {F : List Nat} (h : RVs σ l l' F) (hs : ∀ b ∈ F, σ'.mem b = σ.mem b) : RVs σ' l l' F := by
  have := RV.keep (.agg l l' F h) hs
  cases this with
  | agg _ l2 _ h => exact h

/-- what is closed and frozen is a frame's value -/
theorem RV.tv {S : St} {v : DV} {x : Value} {F : List Nat} (h : RV S.σ v x F) : (∀ b ∈ F, S.Z b) → TV S v x := by
  refine RV.rec (motive_1 := fun v x F _ => (∀ b ∈ F, S.Z b) → TV S v x) (motive_2 := fun l l' F _ => (∀ b ∈ F, S.Z b) → TVs S l l')
    ?_ ?_ ?_ ?_ ?_ ?_ ?_ ?_ ?_ ?_ ?_ ?_ ?_ ?_ ?_ ?_ ?_ ?_ h
  all_goals try (intros; constructor; done)
  · intro v h _; exact .dead v h
  · intro sh l b o c blk Fs h1 h2 h3 h3' h4 ih hs
    refine .sl sh l b o c blk (hs b (.head _)) h1 h2 h3 h3' fun i e he => ih i e he fun k hk => hs k (.tail _ (List.mem_flatMap.2 ⟨i, ?_, hk⟩))
    exact List.mem_range.2 (List.getElem?_eq_some_iff.1 he).1
  · intro e off b o blk F h1 h2 h3 ih hs
    exact .rp e off b o blk (hs b (.head _)) h1 h2 (ih fun k hk => hs k (.tail _ hk))
  · intro f a b a' b' F G h1 h2 ih1 ih2 hs
    exact .fn f a b a' b' (ih1 fun k hk => hs k (List.mem_append_left _ hk)) (ih2 fun k hk => hs k (List.mem_append_right _ hk))
  · intro l l' F h ih hs; exact .agg l l' (ih hs)
  · intro v x F l l' G h1 h2 ih1 ih2 hs
    exact .cons (ih1 fun k hk => hs k (List.mem_append_left _ hk)) (ih2 fun k hk => hs k (List.mem_append_right _ hk))

/-- what frames hold stays, when: the frozen stays, own blocks that live are where they were -/
theorem TV.mono {S S' : St} (hlt : ∀ b, S.Z b → S'.Z b ∧ S'.σ.mem b = S.σ.mem b)
    (hlv : ∀ (id : Nat) (b : PB), S.μ[id]? = some b → ∃ b', S'.μ[id]? = some b' ∧ b.ver ≤ b'.ver ∧ (b'.ver = b.ver → b'.live = true → b.live = true ∧ SameAt S S' id ∧ b'.sh = b.sh ∧ b'.el.length = b.el.length))
    {v : DV} {x : Value} (h : TV S v x) : TV S' v x := by
  refine TV.rec (motive_1 := fun v x _ => TV S' v x) (motive_2 := fun l l' _ => TVs S' l l') ?_ ?_ ?_ ?_ ?_ ?_ ?_ ?_ ?_ ?_ ?_ ?_ ?_ ?_ ?_ ?_ ?_ ?_ ?_ ?_ h
  all_goals try (intros; constructor; done)
  · intro v h; exact .dead v h
  · intro sh l b o c blk h0 h1 h2 h3 h3' h4 ih
    exact .sl sh l b o c blk (hlt b h0).1 (by rw [(hlt b h0).2]; exact h1) h2 h3 h3' ih
  · intro e off b o blk h0 h1 h2 h3 ih
    exact .rp e off b o blk (hlt b h0).1 (by rw [(hlt b h0).2]; exact h1) h2 ih
  · intro f a b a' b' h1 h2 ih1 ih2; exact .fn f a b a' b' ih1 ih2
  · intro l l' h ih; exact .agg l l' ih
  · rintro id ver o n c x v ⟨b0, h1, h1'⟩ h2 h3
    obtain ⟨b1, k1, k2, k3⟩ := hlv id b0 h1
    refine .own id ver o n c x v ⟨b1, k1, by omega⟩ h2 fun blk hk => ?_
    obtain ⟨e1, e2, e3⟩ := bk_some hk
    rw [k1] at e1; cases e1
    obtain ⟨f1, f2, f3, f4⟩ := k3 (by omega) e2
    have := h3 b0 (by have := bk_of h1 f1; rw [show ver = b0.ver by omega]; exact this)
    unfold OwnR at this ⊢
    rw [f3, f4, f2.1]
    rcases this with h | ⟨b, lo, cc, q1, q2, q3, q4, q5, q6, q7⟩
    · exact .inl h
    · exact .inr ⟨b, lo, cc, q1, q2, q3, q4, q5, q6, by rw [f2.2 b lo q1]; exact q7⟩
  · rintro id ver i off v ⟨b0, h1, h1'⟩ h2 h3
    obtain ⟨b1, k1, k2, k3⟩ := hlv id b0 h1
    refine .ptr id ver i off v ⟨b1, k1, by omega⟩ h2 fun blk hk => ?_
    obtain ⟨e1, e2, e3⟩ := bk_some hk
    rw [k1] at e1; cases e1
    obtain ⟨f1, f2, f3, f4⟩ := k3 (by omega) e2
    have := h3 b0 (by have := bk_of h1 f1; rw [show ver = b0.ver by omega]; exact this)
    unfold PtrR at this ⊢
    rw [f3, f2.1]; exact this
  · intro v x l l' h1 h2 ih1 ih2; exact .cons ih1 ih2

theorem TV.laterG {G : Nat → Prop} {S S' : St} (hL : LaterG G S S') (hG : ∀ b, S.Z b → b < S.σ.next ∧ ¬ G b) {v : DV} {x : Value} (h : TV S v x) : TV S' v x :=
  h.mono (fun b hb => ⟨hL.z b hb, hL.fr b (hG b hb).1 (hG b hb).2⟩) fun id b hb => by
    obtain ⟨b', h1, h2, h3⟩ := hL.lv id b hb
    exact ⟨b', h1, h2, fun hv hl => by obtain ⟨e1, e2, e3, e4, _⟩ := h3 hv hl; exact ⟨e1, e2, e3, e4⟩⟩
theorem HOk.zg {S : St} (hS : HOk S) : ∀ b, S.Z b → b < S.σ.next ∧ ¬ foot S b := fun b hb => ⟨hS.zl b hb, fun ⟨id, blk, h1, h2, h3⟩ => hS.nz id blk h1 h2 b h3 hb⟩
theorem TV.later {S S' : St} (hL : Later S S') (hS : HOk S) {v : DV} {x : Value} (h : TV S v x) : TV S' v x := h.laterG hL hS.zg
theorem TVs.laterG {G : Nat → Prop} {S S' : St} (hL : LaterG G S S') (hG : ∀ b, S.Z b → b < S.σ.next ∧ ¬ G b) {l : List DV} {l' : List Value} (h : TVs S l l') : TVs S' l l' := by
  have := TV.laterG hL hG (.agg l l' h)
  cases this with
  | agg _ _ h => exact h
theorem TVs.later {S S' : St} (hL : Later S S') (hS : HOk S) {l : List DV} {l' : List Value} (h : TVs S l l') : TVs S' l l' := h.laterG hL hS.zg
end Go.Lg.Pv
namespace Go.Lg.Pv
open Go Go.Lg
set_option linter.unusedVariables false
set_option linter.unnecessarySimpa false
set_option linter.unusedSimpArgs false
set_option linter.unusedSectionVars false

section
variable {S : St}

theorem TVs.len {l : List DV} {l' : List Value} (h : TVs S l l') : l.length = l'.length := by
  induction l generalizing l' with
  | nil => cases h; rfl
  | cons v l ih => cases h with | cons _ h => simp [ih h]
theorem TVs.get {l : List DV} {l' : List Value} (h : TVs S l l') : ∀ {i : Nat} {v : DV}, l[i]? = some v → ∃ x, l'[i]? = some x ∧ TV S v x := by
  induction l generalizing l' with
  | nil => intro i v hi; simp at hi
  | cons v l ih =>
    cases h with
    | cons h1 h2 =>
      intro i w hi
      cases i with
      | zero => simp at hi; subst hi; exact ⟨_, rfl, h1⟩
      | succ i => simpa using ih h2 (by simpa using hi)
theorem TVs.append {a b : List DV} {a' b' : List Value} (h : TVs S a a') (k : TVs S b b') : TVs S (a ++ b) (a' ++ b') := by
  induction a generalizing a' with
  | nil => cases h; exact k
  | cons v l ih => cases h with | cons h1 h2 => exact .cons h1 (ih h2)
theorem TVs.take {l : List DV} {l' : List Value} (h : TVs S l l') (n : Nat) : TVs S (l.take n) (l'.take n) := by
  induction l generalizing l' n with
  | nil => cases h; simp; exact .nil
  | cons v l ih => cases h with | cons h1 h2 => cases n with | zero => exact .nil | succ n => exact .cons h1 (ih h2 n)
theorem TVs.drop {l : List DV} {l' : List Value} (h : TVs S l l') (n : Nat) : TVs S (l.drop n) (l'.drop n) := by
  induction l generalizing l' n with
  | nil => cases h; simp; exact .nil
  | cons v l ih => cases h with | cons h1 h2 => cases n with | zero => exact .cons h1 h2 | succ n => exact ih h2 n
theorem TVs.over {l vs : List DV} {l' vs' : List Value} (h : TVs S l l') (k : TVs S vs vs') (off : Nat) : TVs S (overD l off vs) (Lg.over l' off vs') := by
  unfold overD Lg.over
  rw [← k.len]
  exact ((h.take off).append k).append (h.drop _)
theorem TVs.of_get {l : List DV} {l' : List Value} (hl : l.length = l'.length) (h : ∀ (i : Nat) v x, l[i]? = some v → l'[i]? = some x → TV S v x) : TVs S l l' := by
  induction l generalizing l' with
  | nil => cases l' with | nil => exact .nil | cons => cases hl
  | cons v l ih =>
    cases l' with
    | nil => cases hl
    | cons x l' => exact .cons (h 0 v x rfl rfl) (ih (by simpa using hl) fun i u y hu hy => h (i + 1) u y (by simpa using hu) (by simpa using hy))

theorem RVs.len {σ : LH} {l : List DV} {l' : List Value} {F : List Nat} (h : RVs σ l l' F) : l.length = l'.length := by
  induction l generalizing l' F with
  | nil => cases h; rfl
  | cons v l ih => cases h with | cons _ h => simp [ih h]
theorem CVs.len {op : Bool} {l : List DV} {l' : List Value} {F : List Nat} (h : CVs S op l l' F) : l.length = l'.length := by
  induction l generalizing l' F with
  | nil => cases h; rfl
  | cons v l ih => cases h with | cons _ h => simp [ih h]

theorem TV.agg_inv {l : List DV} {x : Value} (h : TV S (.agg l) x) : ∃ l', x = .agg l'.toArray ∧ TVs S l l' := by
  cases h with | agg _ l' h => exact ⟨l', rfl, h⟩
theorem one_cells {v : Value} (h : Lg.one v = true) : v.cells = #[v] := by cases v <;> first | rfl | simp [Lg.one] at h
theorem TV.cells {v : DV} {x : Value} (h : TV S v x) : TVs S (cellsD v) x.cells.toList := by
  cases h with
  | agg l l' h => simpa [cellsD, Value.cells] using h
  | own id ver o n c x _ h1 h2 h3 => rw [one_cells h2]; exact .cons (.own id ver o n c x _ h1 h2 h3) .nil
  | ptr id ver i off _ h1 h2 h3 => rw [one_cells h2]; exact .cons (.ptr id ver i off _ h1 h2 h3) .nil
  | int k n => exact .cons (.int k n) .nil
  | bool b => exact .cons (.bool b) .nil
  | str s => exact .cons (.str s) .nil
  | nilF => exact .cons .nilF .nil
  | nilI => exact .cons .nilI .nil
  | nilP => exact .cons .nilP .nil
  | nil => exact .cons .nil .nil
  | e0N z => exact .cons (.e0N z) .nil
  | e0 z b o => exact .cons (.e0 z b o) .nil
  | dead _ h => rw [one_cells h]; exact .cons (.dead _ h) .nil
  | slN sh => exact .cons (.slN sh) .nil
  | slE sh b o => exact .cons (.slE sh b o) .nil
  | sl sh l b o c blk h0 h1 h2 h3 h3' h4 => exact .cons (.sl sh l b o c blk h0 h1 h2 h3 h3' h4) .nil
  | rp e off b o blk h0 h1 h2 h3 => exact .cons (.rp e off b o blk h0 h1 h2 h3) .nil
  | fn f a b a' b' h1 h2 => exact .cons (.fn f a b a' b' h1 h2) .nil
/-- a value of one cell is none of several -/
theorem TV.one {v : DV} {x : Value} (h : TV S v x) (hv : ∀ l, v ≠ .agg l) : Lg.one x = true := by
  cases h <;> first | rfl | assumption | exact absurd rfl (hv _)
theorem TV.s1 {v : DV} {x : Value} (h : TV S v x) {α β : Type} {k : Option α} {res : α} (hk : Pv.s1 v k = some res) : k = some res ∧ (∀ k' : Option β, sc1 x k' = k') ∧ (∀ l, v ≠ .agg l) := by
  have hv : ∀ l, v ≠ .agg l := fun l he => by subst he; cases hk
  have h1 := h.one hv
  refine ⟨?_, fun k' => ?_, hv⟩
  · cases v <;> first | exact hk | exact absurd rfl (hv _)
  · cases x <;> first | rfl | simp [Lg.one] at h1

theorem dN_some {α : Type} {res : α} : ∀ {n : Nat} {l : List DV} {k : List DV → Option α}, dN n l k = some res → l.length = n ∧ k l = some res
  | 0, [], k, h => ⟨rfl, h⟩
  | 0, _ :: _, k, h => by cases h
  | n + 1, [], k, h => by cases h
  | n + 1, v :: l, k, h => by
    obtain ⟨h1, h2⟩ := dN_some (n := n) (l := l) (k := fun l => k (v :: l)) h
    exact ⟨by simp [h1], h2⟩
theorem unN_of {α : Type} : ∀ {n : Nat} {l : List Value} {k : List Value → Option α}, l.length = n → unN n l k = k l
  | 0, [], k, h => rfl
  | 0, _ :: _, k, h => by cases h
  | n + 1, [], k, h => by cases h
  | n + 1, v :: l, k, h => unN_of (n := n) (l := l) (k := fun l => k (v :: l)) (by simpa using h)
theorem TV.dC {v : DV} {x : Value} (h : TV S v x) {α : Type} {agg : Bool} {n : Nat} {k : List DV → Option α} {res : α} (hk : Pv.dC agg n v k = some res) :
    ∃ cs', k (cellsD v) = some res ∧ TVs S (cellsD v) cs' ∧ (agg = true → (cellsD v).length = n) ∧ (agg = false → (cellsD v).length = 1) ∧ (∀ {β : Type} (k' : List Value → Option β), unC agg n x k' = k' cs') ∧ (agg = true → ∃ l, v = .agg l) ∧ (agg = false → ∀ l, v ≠ .agg l) := by
  unfold Pv.dC at hk
  cases agg with
  | true =>
    simp only [cond_true] at hk
    split at hk
    · rename_i cs
      obtain ⟨l', rfl, hl⟩ := h.agg_inv
      obtain ⟨h1, h2⟩ := dN_some hk
      refine ⟨l', h2, hl, fun _ => h1, nofun, fun k' => ?_, fun _ => ⟨_, rfl⟩, nofun⟩
      simp only [unC, cond_true]
      rw [unN_of (by simp [← hl.len, h1])]
    · cases hk
  | false =>
    simp only [cond_false] at hk
    obtain ⟨h1, h2, h3⟩ := h.s1 (β := α) hk
    have hc : cellsD v = [v] := by cases v <;> first | rfl | exact absurd rfl (h3 _)
    rw [hc]
    refine ⟨[x], h1, .cons h .nil, nofun, fun _ => rfl, fun k' => ?_, nofun, fun _ => h3⟩
    simp only [unC, cond_false]
    exact (h.s1 (α := α) (β := _) hk).2.1 _

/-! ## frames -/
inductive FRel (S : St) : DF → FV → Prop where
  | val {v : DV} {x : Value} : TV S v x → FRel S (.val v) (.val x)
  | reg (t o : Nat) : FRel S (.reg t o) (.reg t o)
  | tup {l : List DV} {l' : List Value} : TVs S l l' → FRel S (.tup l) (.tup l')
  | und : FRel S .und .und
inductive ORel (S : St) : Option DF → Option FV → Prop where
  | none : ORel S none none
  | some {x : DF} {y : FV} : FRel S x y → ORel S (some x) (some y)
inductive TsRel (S : St) : List (Nat × Option DF) → List (Nat × Option FV) → Prop where
  | nil : TsRel S [] []
  | cons {t : Nat} {x : Option DF} {y : Option FV} {l : List (Nat × Option DF)} {l' : List (Nat × Option FV)} : ORel S x y → TsRel S l l' → TsRel S ((t, x) :: l) ((t, y) :: l')
inductive RgRel (S : St) : List (Nat × List DV) → List (Nat × List Value) → Prop where
  | nil : RgRel S [] []
  | cons {t : Nat} {x : List DV} {y : List Value} {l : List (Nat × List DV)} {l' : List (Nat × List Value)} : TVs S x y → RgRel S l l' → RgRel S ((t, x) :: l) ((t, y) :: l')
structure FrRel (S : St) (fr : DFr) (fr' : Fr) : Prop where
  n : fr.n = fr'.n
  ts : TsRel S fr.tmps fr'.tmps
  rg : RgRel S fr.regs fr'.regs

theorem FRel.later {S' : St} (hL : Later S S') (hS : HOk S) {x : DF} {y : FV} (h : FRel S x y) : FRel S' x y := by
  cases h with
  | val h => exact .val (h.later hL hS)
  | reg t o => exact .reg t o
  | tup h => exact .tup (h.later hL hS)
  | und => exact .und
theorem ORel.later {S' : St} (hL : Later S S') (hS : HOk S) {x : Option DF} {y : Option FV} (h : ORel S x y) : ORel S' x y := by
  cases h with
  | none => exact .none
  | some h => exact .some (h.later hL hS)
theorem TsRel.later {S' : St} (hL : Later S S') (hS : HOk S) {l : List (Nat × Option DF)} {l' : List (Nat × Option FV)} (h : TsRel S l l') : TsRel S' l l' := by
  induction h with
  | nil => exact .nil
  | cons h _ ih => exact .cons (h.later hL hS) ih
theorem RgRel.later {S' : St} (hL : Later S S') (hS : HOk S) {l : List (Nat × List DV)} {l' : List (Nat × List Value)} (h : RgRel S l l') : RgRel S' l l' := by
  induction h with
  | nil => exact .nil
  | cons h _ ih => exact .cons (h.later hL hS) ih
theorem FrRel.later {S' : St} (hL : Later S S') (hS : HOk S) {fr : DFr} {fr' : Fr} (h : FrRel S fr fr') : FrRel S' fr fr' := ⟨h.n, h.ts.later hL hS, h.rg.later hL hS⟩

theorem TsRel.look {l : List (Nat × Option DF)} {l' : List (Nat × Option FV)} (h : TsRel S l l') (t : Nat) : (look l t = none ∧ look l' t = none) ∨ ∃ x y, look l t = some x ∧ look l' t = some y ∧ ORel S x y := by
  induction h with
  | nil => exact .inl ⟨rfl, rfl⟩
  | @cons u x y l l' h _ ih =>
    by_cases he : u = t
    · subst he; exact .inr ⟨x, y, by rw [look_cons_same], by rw [look_cons_same], h⟩
    · rw [look_cons_ne _ _ he, look_cons_ne _ _ he]; exact ih
theorem RgRel.look {l : List (Nat × List DV)} {l' : List (Nat × List Value)} (h : RgRel S l l') (t : Nat) : (look l t = none ∧ look l' t = none) ∨ ∃ x y, look l t = some x ∧ look l' t = some y ∧ TVs S x y := by
  induction h with
  | nil => exact .inl ⟨rfl, rfl⟩
  | @cons u x y l l' h _ ih =>
    by_cases he : u = t
    · subst he; exact .inr ⟨x, y, by rw [look_cons_same], by rw [look_cons_same], h⟩
    · rw [look_cons_ne _ _ he, look_cons_ne _ _ he]; exact ih
theorem FrRel.put {fr : DFr} {fr' : Fr} (h : FrRel S fr fr') {regs : List (Nat × List DV)} {regs' : List (Nat × List Value)} (hr : RgRel S regs regs') (d : Option Nat) {x : Option DF} {y : Option FV} (hx : ORel S x y) : FrRel S (fr.put regs d x) (fr'.put regs' d y) := by
  cases d with
  | none => exact ⟨h.n, h.ts, hr⟩
  | some t => exact ⟨h.n, .cons hx h.ts, hr⟩
theorem TsRel.filter {l : List (Nat × Option DF)} {l' : List (Nat × Option FV)} (h : TsRel S l l') (p : Nat → Bool) : TsRel S (l.filter fun q => p q.1) (l'.filter fun q => p q.1) := by
  induction h with
  | nil => exact .nil
  | @cons u x y l l' h _ ih =>
    simp only [List.filter_cons]
    cases p u with
    | true => exact .cons h ih
    | false => exact ih
theorem FrRel.only {fr : DFr} {fr' : Fr} (h : FrRel S fr fr') (l : List Nat) : FrRel S (fr.only l) (fr'.only l) := ⟨h.n, h.ts.filter (fun t => l.any (Nat.beq t)), h.rg⟩

theorem dvC_tv {v : Value} (h : constOk v = true) : TV S (dvC v) v := by
  cases v <;> simp only [constOk, Bool.false_eq_true] at h <;> try (simp only [dvC]; constructor)
  · rename_i a; cases a with | none => exact .nilP | some a => simp [constOk] at h
  · rename_i a n c
    cases a with
    | none =>
      cases n with
      | zero => cases c with | zero => exact .nil | succ c => simp [constOk] at h
      | succ n => simp [constOk] at h
    | some a => simp [constOk] at h
theorem zD_tvs {l : List Value} (h : ∀ v ∈ l, constOk v = true) : TVs S (zD l) l := by
  induction l with
  | nil => exact .nil
  | cons v l ih => exact .cons (dvC_tv (h v (.head _))) (ih fun u hu => h u (.tail _ hu))

variable {α : Type} {res : α} {fr : DFr} {fr' : Fr}
theorem ev_sim (hf : FrRel S fr fr') {x : Operand} {k : DF → Option α} (h : fr.ev x k = some res) : ∃ y y', k y = some res ∧ FRel S y y' ∧ ∀ {β : Type} (k' : FV → Option β), fr'.ev x k' = k' y' := by
  unfold DFr.ev at h
  split at h
  · rename_i t
    split at h
    · rename_i v hv
      rcases hf.ts.look t with ⟨h1, h2⟩ | ⟨x, y, h1, h2, h3⟩
      · rw [h1] at hv; cases hv
      · rw [h1] at hv; cases hv
        cases h3 with
        | some h3 => exact ⟨_, _, h, h3, fun k' => by simp only [Fr.ev, h2]⟩
    · cases h
  · rename_i v
    cases hc : constOk v with
    | false => rw [hc] at h; cases h
    | true => rw [hc] at h; exact ⟨_, .val v, h, .val (dvC_tv hc), fun k' => by simp only [Fr.ev, hc, cond_true]⟩
  · rename_i f
    exact ⟨_, .val (.func (.func f) #[] #[]), h, .val (.fn f [] [] [] [] .nil .nil), fun k' => rfl⟩
  · cases h
theorem evV_sim (hf : FrRel S fr fr') {x : Operand} {k : DV → Option α} (h : fr.evV x k = some res) : ∃ y y', k y = some res ∧ TV S y y' ∧ ∀ {β : Type} (k' : Value → Option β), fr'.evV x k' = k' y' := by
  unfold DFr.evV at h
  obtain ⟨y, y', h1, h2, h3⟩ := ev_sim hf h
  cases h2 with
  | val h2 => exact ⟨_, _, h1, h2, fun k' => by unfold Fr.evV; rw [h3]⟩
  | _ => cases h1
theorem evVs_sim (hf : FrRel S fr fr') : ∀ {xs : List Operand} {k : List DV → Option α}, fr.evVs xs k = some res → ∃ y y', k y = some res ∧ TVs S y y' ∧ ∀ {β : Type} (k' : List Value → Option β), fr'.evVs xs k' = k' y'
  | [], k, h => ⟨[], [], h, .nil, fun _ => rfl⟩
  | x :: xs, k, h => by
    obtain ⟨y, y', h1, h2, h3⟩ := evV_sim hf (k := fun v => fr.evVs xs fun l => k (v :: l)) h
    obtain ⟨l, l', g1, g2, g3⟩ := evVs_sim hf (k := fun l => k (y :: l)) h1
    exact ⟨_, _, g1, .cons h2 g2, fun k' => by show fr'.evV x _ = _; rw [h3, g3]⟩
inductive OV (S : St) : Option DV → Option Value → Prop where
  | none : OV S none none
  | some {x : DV} {y : Value} : TV S x y → OV S (some x) (some y)
theorem evO_sim (hf : FrRel S fr fr') {x : Option Operand} {k : Option DV → Option α} (h : fr.evO x k = some res) : ∃ y y', k y = some res ∧ OV S y y' ∧ ∀ {β : Type} (k' : Option Value → Option β), fr'.evO x k' = k' y' := by
  cases x with
  | none => exact ⟨_, _, h, .none, fun _ => rfl⟩
  | some x =>
    obtain ⟨y, y', h1, h2, h3⟩ := evV_sim hf (k := fun v => k (some v)) h
    exact ⟨_, _, h1, .some h2, fun k' => by show fr'.evV x _ = _; rw [h3]⟩
inductive PsV (S : St) : List (Nat × DV) → List (Nat × Value) → Prop where
  | nil : PsV S [] []
  | cons {i : Nat} {x : DV} {y : Value} {l : List (Nat × DV)} {l' : List (Nat × Value)} : TV S x y → PsV S l l' → PsV S ((i, x) :: l) ((i, y) :: l')
theorem evPs_sim (hf : FrRel S fr fr') : ∀ {xs : List (Nat × Operand)} {k : List (Nat × DV) → Option α}, fr.evPs xs k = some res → ∃ y y', k y = some res ∧ PsV S y y' ∧ ∀ {β : Type} (k' : List (Nat × Value) → Option β), fr'.evPs xs k' = k' y'
  | [], k, h => ⟨[], [], h, .nil, fun _ => rfl⟩
  | (i, x) :: xs, k, h => by
    obtain ⟨y, y', h1, h2, h3⟩ := evV_sim hf (k := fun v => fr.evPs xs fun l => k ((i, v) :: l)) h
    obtain ⟨l, l', g1, g2, g3⟩ := evPs_sim hf (k := fun l => k ((i, y) :: l)) h1
    exact ⟨_, _, g1, .cons h2 g2, fun k' => by show fr'.evV x _ = _; rw [h3, g3]⟩
theorem qB_some {v : DV} {k : Bool → Option α} (h : qB v k = some res) : ∃ b, v = .bool b ∧ k b = some res := by
  cases v <;> first | exact ⟨_, rfl, h⟩ | cases h
theorem qF_some {v : DV} {k : Nat → List DV → List DV → Option α} (h : qF v k = some res) : ∃ f a b, v = .fn f a b ∧ k f a b = some res := by
  cases v <;> first | exact ⟨_, _, _, rfl, h⟩ | cases h
theorem TV.bool_inv {b : Bool} {x : Value} (h : TV S (.bool b) x) : x = .bool b := by cases h; rfl
theorem TV.int_inv {k : IntKind} {n : Int} {x : Value} (h : TV S (.int k n) x) : x = .int k n := by cases h; rfl
theorem TV.str_inv {s : ByteArray} {x : Value} (h : TV S (.str s) x) : x = .string s := by cases h; rfl
theorem TV.fn_inv {f : Nat} {a b : List DV} {x : Value} (h : TV S (.fn f a b) x) : ∃ a' b', x = .func (.func f) a'.toArray b'.toArray ∧ TVs S a a' ∧ TVs S b b' := by
  cases h with | fn _ _ _ a' b' h1 h2 => exact ⟨a', b', rfl, h1, h2⟩

/-! ## scalars -/
theorem toV_tv {v : DV} {u x : Value} (h : toV v = some u) (hx : TV S v x) : x = u := by
  cases v <;> simp only [toV, Option.some.injEq, reduceCtorEq] at h
  · rw [hx.int_inv, ← h]
  · rw [hx.bool_inv, ← h]
  · rw [hx.str_inv, ← h]
theorem ofV_tv {u : Value} {v : DV} (h : ofV u = some v) : TV S v u := by
  cases u <;> simp only [ofV, Option.some.injEq, reduceCtorEq] at h <;> subst h <;> constructor
theorem toVs_tvs : ∀ {l : List DV} {u x : List Value}, toVs l = some u → TVs S l x → x = u
  | [], u, x, h, hx => by simp only [toVs, Option.some.injEq] at h; cases hx; exact h
  | v :: l, u, x, h, hx => by
    cases hx with
    | cons h1 h2 =>
      simp only [toVs] at h
      obtain ⟨a, ha, h⟩ := Option.bind_eq_some_iff.1 h
      obtain ⟨b, hb, h⟩ := Option.bind_eq_some_iff.1 h
      cases h
      rw [toV_tv ha h1, toVs_tvs hb h2]

theorem qUn_sim {op : UnOp} {x r : DV} {x' : Value} (h : qUn op x = some r) (hx : TV S x x') : ∃ r', pUn op x' = some r' ∧ TV S r r' := by
  unfold qUn at h
  obtain ⟨a, ha, h⟩ := Option.bind_eq_some_iff.1 h
  obtain ⟨u, hu, h⟩ := Option.bind_eq_some_iff.1 h
  rw [toV_tv ha hx]
  exact ⟨u, hu, ofV_tv h⟩
theorem qEqS_sim {ks : List Nat} {op : BinOp} {x y r : DV} {x' y' : Value} (h : qEqS ks op x y = some r) (hx : TV S x x') (hy : TV S y y') : ∃ r', pEqS ks op x' y' = some r' ∧ TV S r r' := by
  unfold qEqS at h
  split at h
  · rename_i xs ys
    obtain ⟨a, ha, h⟩ := Option.bind_eq_some_iff.1 h
    obtain ⟨b, hb, h⟩ := Option.bind_eq_some_iff.1 h
    obtain ⟨u, hu, h⟩ := Option.bind_eq_some_iff.1 h
    obtain ⟨a', rfl, ha'⟩ := hx.agg_inv
    obtain ⟨b', rfl, hb'⟩ := hy.agg_inv
    rw [toVs_tvs ha ha', toVs_tvs hb hb']
    exact ⟨u, hu, ofV_tv h⟩
  · cases h
theorem qInt_sim {k : IntKind} {x r : DV} {x' : Value} (h : qInt k x = some r) (hx : TV S x x') : ∃ r', pInt k x' = some r' ∧ TV S r r' := by
  cases x <;> simp only [qInt, Option.some.injEq, reduceCtorEq] at h
  subst h; rw [hx.int_inv]; exact ⟨_, rfl, .int _ _⟩
theorem qStr_sim {x r : DV} {x' : Value} (h : qStr x = some r) (hx : TV S x x') : ∃ r', pStr x' = some r' ∧ TV S r r' := by
  cases x <;> simp only [qStr, Option.some.injEq, reduceCtorEq] at h
  subst h; rw [hx.str_inv]; exact ⟨_, rfl, .str _⟩
theorem qMin_sim {x y r : DV} {x' y' : Value} (h : qMin x y = some r) (hx : TV S x x') (hy : TV S y y') : ∃ r', pMin x' y' = some r' ∧ TV S r r' := by
  unfold qMin at h
  split at h
  · rename_i k a k' b
    split at h
    · rename_i hk
      cases h; subst hk
      rw [hx.int_inv, hy.int_inv]
      exact ⟨_, by simp [pMin], .int _ _⟩
    · cases h
  · cases h
theorem qMax_sim {x y r : DV} {x' y' : Value} (h : qMax x y = some r) (hx : TV S x x') (hy : TV S y y') : ∃ r', pMax x' y' = some r' ∧ TV S r r' := by
  unfold qMax at h
  split at h
  · rename_i k a k' b
    split at h
    · rename_i hk
      cases h; subst hk
      rw [hx.int_inv, hy.int_inv]
      exact ⟨_, by simp [pMax], .int _ _⟩
    · cases h
  · cases h
theorem qIx_sim {x i r : DV} {x' i' : Value} (h : qIx x i = some r) (hx : TV S x x') (hi : TV S i i') : ∃ r', pIx x' i' = some r' ∧ TV S r r' := by
  unfold qIx at h
  split at h
  · rename_i s k i
    rw [hx.str_inv, hi.int_inv]
    split at h
    · rename_i h0
      split at h
      · rename_i b hb
        cases h
        exact ⟨_, by simp only [pIx, if_pos h0, hb], .int _ _⟩
      · cases h
    · cases h
  · cases h
theorem qLs_sim {x r : DV} {x' : Value} (h : qLs x = some r) (hx : TV S x x') : ∃ r', pLs x' = some r' ∧ TV S r r' := by
  cases x <;> simp only [qLs, Option.some.injEq, reduceCtorEq] at h
  subst h; rw [hx.str_inv]; exact ⟨_, rfl, .int _ _⟩
theorem asID_sim {x : DV} {x' : Value} {n : Int} (h : asID x = some n) (hx : TV S x x') : asI x' = some n := by
  cases x <;> simp only [asID, Option.some.injEq, reduceCtorEq] at h
  subst h; rw [hx.int_inv]; rfl

def bI (d h : Nat) : Option Value → Option Nat
  | some v => (asI v).bind (fun i => if 0 ≤ i ∧ i ≤ h then some i.toNat else none)
  | none => some d
def qI (d h : Nat) : Option DV → Option Nat
  | some v => (asID v).bind (fun i => if 0 ≤ i ∧ i ≤ h then some i.toNat else none)
  | none => some d
theorem pBd_eq (len cap : Nat) (lo hi mx : Option Value) : pBd len cap lo hi mx = (bI cap cap mx).bind fun m => (cond (hi.isNone && mx.isSome) none (bI len m hi)).bind fun h => (bI 0 h lo).bind fun l => some (l, h, m) := by
  cases lo <;> cases hi <;> cases mx <;> rfl
theorem qBd_eq (len cap : Nat) (lo hi mx : Option DV) : qBd len cap lo hi mx = (qI cap cap mx).bind fun m => (cond (hi.isNone && mx.isSome) none (qI len m hi)).bind fun h => (qI 0 h lo).bind fun l => some (l, h, m) := by
  cases lo <;> cases hi <;> cases mx <;> rfl
theorem OV.isSome {x : Option DV} {x' : Option Value} (h : OV S x x') : x'.isSome = x.isSome := by cases h <;> rfl
theorem OV.isNone {x : Option DV} {x' : Option Value} (h : OV S x x') : x'.isNone = x.isNone := by cases h <;> rfl
theorem qI_sim {x : Option DV} {x' : Option Value} (hx : OV S x x') {d h r : Nat} (hd : x = none → d ≤ h) (hq : qI d h x = some r) : (∀ h', h ≤ h' → x.isSome = true → bI d h' x' = some r) ∧ bI d h x' = some r ∧ r ≤ h := by
  cases hx with
  | none => simp only [qI, Option.some.injEq] at hq; subst hq; exact ⟨nofun, rfl, hd rfl⟩
  | some hx =>
    simp only [qI] at hq
    obtain ⟨i, hi, hq⟩ := Option.bind_eq_some_iff.1 hq
    split at hq
    · rename_i hc
      cases hq
      have he := asID_sim hi hx
      refine ⟨fun h' hh _ => ?_, ?_, by omega⟩
      · simp only [bI, he, Option.bind_some]; rw [if_pos (by omega)]
      · simp only [bI, he, Option.bind_some]; rw [if_pos hc]
    · cases hq

/-- a slice expression's bounds, where the cap is this at least -/
theorem qBd_sim {len cap cap' : Nat} {lo hi mx : Option DV} {lo' hi' mx' : Option Value} {r : Nat × Nat × Nat} (h : qBd len cap lo hi mx = some r) (hc : cap ≤ cap') (hlc : len ≤ cap) (h1 : OV S lo lo') (h2 : OV S hi hi') (h3 : OV S mx mx') :
    ∃ m, pBd len cap' lo' hi' mx' = some (r.1, r.2.1, m) ∧ r.2.2 ≤ m ∧ (mx.isSome = true → m = r.2.2) ∧ (mx = none → m = cap' ∧ r.2.2 = cap) ∧ r.1 ≤ r.2.1 ∧ r.2.1 ≤ r.2.2 ∧ r.2.2 ≤ cap ∧ mx'.isSome = mx.isSome := by
  rw [qBd_eq] at h
  obtain ⟨m, hm, h⟩ := Option.bind_eq_some_iff.1 h
  obtain ⟨hh, hhi, h⟩ := Option.bind_eq_some_iff.1 h
  obtain ⟨l, hl, h⟩ := Option.bind_eq_some_iff.1 h
  cases h
  rw [pBd_eq]
  simp only
  obtain ⟨a1, a2, a3⟩ := qI_sim h3 (fun _ => Nat.le_refl _) hm
  rw [h2.isNone, h3.isSome]
  cases hb : (hi.isNone && mx.isSome) with
  | true => rw [hb] at hhi; cases hhi
  | false =>
    rw [hb] at hhi
    simp only [cond_false] at hhi ⊢
    have hml : hi = none → len ≤ m := fun he => by
      subst he
      cases mx with
      | none => simp only [qI, Option.some.injEq] at hm; omega
      | some y => simp at hb
    obtain ⟨b1, b2, b3⟩ := qI_sim h2 hml hhi
    obtain ⟨c1, c2, c3⟩ := qI_sim h1 (fun _ => Nat.zero_le _) hl
    cases h3 with
    | none =>
      simp only [qI, Option.some.injEq] at hm; subst hm
      refine ⟨cap', ?_, hc, nofun, fun _ => ⟨rfl, rfl⟩, c3, b3, Nat.le_refl _, by simp⟩
      have h0 : bI cap' cap' (none : Option Value) = some cap' := rfl
      have h5 : bI len cap' hi' = some hh := by
        cases h2 with
        | none => exact b2
        | some h2 => exact b1 _ hc rfl
      rw [h0, Option.bind_some, h5, Option.bind_some, c2, Option.bind_some]
    | some h3 =>
      refine ⟨m, ?_, Nat.le_refl _, fun _ => rfl, nofun, c3, b3, a3, by simp⟩
      have h5 : ∀ d, bI d cap' (some _) = some m := fun _ => a1 _ hc rfl
      rw [h5]
      simp only [Option.bind_some, b2, c2]
theorem qSs_sim {x r : DV} {x' : Value} {lo hi : Option DV} {lo' hi' : Option Value} (h : qSs x lo hi = some r) (hx : TV S x x') (h1 : OV S lo lo') (h2 : OV S hi hi') : ∃ r', pSs x' lo' hi' = some r' ∧ TV S r r' := by
  cases x <;> simp only [qSs, reduceCtorEq] at h
  obtain ⟨q, hq, h⟩ := Option.bind_eq_some_iff.1 h
  cases h
  rw [hx.str_inv]
  obtain ⟨m, g1, _⟩ := qBd_sim hq (Nat.le_refl _) (Nat.le_refl _) h1 h2 .none
  exact ⟨_, by simp only [pSs, g1, Option.bind_some], .str _⟩
end
end Go.Lg.Pv
namespace Go.Lg.Pv
open Go Go.Lg
set_option linter.unusedVariables false
set_option linter.unnecessarySimpa false
set_option linter.unusedSimpArgs false
set_option linter.unusedSectionVars false

section
variable {S : St}

theorem TV.own_inv {id ver o n c : Nat} {x : Bool} {v : Value} (h : TV S (.own id ver o n c x) v) : (∃ b, S.μ[id]? = some b ∧ ver ≤ b.ver) ∧ Lg.one v = true ∧ ∀ blk, bk S.μ id ver = some blk → OwnR S blk id o n c x v := by
  cases h with | own _ _ _ _ _ _ _ h1 h2 h3 => exact ⟨h1, h2, h3⟩
theorem TV.ptr_inv {id ver i off : Nat} {v : Value} (h : TV S (.ptr id ver i off) v) : (∃ b, S.μ[id]? = some b ∧ ver ≤ b.ver) ∧ Lg.one v = true ∧ ∀ blk, bk S.μ id ver = some blk → PtrR S blk id i off v := by
  cases h with | ptr _ _ _ _ _ h1 h2 h3 => exact ⟨h1, h2, h3⟩
theorem TV.nil_inv {v : Value} (h : TV S .nil v) : v = .slice none 0 0 := by cases h; rfl
theorem TV.nilP_inv {v : Value} (h : TV S .nilP v) : v = .pointer none := by cases h; rfl
theorem TV.e0_inv {z : Nat} {v : Value} (h : TV S (.e0 z) v) : v = .slice none 0 0 ∨ ∃ b o, v = .slice (some ⟨b, o, some z⟩) 0 1 := by
  cases h with
  | e0N => exact .inl rfl
  | e0 _ b o => exact .inr ⟨b, o, rfl⟩
/-- what a frozen slice is -/
def SlR (S : St) (sh : List Sh) (l : List DV) (v : Value) : Prop :=
  (l = [] ∧ (v = .slice none 0 0 ∨ ∃ b o, v = .slice (some ⟨b, o, some sh.length⟩) 0 1)) ∨
  ∃ b o c blk, v = .slice (some ⟨b, o, some sh.length⟩) l.length c ∧ S.Z b ∧ S.σ.mem b = some blk ∧ l.length ≤ c / 2 ∧ o + l.length * sh.length ≤ blk.cells.length ∧ (blk.wr = true → o + c / 2 * sh.length ≤ blk.cells.length) ∧
    ∀ i e, l[i]? = some e → TVs S (cellsD e) (cellsAt (blk.cells.drop o) sh.length i)
theorem TV.sl_inv {sh : List Sh} {l : List DV} {v : Value} (h : TV S (.sl sh l) v) : SlR S sh l v := by
  cases h with
  | slN => exact .inl ⟨rfl, .inl rfl⟩
  | slE _ b o => exact .inl ⟨rfl, .inr ⟨b, o, rfl⟩⟩
  | sl _ _ b o c blk h0 h1 h2 h3 h3' h4 => exact .inr ⟨b, o, c, blk, rfl, h0, h1, h2, h3, h3', h4⟩
theorem SlR.tv {sh : List Sh} {l : List DV} {v : Value} (h : SlR S sh l v) : TV S (.sl sh l) v := by
  rcases h with ⟨rfl, rfl | ⟨b, o, rfl⟩⟩ | ⟨b, o, c, blk, rfl, h0, h1, h2, h3, h3', h4⟩
  · exact .slN _
  · exact .slE _ _ _
  · exact .sl _ _ b o c blk h0 h1 h2 h3 h3' h4
theorem TV.rp_inv {e : DV} {off : Nat} {v : Value} (h : TV S (.rp e off) v) : ∃ b o blk, v = .pointer (some ⟨b, o + off, none⟩) ∧ S.Z b ∧ S.σ.mem b = some blk ∧ o + (cellsD e).length ≤ blk.cells.length ∧ TVs S (cellsD e) ((blk.cells.drop o).take (cellsD e).length) := by
  cases h with | rp _ _ b o blk h0 h1 h2 h3 => exact ⟨b, o, blk, rfl, h0, h1, h2, h3⟩

theorem qLen_sim {x r : DV} {x' : Value} (h : qLen S.μ x = some r) (hx : TV S x x') : ∃ r', pLen x' = some r' ∧ TV S r r' := by
  cases x <;> simp only [qLen, Option.some.injEq, reduceCtorEq] at h
  · subst h; rw [hx.nil_inv]; exact ⟨_, rfl, .int _ _⟩
  · subst h
    rcases hx.e0_inv with rfl | ⟨b, o, rfl⟩ <;> exact ⟨_, rfl, .int _ _⟩
  · subst h
    rcases hx.sl_inv with ⟨rfl, rfl | ⟨b, o, rfl⟩⟩ | ⟨b, o, c, blk, rfl, _⟩ <;> exact ⟨_, rfl, .int _ _⟩
  · obtain ⟨blk, hb, h⟩ := Option.bind_eq_some_iff.1 h
    cases h
    rcases hx.own_inv.2.2 blk hb with ⟨rfl, rfl, rfl, rfl | ⟨b, o, rfl⟩⟩ | ⟨b, lo, cc, _, rfl, _⟩ <;> exact ⟨_, rfl, .int _ _⟩
theorem qCap_sim {x r : DV} {x' : Value} (h : qCap S.μ x = some r) (hx : TV S x x') : ∃ r', pCap x' = some r' ∧ TV S r r' := by
  cases x <;> try (simp only [qCap, reduceCtorEq] at h; done)
  · simp only [qCap, Option.some.injEq] at h; subst h; rw [hx.nil_inv]; exact ⟨_, rfl, .int _ _⟩
  · simp only [qCap, Option.some.injEq] at h; subst h
    rcases hx.e0_inv with rfl | ⟨b, o, rfl⟩ <;> exact ⟨_, rfl, .int _ _⟩
  · rename_i id ver o n c x
    cases x with
    | false => simp [qCap] at h
    | true =>
      simp only [qCap] at h
      obtain ⟨blk, hb, h⟩ := Option.bind_eq_some_iff.1 h
      cases h
      rcases hx.own_inv.2.2 blk hb with ⟨rfl, rfl, rfl, rfl | ⟨b, o, rfl⟩⟩ | ⟨b, lo, cc, _, rfl, _, _, _, h6, _⟩
      · exact ⟨_, rfl, .int _ _⟩
      · exact ⟨_, rfl, .int _ _⟩
      · have := h6 rfl
        subst this
        refine ⟨_, ?_, .int _ _⟩
        simp only [pCap]
        rw [if_pos (by omega), show (2 * c + 1) / 2 = c by omega]
theorem qFA_sim {x r : DV} {x' : Value} {off : Nat} (h : qFA S.μ x off = some r) (hx : TV S x x') : ∃ r', pFA x' off = some r' ∧ TV S r r' := by
  cases x <;> simp only [qFA, Option.some.injEq, reduceCtorEq] at h
  · subst h
    obtain ⟨b, o, blk, rfl, h0, h1, h2, h3⟩ := hx.rp_inv
    refine ⟨_, rfl, ?_⟩
    rw [Addr.add_none, Nat.add_assoc]
    exact .rp _ _ b o blk h0 h1 h2 h3
  · obtain ⟨blk, hb, h⟩ := Option.bind_eq_some_iff.1 h
    cases h
    obtain ⟨h1, h2, h3⟩ := hx.ptr_inv
    obtain ⟨b, lo, g1, rfl⟩ := h3 blk hb
    refine ⟨_, rfl, .ptr _ _ _ _ _ h1 rfl fun blk' hb' => ?_⟩
    rw [hb] at hb'; cases hb'
    exact ⟨b, lo, g1, by rw [Addr.add_none, Nat.add_assoc]⟩
theorem qNil_sim {x r : DV} {x' : Value} (h : qNil S.μ x = some r) (hx : TV S x x') : ∃ r', pNil x' = some r' ∧ TV S r r' := by
  cases x <;> simp only [qNil, Option.some.injEq, reduceCtorEq] at h
  · subst h
    obtain ⟨b, o, blk, rfl, h0, h1, h2, h3⟩ := hx.rp_inv
    exact ⟨_, rfl, hx⟩
  · subst h
    obtain ⟨a', b', rfl, _⟩ := hx.fn_inv
    exact ⟨_, rfl, hx⟩
  · obtain ⟨blk, hb, h⟩ := Option.bind_eq_some_iff.1 h
    cases h
    obtain ⟨b, lo, g1, rfl⟩ := hx.ptr_inv.2.2 blk hb
    exact ⟨_, rfl, hx⟩
theorem cellsAt_take {l : List Value} {o z i n : Nat} (h : n * z ≤ (l.drop o).length) (hi : i < n) : (l.drop (o + i * z)).take z = cellsAt (l.drop o) z i := by
  unfold cellsAt; rw [List.drop_drop]
theorem qIA_sim {size : Nat} {x i r : DV} {x' i' : Value} (h : qIA S.μ size x i = some r) (hx : TV S x x') (hi : TV S i i') : ∃ r', pIA size x' i' = some r' ∧ TV S r r' := by
  unfold qIA at h
  split at h
  · rename_i sh l k i
    rw [hi.int_inv]
    split at h
    · rename_i hc
      obtain ⟨hc1, rfl⟩ := hc
      split at h
      · rename_i e he
        cases h
        have hlt := (List.getElem?_eq_some_iff.1 he).1
        rcases hx.sl_inv with ⟨rfl, _⟩ | ⟨b, o, c, blk, rfl, h0, h1, h2, h3, h3', h4⟩
        · cases he
        · have hz := h4 _ e he
          have hin : (i.toNat + 1) * sh.length ≤ l.length * sh.length := Nat.mul_le_mul_right _ hlt
          rw [Nat.succ_mul] at hin
          have hlen : (cellsAt (blk.cells.drop o) sh.length i.toNat).length = sh.length := cellsAt_len (n := l.length) (by rw [List.length_drop]; omega) hlt
          have hel : (cellsD e).length = sh.length := by rw [hz.len, hlen]
          refine ⟨_, by simp only [pIA]; rw [if_pos ⟨hc1, by omega⟩], ?_⟩
          refine .rp e 0 b (o + i.toNat * sh.length) blk h0 h1 (by rw [hel]; omega) ?_
          rw [hel, cellsAt_take (n := l.length) (by rw [List.length_drop]; omega) hlt]
          exact hz
      · cases h
    · cases h
  · rename_i id ver o n c xx k i
    obtain ⟨blk, hb, g⟩ := Option.bind_eq_some_iff.1 h
    clear h
    rw [hi.int_inv]
    split at g
    · rename_i hc
      obtain ⟨hc1, hc2, rfl⟩ := hc
      cases g
      rcases hx.own_inv.2.2 blk hb with ⟨rfl, _⟩ | ⟨b, lo, cc, g1, rfl, g2, g3, g4, g5, g6⟩
      · omega
      · refine ⟨_, by simp only [pIA]; rw [if_pos ⟨hc1, hc2⟩], .ptr _ _ _ _ _ hx.own_inv.1 rfl fun blk' hb' => ?_⟩
        rw [hb] at hb'; cases hb'
        exact ⟨b, lo, g1, by rw [Nat.add_mul, Nat.add_zero, Nat.add_assoc]⟩
    · cases g
  · cases h

theorem qSl_sim {size : Nat} {x r : DV} {x' : Value} {lo hi mx : Option DV} {lo' hi' mx' : Option Value} (h : qSl S.μ size x lo hi mx = some r) (hx : TV S x x') (h1 : OV S lo lo') (h2 : OV S hi hi') (h3 : OV S mx mx') :
    ∃ r', pSl size x' lo' hi' mx' = some r' ∧ TV S r r' := by
  cases x <;> simp only [qSl, reduceCtorEq] at h
  · obtain ⟨q, hq, h⟩ := Option.bind_eq_some_iff.1 h
    cases h
    rw [hx.nil_inv]
    obtain ⟨m, g1, _⟩ := qBd_sim hq (Nat.le_refl _) (Nat.le_refl _) h1 h2 h3
    exact ⟨_, by simp only [pSl, g1, Option.bind_some], .nil⟩
  · rename_i sh l
    split at h
    · rename_i hz
      subst hz
      obtain ⟨q, hq, h⟩ := Option.bind_eq_some_iff.1 h
      obtain ⟨q1, q2, q3⟩ := q
      rcases hx.sl_inv with ⟨rfl, hv⟩ | ⟨b, o, c, blk, rfl, k0, k1, k2, k3, k3', k4⟩
      · obtain ⟨m, g1, g2, g3, g4, g5, g6, g7, g8⟩ := qBd_sim hq (cap' := 0) (Nat.le_refl _) (Nat.le_refl _) h1 h2 h3
        simp only [List.length_nil] at g1 g7 g5 g6
        have e1 : q1 = 0 := by omega
        have e2 : q2 = 0 := by omega
        have e3 : q3 = 0 := by omega
        subst e1 e2 e3
        have hm : m = 0 := by
          rcases hmx : mx with _ | y
          · exact (g4 hmx).1
          · exact g3 (by rw [hmx]; rfl)
        subst hm
        simp only [and_true, List.drop_nil, List.take_nil] at h
        rcases hv with rfl | ⟨b, o, rfl⟩
        · refine ⟨.slice none 0 0, by simp only [pSl, g1, Option.bind_some], ?_⟩
          split at h <;> (cases h; constructor)
        · have hr : pSl sh.length (.slice (some ⟨b, o, some sh.length⟩) 0 1) lo' hi' mx' = some (.slice (some ⟨b, o, some sh.length⟩) 0 1) := by
            simp only [pSl]
            rw [show (1 : Nat) / 2 = 0 from rfl, g1]
            simp
          refine ⟨_, hr, ?_⟩
          split at h <;> (cases h; constructor)
      · obtain ⟨m, g1, g2, g3, g4, g5, g6, g7, g8⟩ := qBd_sim hq k2 (Nat.le_refl _) h1 h2 h3
        simp only at g1 g2 g3 g4 g5 g6 g7 h
        refine ⟨.slice (some ⟨b, o + q1 * sh.length, some sh.length⟩) (q2 - q1) (2 * (m - q1) + (if mx'.isSome then 1 else c % 2)), by simp only [pSl, g1, Option.bind_some, if_true], ?_⟩
        split at h
        · rename_i hc
          cases h
          have hm := g3 hc.1
          have e3 := hc.2
          have hs : q2 - q1 = 0 := by omega
          have hs2 : m - q1 = 0 := by omega
          rw [hs, hs2, g8, hc.1]
          exact .e0 _ _ _
        · cases h
          have hlen : ((l.drop q1).take (q2 - q1)).length = q2 - q1 := by rw [List.length_take, List.length_drop]; omega
          have hmul : q1 * sh.length + (q2 - q1) * sh.length ≤ l.length * sh.length := by
            rw [← Nat.add_mul]; exact Nat.mul_le_mul_right _ (by omega)
          have hcap : blk.wr = true → o + q1 * sh.length + (2 * (m - q1) + if mx'.isSome = true then 1 else c % 2) / 2 * sh.length ≤ blk.cells.length := fun hw => by
            have h0 := k3' hw
            have hmc : m ≤ c / 2 := by
              rcases hmx : mx with _ | y
              · rw [(g4 hmx).1]; exact Nat.le_refl _
              · have := g3 (by rw [hmx]; rfl); omega
            have h2 : (2 * (m - q1) + if mx'.isSome = true then 1 else c % 2) / 2 = m - q1 := by split <;> omega
            rw [h2]
            have : q1 * sh.length + (m - q1) * sh.length ≤ c / 2 * sh.length := by rw [← Nat.add_mul]; exact Nat.mul_le_mul_right _ (by omega)
            omega
          refine SlR.tv (.inr ⟨b, o + q1 * sh.length, _, blk, by rw [hlen], k0, k1, by rw [hlen]; omega, by rw [hlen]; omega, hcap, fun i e he => ?_⟩)
          rw [List.getElem?_take] at he
          split at he
          · rename_i hi2
            rw [List.getElem?_drop] at he
            have := k4 _ e he
            unfold cellsAt at this ⊢
            rw [List.drop_drop] at this ⊢
            rw [show o + q1 * sh.length + i * sh.length = o + (q1 + i) * sh.length by rw [Nat.add_mul]; omega]
            exact this
          · cases he
    · cases h
  · rename_i id ver o n c xx
    obtain ⟨blk, hb, h⟩ := Option.bind_eq_some_iff.1 h
    split at h
    · rename_i hz
      obtain ⟨q, hq, h⟩ := Option.bind_eq_some_iff.1 h
      obtain ⟨q1, q2, q3⟩ := q
      obtain ⟨hid, hone, hx⟩ := hx.own_inv
      have hx := hx blk hb
      subst hz
      rcases hx with ⟨rfl, rfl, rfl, hv⟩ | ⟨b, lo0, cc, e1, rfl, e2, e3, e4, e5, e6⟩
      · obtain ⟨m, g1, g2, g3, g4, g5, g6, g7, g8⟩ := qBd_sim hq (cap' := 0) (Nat.le_refl _) (Nat.le_refl _) h1 h2 h3
        simp only at g1 g7 g5 g6
        have e1 : q1 = 0 := by omega
        have e2 : q2 = 0 := by omega
        have e3 : q3 = 0 := by omega
        subst e1 e2 e3
        have hm : m = 0 := by
          rcases hmx : mx with _ | y
          · exact (g4 hmx).1
          · exact g3 (by rw [hmx]; rfl)
        subst hm
        simp only [and_true] at h
        rcases hv with rfl | ⟨b, o, rfl⟩
        · refine ⟨.slice none 0 0, by simp only [pSl, g1, Option.bind_some], ?_⟩
          split at h
          · cases h; exact .e0N _
          · cases h
            exact .own _ _ _ _ _ _ _ hid rfl fun blk' hb' => by rw [hb] at hb'; cases hb'; exact .inl ⟨rfl, rfl, rfl, .inl rfl⟩
        · have hr : pSl blk.sh.length (.slice (some ⟨b, o, some blk.sh.length⟩) 0 1) lo' hi' mx' = some (.slice (some ⟨b, o, some blk.sh.length⟩) 0 1) := by
            simp only [pSl]
            rw [show (1 : Nat) / 2 = 0 from rfl, g1]
            simp
          refine ⟨_, hr, ?_⟩
          split at h
          · cases h; exact .e0 _ _ _
          · cases h
            exact .own _ _ _ _ _ _ _ hid rfl fun blk' hb' => by rw [hb] at hb'; cases hb'; exact .inl ⟨rfl, rfl, rfl, .inr ⟨_, _, rfl⟩⟩
      · obtain ⟨m, g1, g2, g3, g4, g5, g6, g7, g8⟩ := qBd_sim hq e3 e2 h1 h2 h3
        simp only at g1 g2 g3 g4 g5 g6 g7 h
        refine ⟨.slice (some ⟨b, lo0 + o * blk.sh.length + q1 * blk.sh.length, some blk.sh.length⟩) (q2 - q1) (2 * (m - q1) + (if mx'.isSome then 1 else cc % 2)), by simp only [pSl, g1, Option.bind_some, if_true], ?_⟩
        split at h
        · rename_i hc
          cases h
          have hm := g3 hc.1
          have e3 := hc.2
          have hs : q2 - q1 = 0 := by omega
          have hs2 : m - q1 = 0 := by omega
          rw [hs, hs2, g8, hc.1]
          exact .e0 _ _ _
        · cases h
          refine .own _ _ _ _ _ _ _ hid rfl fun blk' hb' => ?_
          rw [hb] at hb'; cases hb'
          have hmc : m ≤ cc / 2 := by
            rcases hmx : mx with _ | y
            · rw [(g4 hmx).1]; exact Nat.le_refl _
            · have := g3 (by rw [hmx]; rfl); omega
          have hcap : lo0 + (o + q1) * blk.sh.length + (2 * (m - q1) + if mx'.isSome = true then 1 else cc % 2) / 2 * blk.sh.length ≤ lenOf S.σ b := by
            have h2 : (2 * (m - q1) + if mx'.isSome = true then 1 else cc % 2) / 2 = m - q1 := by split <;> omega
            rw [h2]
            have : q1 * blk.sh.length + (m - q1) * blk.sh.length ≤ cc / 2 * blk.sh.length := by rw [← Nat.add_mul]; exact Nat.mul_le_mul_right _ (by omega)
            rw [Nat.add_mul]; omega
          refine .inr ⟨b, lo0, _, e1, by rw [Nat.add_mul]; congr 3; omega, by omega, by split <;> omega, by omega, fun hxx => ?_, hcap⟩
          rw [g8]
          rcases hmx : mx with _ | y
          · have h4 := g4 hmx
            rw [hmx] at hxx
            simp only [Option.isSome_none, Bool.false_or] at hxx
            have h5 := e5 hxx
            simp only [Option.isSome_none, Bool.false_eq_true, if_false]
            omega
          · have := g3 (by rw [hmx]; rfl)
            simp only [Option.isSome_some, if_true]; omega
    · cases h

theorem qEqN_sim {x y : DV} {x' y' : Value} {b : Bool} (h : qEqN S.μ x y = some b) (hx : TV S x x') (hy : TV S y y') (e : Nat) : ∃ a n c b' n' c', x' = .slice a n c ∧ y' = .slice b' n' c' ∧ pEq (.slice e) x' y' = some b := by
  unfold qEqN at h
  split at h
  · cases h; rw [hx.nil_inv, hy.nil_inv]; exact ⟨_, _, _, _, _, _, rfl, rfl, rfl⟩
  · cases h; rw [hy.nil_inv]
    rcases hx.sl_inv with ⟨h, _⟩ | ⟨b, o, c, blk, rfl, _⟩
    · cases h
    · exact ⟨_, _, _, _, _, _, rfl, rfl, rfl⟩
  · obtain ⟨blk, hb, h⟩ := Option.bind_eq_some_iff.1 h
    split at h
    · rename_i hn
      cases h; rw [hy.nil_inv]
      rcases hx.own_inv.2.2 blk hb with ⟨rfl, _⟩ | ⟨b, lo, cc, g1, rfl, _⟩
      · omega
      · exact ⟨_, _, _, _, _, _, rfl, rfl, rfl⟩
    · cases h
  · cases h
theorem qEqP_sim {x y : DV} {x' y' : Value} {b : Bool} (h : qEqP S.μ x y = some b) (hx : TV S x x') (hy : TV S y y') : ∃ a a', x' = .pointer a ∧ y' = .pointer a' ∧ pEq .ptr x' y' = some b := by
  unfold qEqP at h
  split at h
  · cases h; rw [hx.nilP_inv, hy.nilP_inv]; exact ⟨_, _, rfl, rfl, rfl⟩
  · obtain ⟨blk, hb, h⟩ := Option.bind_eq_some_iff.1 h
    cases h; rw [hy.nilP_inv]
    obtain ⟨b, lo, g1, rfl⟩ := hx.ptr_inv.2.2 blk hb
    exact ⟨_, _, rfl, rfl, rfl⟩
  · cases h; rw [hy.nilP_inv]
    obtain ⟨b, o, blk, rfl, _⟩ := hx.rp_inv
    exact ⟨_, _, rfl, rfl, rfl⟩
  · cases h
theorem qBin_sim {sh : Shape} {op : BinOp} {x y r : DV} {x' y' : Value} (h : qBin S.μ sh op x y = some r) (hx : TV S x x') (hy : TV S y y') : ∃ r', pBin sh op x' y' = some r' ∧ TV S r r' := by
  unfold qBin at h
  split at h
  · rename_i a b ha hb
    rw [toV_tv ha hx, toV_tv hb hy]
    obtain ⟨u, hu, h⟩ := Option.bind_eq_some_iff.1 h
    exact ⟨u, hu, ofV_tv h⟩
  · split at h
    · rename_i e
      split at h
      · obtain ⟨b, hb, rfl⟩ := Option.map_eq_some_iff.1 h
        obtain ⟨_, _, _, _, _, _, rfl, rfl, he⟩ := qEqN_sim hb hx hy e
        exact ⟨.bool b, by simp only [pBin, he, Option.map_some], .bool _⟩
      · obtain ⟨b, hb, rfl⟩ := Option.map_eq_some_iff.1 h
        obtain ⟨_, _, _, _, _, _, rfl, rfl, he⟩ := qEqN_sim hb hx hy e
        exact ⟨.bool !b, by simp only [pBin, he, Option.map_some], .bool _⟩
      · cases h
    · split at h
      · obtain ⟨b, hb, rfl⟩ := Option.map_eq_some_iff.1 h
        obtain ⟨_, _, rfl, rfl, he⟩ := qEqP_sim hb hx hy
        exact ⟨.bool b, by simp only [pBin, he, Option.map_some], .bool _⟩
      · obtain ⟨b, hb, rfl⟩ := Option.map_eq_some_iff.1 h
        obtain ⟨_, _, rfl, rfl, he⟩ := qEqP_sim hb hx hy
        exact ⟨.bool !b, by simp only [pBin, he, Option.map_some], .bool _⟩
      · cases h
    · cases h
theorem TVs.getC {cs : List DV} {cs' : List Value} (h : TVs S cs cs') {off size : Nat} {agg : Bool} {v : DV} (hg : getC cs off size agg = some v) :
    ∃ v', (if agg then (if off + size ≤ cs'.length then some (Value.agg ((cs'.drop off).take size).toArray) else none) else cs'[off]?) = some v' ∧ TV S v v' := by
  unfold Pv.getC at hg
  cases agg with
  | true =>
    simp only [cond_true] at hg
    split at hg
    · rename_i hc
      cases hg
      rw [h.len] at hc
      exact ⟨_, by simp [hc], .agg _ _ ((h.drop off).take size)⟩
    · cases hg
  | false =>
    simp only [cond_false] at hg
    obtain ⟨x, h1, h2⟩ := h.get hg
    exact ⟨x, by simp [h1], h2⟩
theorem qFld_sim {off size : Nat} {agg : Bool} {x r : DV} {x' : Value} (h : qFld off size agg x = some r) (hx : TV S x x') : ∃ r', pFld off size agg x' = some r' ∧ TV S r r' := by
  cases x <;> simp only [qFld, reduceCtorEq] at h
  obtain ⟨l', rfl, hl⟩ := hx.agg_inv
  obtain ⟨v', h1, h2⟩ := hl.getC h
  refine ⟨v', ?_, h2⟩
  simpa [pFld] using h1
end
end Go.Lg.Pv
namespace Go.Lg.Pv
open Go Go.Lg
set_option linter.unusedVariables false
set_option linter.unnecessarySimpa false
set_option linter.unusedSimpArgs false
set_option linter.unusedSectionVars false

/-! ## cells of blocks -/
section
variable {S : St}
theorem CVs.append {op : Bool} {a b : List DV} {a' b' : List Value} {F G : List Nat} (h : CVs S op a a' F) (k : CVs S op b b' G) : CVs S op (a ++ b) (a' ++ b') (F ++ G) := by
  induction a generalizing a' F with
  | nil => cases h; exact k
  | cons v l ih => cases h with | cons h1 h2 => rw [List.append_assoc]; exact .cons h1 (ih h2)
theorem CVs.split {op : Bool} {l : List DV} {l' : List Value} {F : List Nat} (h : CVs S op l l' F) (n : Nat) : ∃ F1 F2, F = F1 ++ F2 ∧ CVs S op (l.take n) (l'.take n) F1 ∧ CVs S op (l.drop n) (l'.drop n) F2 := by
  induction l generalizing l' F n with
  | nil => cases h; exact ⟨[], [], rfl, by simp; exact .nil, by simp; exact .nil⟩
  | cons v l ih =>
    cases h with
    | @cons _ _ F0 _ _ G h1 h2 =>
      cases n with
      | zero => exact ⟨[], F0 ++ G, rfl, .nil, .cons h1 h2⟩
      | succ n =>
        obtain ⟨F1, F2, rfl, h3, h4⟩ := ih h2 n
        exact ⟨F0 ++ F1, F2, by simp, .cons h1 h3, h4⟩
theorem CVs.over {op : Bool} {l vs : List DV} {l' vs' : List Value} {F V : List Nat} (h : CVs S op l l' F) (k : CVs S op vs vs' V) (off : Nat) : ∃ F1 F2 F3, F = F1 ++ (F2 ++ F3) ∧ CVs S op (overD l off vs) (Lg.over l' off vs') (F1 ++ V ++ F3) := by
  obtain ⟨F1, G, rfl, h1, h2⟩ := h.split off
  obtain ⟨F2, F3, rfl, h3, h4⟩ := h2.split vs.length
  refine ⟨F1, F2, F3, rfl, ?_⟩
  unfold overD Lg.over
  rw [List.drop_drop] at h4
  have h5 : CVs S op (l.drop (off + vs.length)) (l'.drop (off + vs'.length)) F3 := by
    rw [← k.len]; rw [List.drop_drop] at h4; exact h4
  exact (h1.append k).append h5
theorem CVs.tvs {op : Bool} {l : List DV} {l' : List Value} {F : List Nat} (h : CVs S op l l' F) (ho : op = true ∨ ∀ v ∈ l, okC v = true) : TVs S l l' := by
  induction l generalizing l' F with
  | nil => cases h; exact .nil
  | cons v l ih =>
    cases h with
    | cons h1 h2 =>
      refine .cons ?_ (ih h2 (ho.imp id fun h u hu => h u (.tail _ hu)))
      cases h1 with
      | rv h3 h4 =>
        subst h3
        have hv := (ho.resolve_left nofun) v (.head _)
        refine h4.tv ?_
        cases h4 <;> simp [okC, isSc] at hv <;> (intro b hb; cases hb)
      | tv _ h3 => exact h3
theorem TVs.cvs_op {l : List DV} {l' : List Value} (h : TVs S l l') : CVs S true l l' [] := by
  induction l generalizing l' with
  | nil => cases h; exact .nil
  | cons v l ih => cases h with | cons h1 h2 => exact .cons (F := []) (.tv (.inl rfl) h1) (ih h2)
theorem okC_cv {v : DV} {x : Value} (hv : okC v = true) (h : TV S v x) (s : Sh) : CV S false (nz s v) x [] := by
  cases h <;> first | (simp [okC, isSc] at hv; done) | skip
  case int => cases s <;> exact .rv rfl (.int _ _)
  case bool => cases s <;> exact .rv rfl (.bool _)
  case str => cases s <;> exact .rv rfl (.str _)
  case nilF => cases s <;> exact .rv rfl .nilF
  case nilI => cases s <;> exact .rv rfl .nilI
  case nilP => cases s <;> exact .rv rfl .nilP
  case nil => cases s with | sc => exact .rv rfl .nil | sl e => exact .rv rfl (.slN e)
  case e0N z =>
    cases s with
    | sc => exact .rv rfl (.e0N z)
    | sl e => simp only [nz]; split; exact .rv rfl (.slN e); exact .rv rfl (.e0N z)
  case e0 z b o =>
    cases s with
    | sc => exact .rv rfl (.e0 z b o)
    | sl e =>
      simp only [nz]
      split
      · rename_i hz; subst hz; exact .rv rfl (.slE e b o)
      · exact .rv rfl (.e0 z b o)
  case own id ver o n c xx h1 h2 h3 => cases s <;> exact .tv (.inr rfl) (.own _ _ _ _ _ _ _ h1 h2 h3)
theorem okCs_cvs : ∀ {l : List DV} {l' : List Value} (s : List Sh), (∀ v ∈ l, okC v = true) → TVs S l l' → CVs S false (nzL s l) l' []
  | [], _, s, hv, h => by cases h; cases s <;> exact .nil
  | v :: l, _, [], hv, h => by
    cases h with
    | cons h1 h2 =>
      simp only [nzL]
      have h3 := okC_cv (hv v (.head _)) h1 .sc
      have h4 := okCs_cvs [] (fun u hu => hv u (.tail _ hu)) h2
      have e1 : nz .sc v = v := by cases v <;> rfl
      have e2 : nzL [] l = l := by cases l <;> rfl
      rw [e1] at h3; rw [e2] at h4
      exact .cons (F := []) h3 h4
  | v :: l, _, s :: ss, hv, h => by
    cases h with
    | cons h1 h2 => exact .cons (F := []) (okC_cv (hv v (.head _)) h1 s) (okCs_cvs ss (fun u hu => hv u (.tail _ hu)) h2)
theorem nzL_len : ∀ (s : List Sh) (l : List DV), (nzL s l).length = l.length
  | [], l => by cases l <;> rfl
  | s :: ss, [] => rfl
  | s :: ss, c :: l => by simp [nzL, nzL_len ss l]
theorem putC_cvs {op : Bool} {s : List Sh} {cs cs2 : List DV} {cs' : List Value} (h : putC op s cs = some cs2) (ht : TVs S cs cs') : CVs S op cs2 cs' [] := by
  unfold putC at h
  cases op with
  | true =>
    simp only [cond_true] at h
    split at h
    · cases h; exact ht.cvs_op
    · cases h
  | false =>
    simp only [cond_false] at h
    split at h
    · rename_i hc; cases h
      exact okCs_cvs s (fun v hv => List.all_eq_true.1 hc v hv) ht
    · cases h
end

theorem CV.mono {S S' : St} {op : Bool} {v : DV} {x : Value} {F : List Nat} (h : CV S op v x F) (hF : ∀ b ∈ F, S'.σ.mem b = S.σ.mem b) (ht : ∀ v x, TV S v x → TV S' v x) : CV S' op v x F := by
  cases h with
  | rv h1 h2 => exact .rv h1 (h2.keep hF)
  | tv h1 h2 => exact .tv h1 (ht _ _ h2)
theorem CVs.mono {S S' : St} {op : Bool} (ht : ∀ v x, TV S v x → TV S' v x) : ∀ {l : List DV} {l' : List Value} {F : List Nat}, CVs S op l l' F → (∀ b ∈ F, S'.σ.mem b = S.σ.mem b) → CVs S' op l l' F
  | [], _, _, h, _ => by cases h; exact .nil
  | v :: l, _, _, h, hF => by
    cases h with
    | cons h1 h2 => exact .cons (h1.mono (fun b hb => hF b (List.mem_append_left _ hb)) ht) (CVs.mono ht h2 fun b hb => hF b (List.mem_append_right _ hb))
theorem HB.mono {S S' : St} {id : Nat} {blk : PB} {F : List Nat} (h : HB S id blk F) (hι : S'.ι id = S.ι id) (hF : ∀ b ∈ F, S'.σ.mem b = S.σ.mem b) (ht : ∀ v x, TV S v x → TV S' v x) : HB S' id blk F := by
  cases h with
  | none h1 h2 => exact .none (hι.trans h1) h2
  | some b lo lb Fs h1 h2 h3 h4 h5 =>
    refine .some b lo lb Fs (hι.trans h1) (by rw [hF b (.head _)]; exact h2) h3 h4 fun i e he => CVs.mono ht (h5 i e he) fun k hk => hF k (.tail _ (List.mem_flatMap.2 ⟨i, ?_, hk⟩))
    exact List.mem_range.2 (List.getElem?_eq_some_iff.1 he).1

/-- one own block changes, or is new -/
theorem HOk.one {S S' : St} (hS : HOk S) (id0 : Nat) (ht : ∀ v x, TV S v x → TV S' v x)
    (hμ : ∀ j, j ≠ id0 → S'.μ[j]? = S.μ[j]?) (hι : ∀ j, j ≠ id0 → S'.ι j = S.ι j) (hFm : ∀ j, j ≠ id0 → S'.Fm j = S.Fm j)
    (hmem : ∀ (j : Nat) blk, j ≠ id0 → S.μ[j]? = some blk → blk.live = true → ∀ b ∈ S.Fm j, S'.σ.mem b = S.σ.mem b ∧ ¬ S'.Z b)
    (hzl : ∀ b, S'.Z b → b < S'.σ.next) (hmd : MD S'.σ)
    (hnew : ∀ blk, S'.μ[id0]? = some blk → blk.live = true → HB S' id0 blk (S'.Fm id0) ∧ (S'.Fm id0).Nodup ∧ (∀ b ∈ S'.Fm id0, ¬ S'.Z b) ∧ (∀ b ∈ S'.Fm id0, ∃ lb, S'.σ.mem b = some lb ∧ lb.wr = true) ∧
      ∀ (j : Nat) blk', j ≠ id0 → S.μ[j]? = some blk' → blk'.live = true → ∀ b ∈ S'.Fm id0, b ∉ S.Fm j) : HOk S' := by
  refine ⟨fun id blk h1 h2 => ?_, fun id blk h1 h2 => ?_, fun id blk h1 h2 => ?_, fun id blk h1 h2 => ?_, fun id id' blk blk' h1 h2 h3 h4 hne b hb => ?_, hzl, hmd⟩
  · by_cases he : id = id0
    · subst he; exact (hnew blk h1 h2).1
    · rw [hμ id he] at h1
      rw [hFm id he]
      exact (hS.hb id blk h1 h2).mono (hι id he) (fun b hb => (hmem id blk he h1 h2 b hb).1) ht
  · by_cases he : id = id0
    · subst he; exact (hnew blk h1 h2).2.1
    · rw [hμ id he] at h1; rw [hFm id he]; exact hS.nd id blk h1 h2
  · by_cases he : id = id0
    · subst he; exact (hnew blk h1 h2).2.2.1
    · rw [hμ id he] at h1; rw [hFm id he]; exact fun b hb => (hmem id blk he h1 h2 b hb).2
  · by_cases he : id = id0
    · subst he; exact (hnew blk h1 h2).2.2.2.1
    · rw [hμ id he] at h1; rw [hFm id he]
      intro b hb
      rw [(hmem id blk he h1 h2 b hb).1]; exact hS.wr id blk h1 h2 b hb
  · by_cases he : id = id0
    · subst he
      rw [hμ id' (Ne.symm hne)] at h3
      rw [hFm id' (Ne.symm hne)]
      exact (hnew blk h1 h2).2.2.2.2 id' blk' (Ne.symm hne) h3 h4 b hb
    · rw [hμ id he] at h1
      rw [hFm id he] at hb
      by_cases he' : id' = id0
      · subst he'
        exact fun hh => (hnew blk' h3 h4).2.2.2.2 id blk he h1 h2 b hh hb
      · rw [hμ id' he'] at h3; rw [hFm id' he']
        exact hS.dj id id' blk blk' h1 h2 h3 h4 hne b hb

/-- blocks that no own block owns any more -/
structure Loose (S : St) (F : List Nat) : Prop where
  nd : F.Nodup
  nz : ∀ b ∈ F, ¬ S.Z b
  wr : ∀ b ∈ F, ∃ lb, S.σ.mem b = some lb ∧ lb.wr = true
  nf : ∀ b ∈ F, ¬ foot S b
theorem Loose.sub {S : St} {F G : List Nat} (h : Loose S F) (hs : G.Sublist F) : Loose S G :=
  ⟨h.nd.sublist hs, fun b hb => h.nz b (hs.subset hb), fun b hb => h.wr b (hs.subset hb), fun b hb => h.nf b (hs.subset hb)⟩
theorem HOk.flt {S : St} (hS : HOk S) {b : Nat} (h : foot S b) : b < S.σ.next := by
  obtain ⟨id, blk, h1, h2, h3⟩ := h
  obtain ⟨lb, h4, _⟩ := hS.wr id blk h1 h2 b h3
  exact hS.md.lt h4
theorem Loose.lt {S : St} {F : List Nat} (h : Loose S F) (hS : HOk S) : ∀ b ∈ F, b < S.σ.next := fun b hb => by
  obtain ⟨lb, h4, _⟩ := h.wr b hb
  exact hS.md.lt h4

/-! ## a block more -/
def updN {α : Type} (f : Nat → α) (k : Nat) (x : α) : Nat → α := fun j => if j = k then x else f j
@[simp] theorem updN_same {α : Type} (f : Nat → α) (k : Nat) (x : α) : updN f k x k = x := by simp [updN]
theorem updN_ne {α : Type} (f : Nat → α) {k j : Nat} (x : α) (h : j ≠ k) : updN f k x j = f j := by simp [updN, h]

theorem get_app {μ : PH} {b : PB} (j : Nat) (h : j ≠ μ.length) : (μ ++ [b])[j]? = μ[j]? := by
  rcases Nat.lt_or_ge j μ.length with h1 | h1
  · rw [List.getElem?_append_left h1]
  · rw [List.getElem?_eq_none h1, List.getElem?_eq_none (by simp; omega)]
theorem get_app_self {μ : PH} {b : PB} : (μ ++ [b])[μ.length]? = some b := by simp
theorem get_set_ne {μ : PH} {b : PB} {i : Nat} (j : Nat) (h : j ≠ i) : (μ.set i b)[j]? = μ[j]? := by rw [List.getElem?_set_ne (Ne.symm h)]

theorem own_foot {S : St} (hS : HOk S) {id : Nat} {blk : PB} (h : S.μ[id]? = some blk) (hl : blk.live = true) {b lo : Nat} (hι : S.ι id = some (b, lo)) : foot S b := by
  have hB := hS.hb id blk h hl
  refine ⟨id, blk, h, hl, ?_⟩
  generalize hF : S.Fm id = F at hB
  cases hB with
  | none q1 q2 => rw [q1] at hι; cases hι
  | some x1 x2 x3 x4 q1 q2 q3 q4 q5 => rw [q1] at hι; cases hι; exact .head _
/-- a row that nobody writes is put at the heap's end -/
def St.pushZ (S : St) (cells : List Value) : St := { S with σ := S.σ.push { cells := cells }, Z := fun b => S.Z b ∨ b = S.σ.next }
theorem push_mem (σ : LH) (b : Blk) {k : Nat} (h : k < σ.next) : (σ.push b).mem k = σ.mem k := by simp only [LH.push]; rw [if_neg (by omega)]
theorem push_self (σ : LH) (b : Blk) : (σ.push b).mem σ.next = some b := by simp [LH.push]
theorem push_md {σ : LH} (h : MD σ) (b : Blk) : MD (σ.push b) := fun k hk => by
  simp only [LH.push] at hk ⊢
  rw [if_neg (by omega)]; exact h k (by omega)
theorem SegOk.mem {σ σ' : LH} {b lo hi : Nat} (h : σ'.mem b = σ.mem b) : SegOk σ σ' b lo hi := fun lb hl => ⟨lb, by rw [h]; exact hl, rfl, rfl, fun _ _ => rfl⟩

theorem pushZ_ok {S : St} (hS : HOk S) (cells : List Value) : HOk (S.pushZ cells) ∧ Later S (S.pushZ cells) := by
  have hm : ∀ b, b < S.σ.next → (S.pushZ cells).σ.mem b = S.σ.mem b := fun b hb => push_mem _ _ hb
  have hL : Later S (S.pushZ cells) := by
    refine ⟨Nat.le_succ _, fun b hb => .inl hb, fun b hb => hb.elim .inl fun h => .inr (.inr (by omega)), fun b hb _ => hm b hb, Nat.le_refl _, fun id b h => ⟨b, h, Nat.le_refl _, fun _ hl => ⟨hl, ⟨rfl, fun k lo hk => by unfold lenOf; rw [hm k (hS.flt (own_foot hS h hl hk))]⟩, rfl, rfl, rfl, rfl⟩⟩, fun id blk h hl hw => ⟨blk, h, hl, rfl, fun b lo hb => ?_⟩, fun b hb => .inl hb⟩
    intro lb hlb
    exact ⟨lb, by rw [hm b (hS.md.lt hlb)]; exact hlb, rfl, rfl, fun _ _ => rfl⟩
  refine ⟨?_, hL⟩
  refine hS.one S.μ.length (fun v x h => h.later hL hS) (fun _ _ => rfl) (fun _ _ => rfl) (fun _ _ => rfl) (fun j blk hj h1 h2 b hb => ?_) (fun b hb => ?_) (push_md hS.md _) (fun blk h => ?_)
  · have hlt := hS.flt ⟨j, blk, h1, h2, hb⟩
    refine ⟨hm b hlt, fun hh => hh.elim (hS.nz j blk h1 h2 b hb) (fun h => by omega)⟩
  · rcases hb with hb | hb
    · have := hS.zl b hb; show b < S.σ.next + 1; omega
    · show b < S.σ.next + 1; omega
  · have : S.μ[S.μ.length]? = some blk := h
    rw [List.getElem?_eq_none (Nat.le_refl _)] at this; cases this

/-- a new own block, with a row of its own -/
def St.addO (S : St) (cells : List Value) (pb : PB) : St :=
  { S with σ := S.σ.push { cells := cells }, μ := S.μ ++ [pb], ι := updN S.ι S.μ.length (some (S.σ.next, 0)), Fm := updN S.Fm S.μ.length [S.σ.next] }
theorem foot_app {S S' : St} {pb : PB} (hμ : S'.μ = S.μ ++ [pb]) (hF : ∀ j, j ≠ S.μ.length → S'.Fm j = S.Fm j) {b : Nat} (h : foot S' b) : foot S b ∨ (pb.live = true ∧ b ∈ S'.Fm S.μ.length) := by
  obtain ⟨id, blk, h1, h2, h3⟩ := h
  rw [hμ] at h1
  by_cases he : id = S.μ.length
  · subst he; rw [get_app_self] at h1; cases h1; exact .inr ⟨h2, h3⟩
  · rw [get_app _ he] at h1; rw [hF id he] at h3; exact .inl ⟨id, blk, h1, h2, h3⟩
theorem lv_app {S S' : St} (hS : HOk S) {pb : PB} (hμ : S'.μ = S.μ ++ [pb]) (hι : ∀ j, j ≠ S.μ.length → S'.ι j = S.ι j) (hm : ∀ b, b < S.σ.next → S'.σ.mem b = S.σ.mem b) (id : Nat) (b : PB) (h : S.μ[id]? = some b) :
    ∃ b', S'.μ[id]? = some b' ∧ b.ver ≤ b'.ver ∧ (b'.ver = b.ver → b'.live = true → b.live = true ∧ SameAt S S' id ∧ b'.sh = b.sh ∧ b'.el.length = b.el.length ∧ b'.op = b.op ∧ b'.whole = b.whole) := by
  have hlt := (List.getElem?_eq_some_iff.1 h).1
  exact ⟨b, by rw [hμ, get_app _ (by omega)]; exact h, Nat.le_refl _, fun _ hl => ⟨hl, ⟨hι id (by omega), fun k lo hk => by unfold lenOf; rw [hm k (hS.flt (own_foot hS h hl hk))]⟩, rfl, rfl, rfl, rfl⟩⟩
theorem flatMap_nil (n : Nat) : (List.range n).flatMap (fun _ => ([] : List Nat)) = [] := by
  induction n with
  | zero => rfl
  | succ n ih => rw [List.range_succ, List.flatMap_append, ih]; rfl

theorem addO_later {S : St} (hS : HOk S) (cells : List Value) (pb : PB) : Later S (S.addO cells pb) := by
  have hm : ∀ b, b < S.σ.next → (S.addO cells pb).σ.mem b = S.σ.mem b := fun b hb => push_mem _ _ hb
  refine ⟨Nat.le_succ _, fun b hb => hb, fun b hb => .inl hb, fun b hb _ => hm b hb, by simp [St.addO], lv_app hS rfl (fun j hj => updN_ne _ _ hj) hm, fun id blk h hl hw => ?_, fun b hb => ?_⟩
  · have hlt := (List.getElem?_eq_some_iff.1 h).1
    refine ⟨blk, by show (S.μ ++ [pb])[id]? = _; rw [get_app _ (by omega)]; exact h, hl, rfl, fun b lo hb lb hlb => ⟨lb, by rw [hm b (hS.md.lt hlb)]; exact hlb, rfl, rfl, fun _ _ => rfl⟩⟩
  · rcases foot_app rfl (fun j hj => updN_ne _ _ hj) hb with h | ⟨_, h⟩
    · exact .inl h
    · have : b ∈ [S.σ.next] := by simpa [St.addO] using h
      simp at this; omega
theorem addO_ok {S : St} (hS : HOk S) {cells : List Value} {pb : PB} (hl : pb.el.length * pb.sh.length ≤ cells.length)
    (hc : ∀ i e, pb.el[i]? = some e → CVs S pb.op (cellsD e) (cellsAt cells pb.sh.length i) []) : HOk (S.addO cells pb) ∧ Later S (S.addO cells pb) := by
  have hL := addO_later hS cells pb
  refine ⟨hS.one S.μ.length (fun v x h => h.later hL hS) (fun j hj => get_app _ hj) (fun j hj => updN_ne _ _ hj) (fun j hj => updN_ne _ _ hj) (fun j blk hj h1 h2 b hb => ⟨push_mem _ _ (hS.flt ⟨j, blk, h1, h2, hb⟩), hS.nz j blk h1 h2 b hb⟩)
    (fun b hb => by have := hS.zl b hb; show b < S.σ.next + 1; omega) (push_md hS.md _) (fun blk h hlv => ?_), hL⟩
  have : (S.μ ++ [pb])[S.μ.length]? = some blk := h
  rw [get_app_self] at this; cases this
  have hF : (S.addO cells pb).Fm S.μ.length = [S.σ.next] := by simp [St.addO]
  rw [hF]
  refine ⟨?_, by simp, fun b hb hz => ?_, fun b hb => ?_, fun j blk' hj h1 h2 b hb hh => ?_⟩
  · have := HB.some (S := S.addO cells pb) (id := S.μ.length) (blk := pb) S.σ.next 0 { cells := cells } (fun _ => []) (by simp [St.addO]) (push_self _ _) rfl (by simpa using hl)
      (fun i e he => CVs.mono (fun v x h => h.later hL hS) (by simpa using hc i e he) (fun b hb => by cases hb))
    rwa [flatMap_nil] at this
  · simp at hb; subst hb; have := hS.zl _ hz; omega
  · simp at hb; subst hb; exact ⟨_, push_self _ _, rfl⟩
  · simp at hb; subst hb; have := hS.flt ⟨j, blk', h1, h2, hh⟩; omega

/-- a block of own memory is told no more -/
def St.drop (S : St) (id : Nat) : St := { S with μ := kl S.μ id }
theorem kl_get {μ : PH} {id : Nat} (j : Nat) : (kl μ id)[j]? = if j = id then (μ[id]?).map (fun b => { b with live := false, el := [] }) else μ[j]? := by
  unfold kl
  cases h : μ[id]? with
  | none =>
    by_cases he : j = id
    · subst he; simp [h]
    · simp [he]
  | some b =>
    by_cases he : j = id
    · subst he; simp only [if_true, Option.map_some]; rw [List.getElem?_set_self (List.getElem?_eq_some_iff.1 h).1]
    · simp only [if_neg he]; exact get_set_ne j he
theorem kl_len (μ : PH) (id : Nat) : (kl μ id).length = μ.length := by unfold kl; split <;> simp
/-- some blocks are told no more -/
structure Kil (μ μ' : PH) : Prop where
  len : μ'.length = μ.length
  get : ∀ j : Nat, μ'[j]? = μ[j]? ∨ ∃ b, μ[j]? = some b ∧ b.whole = true ∧ μ'[j]? = some { b with live := false, el := [] }
def St.w (S : St) (μ : PH) : St := { S with μ := μ }
theorem Kil.refl (μ : PH) : Kil μ μ := ⟨rfl, fun _ => .inl rfl⟩
theorem Kil.trans {a b c : PH} (h : Kil a b) (k : Kil b c) : Kil a c := ⟨k.len.trans h.len, fun j => by
  rcases k.get j with h1 | ⟨x, h1, h2, h3⟩
  · rw [h1]; exact h.get j
  · rcases h.get j with g1 | ⟨y, g1, g2, g3⟩
    · exact .inr ⟨x, by rw [← g1]; exact h1, h2, h3⟩
    · rw [g3] at h1; cases h1
      exact .inr ⟨y, g1, g2, h3⟩⟩
theorem Kil.live {μ μ' : PH} (h : Kil μ μ') {j : Nat} {b : PB} (h1 : μ'[j]? = some b) (h2 : b.live = true) : μ[j]? = some b := by
  rcases h.get j with g | ⟨x, g1, g2, g3⟩
  · rw [← g]; exact h1
  · rw [g3] at h1; cases h1; cases h2
theorem Kil.foot {S : St} {μ' : PH} (h : Kil S.μ μ') {b : Nat} (hf : foot (S.w μ') b) : foot S b := by
  obtain ⟨j, blk, h1, h2, h3⟩ := hf
  exact ⟨j, blk, h.live h1 h2, h2, h3⟩
theorem Kil.later {S : St} {μ' : PH} (h : Kil S.μ μ') : Later S (S.w μ') := by
  refine ⟨Nat.le_refl _, fun _ hb => hb, fun _ hb => .inl hb, fun _ _ _ => rfl, by show S.μ.length ≤ μ'.length; rw [h.len]; exact Nat.le_refl _, fun j b hb => ?_, fun j b hb hl hw => ?_, fun b hb => .inl (h.foot hb)⟩
  · rcases h.get j with g | ⟨x, g1, g2, g3⟩
    · exact ⟨b, by show μ'[j]? = _; rw [g]; exact hb, Nat.le_refl _, fun _ hl => ⟨hl, ⟨rfl, fun _ _ _ => rfl⟩, rfl, rfl, rfl, rfl⟩⟩
    · rw [hb] at g1; cases g1
      exact ⟨_, g3, Nat.le_refl _, fun _ hl => by cases hl⟩
  · rcases h.get j with g | ⟨x, g1, g2, g3⟩
    · exact ⟨b, by show μ'[j]? = _; rw [g]; exact hb, hl, rfl, fun _ _ _ => SegOk.refl _ _ _ _⟩
    · rw [hb] at g1; cases g1; rw [hw] at g2; cases g2
theorem Kil.hok {S : St} {μ' : PH} (h : Kil S.μ μ') (hS : HOk S) : HOk (S.w μ') := by
  have ht : ∀ v x, TV S v x → TV (S.w μ') v x := fun v x hv => hv.later h.later hS
  refine ⟨fun j blk h1 h2 => ?_, fun j blk h1 h2 => hS.nd j blk (h.live h1 h2) h2, fun j blk h1 h2 => hS.nz j blk (h.live h1 h2) h2, fun j blk h1 h2 => hS.wr j blk (h.live h1 h2) h2,
    fun j j' blk blk' h1 h2 h3 h4 => hS.dj j j' blk blk' (h.live h1 h2) h2 (h.live h3 h4) h4, hS.zl, hS.md⟩
  exact (hS.hb j blk (h.live h1 h2) h2).mono rfl (fun _ _ => rfl) ht
theorem Loose.kil {S : St} {μ' : PH} {F : List Nat} (h : Loose S F) (k : Kil S.μ μ') : Loose (S.w μ') F := ⟨h.nd, h.nz, h.wr, fun b hb hf => h.nf b hb (k.foot hf)⟩
theorem kl_kil {μ : PH} {id : Nat} {b : PB} (hb : μ[id]? = some b) (hw : b.whole = true) : Kil μ (kl μ id) := ⟨kl_len _ _, fun j => by
  rw [kl_get]
  by_cases he : j = id
  · subst he; rw [if_pos rfl, hb]; exact .inr ⟨b, rfl, hw, rfl⟩
  · rw [if_neg he]; exact .inl rfl⟩
theorem kl_loose {S : St} (hS : HOk S) {id : Nat} {blk : PB} (hb : S.μ[id]? = some blk) (hl : blk.live = true) : Loose (S.w (kl S.μ id)) (S.Fm id) ∧ ∀ b, foot (S.w (kl S.μ id)) b → foot S b := by
  have hk : ∀ (j : Nat) blk', (kl S.μ id)[j]? = some blk' → blk'.live = true → j ≠ id ∧ S.μ[j]? = some blk' := fun j blk' h1 h2 => by
    rw [kl_get] at h1
    split at h1
    · rw [hb] at h1; simp at h1; subst h1; cases h2
    · exact ⟨by assumption, h1⟩
  refine ⟨⟨hS.nd id blk hb hl, hS.nz id blk hb hl, hS.wr id blk hb hl, fun b hb' ⟨j, blk', h1, h2, h3⟩ => ?_⟩, fun b ⟨j, blk', h1, h2, h3⟩ => ⟨j, blk', (hk j blk' h1 h2).2, h2, h3⟩⟩
  obtain ⟨h4, h5⟩ := hk j blk' h1 h2
  exact hS.dj j id blk' blk h5 h2 hb hl h4 b h3 hb'
end Go.Lg.Pv
namespace Go.Lg.Pv
open Go Go.Lg
set_option linter.unusedVariables false
set_option linter.unnecessarySimpa false
set_option linter.unusedSimpArgs false
set_option linter.unusedSectionVars false

theorem flatMap_succ (n : Nat) (f : Nat → List Nat) : (List.range (n + 1)).flatMap f = f 0 ++ (List.range n).flatMap (fun i => f (i + 1)) := by
  rw [List.range_succ_eq_map, List.flatMap_cons, List.flatMap_map]
theorem flatMap_congr {n : Nat} {f g : Nat → List Nat} (h : ∀ i, i < n → f i = g i) : (List.range n).flatMap f = (List.range n).flatMap g := by
  induction n with
  | zero => rfl
  | succ n ih => rw [List.range_succ, List.flatMap_append, List.flatMap_append, ih fun i hi => h i (by omega)]; simp [h n (by omega)]

/-! ## given away -/
/-- what a taking function gives -/
def TkOk (f : PH → Sh → DV → Option (DV × PH)) : Prop := ∀ (S : St) s v v' μ', HOk S → f S.μ s v = some (v', μ') → ∀ x F, CV S false v x F → Loose S F →
  Kil S.μ μ' ∧ ∃ F', RV S.σ v' x F' ∧ Loose (S.w μ') F' ∧ ∀ b ∈ F', b ∈ F ∨ foot S b

theorem Loose.join {S : St} {μ1 μ2 : PH} {F1 F2 F1' F2' : List Nat} (hF : Loose S (F1 ++ F2)) (k1 : Kil S.μ μ1) (k2 : Kil μ1 μ2) (h1 : Loose (S.w μ1) F1') (s1 : ∀ b ∈ F1', b ∈ F1 ∨ foot S b) (h2 : Loose (S.w μ2) F2') (s2 : ∀ b ∈ F2', b ∈ F2 ∨ foot (S.w μ1) b) :
    Loose (S.w μ2) (F1' ++ F2') := by
  have h1' : Loose (S.w μ2) F1' := h1.kil (S := S.w μ1) k2
  refine ⟨List.nodup_append.2 ⟨h1.nd, h2.nd, fun a ha b hb he => ?_⟩, fun b hb => (List.mem_append.1 hb).elim (h1.nz b) (h2.nz b), fun b hb => (List.mem_append.1 hb).elim (h1.wr b) (h2.wr b), fun b hb => (List.mem_append.1 hb).elim (h1'.nf b) (h2.nf b)⟩
  subst he
  rcases s2 a hb with g | g
  · rcases s1 a ha with g1 | g1
    · exact (List.nodup_append.1 hF.nd).2.2 a g1 a g rfl
    · exact hF.nf a (List.mem_append_right _ g) g1
  · exact h1.nf a ha g

theorem zipS_sim {f : PH → Sh → DV → Option (DV × PH)} (hf : TkOk f) : ∀ (cs : List DV) (S : St) (s : List Sh) (r : List DV) (μ' : PH), HOk S → zipS f S.μ s cs = some (r, μ') → ∀ cs' F, CVs S false cs cs' F → Loose S F →
    Kil S.μ μ' ∧ ∃ F', RVs S.σ r cs' F' ∧ Loose (S.w μ') F' ∧ ∀ b ∈ F', b ∈ F ∨ foot S b
  | [], S, s, r, μ', hS, h, cs', F, hc, hF => by
    cases s <;> (simp only [zipS, Option.some.injEq, Prod.mk.injEq] at h; obtain ⟨rfl, rfl⟩ := h; cases hc; exact ⟨Kil.refl _, [], .nil, hF, fun b hb => by cases hb⟩)
  | c :: cs, S, s, r, μ', hS, h, cs', F, hc, hF => by
    cases hc with
    | @cons _ x F1 _ l' F2 hc1 hc2 =>
      simp only [zipS] at h
      obtain ⟨p, hp, h⟩ := Option.bind_eq_some_iff.1 h
      obtain ⟨q, hq, h⟩ := Option.bind_eq_some_iff.1 h
      cases h
      obtain ⟨k1, F1', g1, g2, g3⟩ := hf S _ c p.1 p.2 hS hp x F1 hc1 (hF.sub (List.sublist_append_left _ _))
      have hS1 := k1.hok hS
      have hF2 : Loose (S.w p.2) F2 := (hF.sub (List.sublist_append_right _ _)).kil k1
      have hc2' : CVs (S.w p.2) false cs l' F2 := hc2.mono (fun v x hv => hv.later k1.later hS) fun _ _ => rfl
      obtain ⟨k2, F2', e1, e2, e3⟩ := zipS_sim hf cs (S.w p.2) _ q.1 q.2 hS1 hq l' F2 hc2' hF2
      refine ⟨k1.trans k2, F1' ++ F2', .cons g1 e1, Loose.join hF k1 k2 g2 g3 e2 e3, fun b hb => ?_⟩
      rcases List.mem_append.1 hb with hb | hb
      · exact (g3 b hb).imp (List.mem_append_left _) id
      · exact (e3 b hb).imp (List.mem_append_right _) k1.foot
theorem cv_cell {S : St} {op : Bool} {v : DV} {cs' : List Value} {F : List Nat} (hv : ∀ l, v ≠ .agg l) (h : CVs S op (cellsD v) cs' F) : ∃ x, cs' = [x] ∧ CV S op v x F := by
  have hc : cellsD v = [v] := by cases v <;> first | rfl | exact absurd rfl (hv _)
  rw [hc] at h
  cases h with
  | cons h1 h2 => cases h2; exact ⟨_, rfl, by simpa using h1⟩
theorem rv_agg {σ : LH} {v : DV} {x : Value} {F : List Nat} (h : RV σ v x F) (hx : one x = true) : ∀ l, v ≠ .agg l := fun l he => by
  subst he; cases h; simp [one] at hx
theorem RV.one {σ : LH} {v : DV} {x : Value} {F : List Nat} (h : RV σ v x F) (hv : ∀ l, v ≠ .agg l) : Lg.one x = true := by
  cases h <;> first | rfl | assumption | exact absurd rfl (hv _)
theorem CV.one {S : St} {op : Bool} {v : DV} {x : Value} {F : List Nat} (h : CV S op v x F) (hv : ∀ l, v ≠ .agg l) : Lg.one x = true := by
  cases h with
  | rv _ h => exact h.one hv
  | tv _ h => exact h.one hv
theorem cellsD_one {v : DV} (hv : ∀ l, v ≠ .agg l) : cellsD v = [v] := by cases v <;> first | rfl | exact absurd rfl (hv _)
theorem onS_sim {f : PH → Sh → DV → Option (DV × PH)} (hf : TkOk f) {S : St} {s : List Sh} {e e' : DV} {μ' : PH} (hS : HOk S) (h : onS f S.μ s e = some (e', μ')) {cs' : List Value} {F : List Nat} (hc : CVs S false (cellsD e) cs' F) (hF : Loose S F) :
    Kil S.μ μ' ∧ ∃ F', RVs S.σ (cellsD e') cs' F' ∧ Loose (S.w μ') F' ∧ ∀ b ∈ F', b ∈ F ∨ foot S b := by
  unfold onS at h
  split at h
  · rename_i cs
    obtain ⟨p, hp, h⟩ := Option.map_eq_some_iff.1 h
    cases h
    exact zipS_sim hf cs S s p.1 p.2 hS hp cs' F hc hF
  · rename_i hv
    obtain ⟨x, rfl, hx⟩ := cv_cell hv hc
    obtain ⟨k1, F1', g1, g2, g3⟩ := hf S _ e e' μ' hS h x F hx hF
    refine ⟨k1, F1', ?_, g2, g3⟩
    rw [cellsD_one (rv_agg g1 (hx.one hv))]
    have := RVs.cons g1 .nil
    rwa [List.append_nil] at this
theorem mapS_sim {f : PH → Sh → DV → Option (DV × PH)} (hf : TkOk f) (s : List Sh) : ∀ (es : List DV) (S : St) (r : List DV) (μ' : PH) (C : Nat → List Value) (Fs : Nat → List Nat), HOk S → mapS f s S.μ es = some (r, μ') →
    (∀ i e, es[i]? = some e → CVs S false (cellsD e) (C i) (Fs i)) → Loose S ((List.range es.length).flatMap Fs) →
    Kil S.μ μ' ∧ ∃ Fs', r.length = es.length ∧ (∀ (i : Nat) e, r[i]? = some e → RVs S.σ (cellsD e) (C i) (Fs' i)) ∧ Loose (S.w μ') ((List.range es.length).flatMap Fs') ∧ ∀ b ∈ (List.range es.length).flatMap Fs', b ∈ (List.range es.length).flatMap Fs ∨ foot S b
  | [], S, r, μ', C, Fs, hS, h, hc, hF => by
    simp only [mapS, Option.some.injEq, Prod.mk.injEq] at h
    obtain ⟨rfl, rfl⟩ := h
    exact ⟨Kil.refl _, Fs, rfl, fun i e he => by simp at he, hF, fun b hb => .inl hb⟩
  | e :: es, S, r, μ', C, Fs, hS, h, hc, hF => by
    simp only [mapS] at h
    obtain ⟨p, hp, h⟩ := Option.bind_eq_some_iff.1 h
    obtain ⟨q, hq, h⟩ := Option.bind_eq_some_iff.1 h
    cases h
    rw [List.length_cons, flatMap_succ] at hF
    obtain ⟨k1, F1', g1, g2, g3⟩ := onS_sim hf hS (e' := p.1) (μ' := p.2) hp (hc 0 e rfl) (hF.sub (List.sublist_append_left _ _))
    have hS1 := k1.hok hS
    have hF2 : Loose (S.w p.2) _ := (hF.sub (List.sublist_append_right _ _)).kil k1
    obtain ⟨k2, Fs', e0, e1, e2, e3⟩ := mapS_sim hf s es (S.w p.2) q.1 q.2 (fun i => C (i + 1)) (fun i => Fs (i + 1)) hS1 hq
      (fun i e he => (hc (i + 1) e (by simpa using he)).mono (fun v x hv => hv.later k1.later hS) fun _ _ => rfl) hF2
    refine ⟨k1.trans k2, fun i => match i with | 0 => F1' | i + 1 => Fs' i, by simp [e0], fun i e' he => ?_, ?_, fun b hb => ?_⟩
    · cases i with
      | zero => simp at he; subst he; exact g1
      | succ i => exact e1 i e' (by simpa using he)
    · rw [List.length_cons, flatMap_succ]; exact Loose.join hF k1 k2 g2 g3 e2 e3
    · rw [List.length_cons, flatMap_succ] at hb ⊢
      rcases List.mem_append.1 hb with hb | hb
      · exact (g3 b hb).imp (List.mem_append_left _) id
      · exact (e3 b hb).imp (List.mem_append_right _) k1.foot

theorem cl_cells {e : DV} (h : cl e = true) : clL (cellsD e) = true := by cases e <;> simp_all [cellsD, cl, clL]
theorem clL_mem : ∀ {l : List DV}, clL l = true → ∀ e ∈ l, cl e = true
  | [], _, e, he => by cases he
  | a :: l, h, e, he => by
    simp only [clL, Bool.and_eq_true] at h
    cases he with
    | head => exact h.1
    | tail _ he => exact clL_mem h.2 e he
theorem rv_sl_of {S : St} {sh : List Sh} {l : List DV} {b o c : Nat} {blk : Blk} {P : Nat → Prop} (h0 : P b) (h1 : S.σ.mem b = some blk) (h2 : l.length ≤ c / 2) (h3 : o + l.length * sh.length ≤ blk.cells.length) (h3' : blk.wr = true → o + c / 2 * sh.length ≤ blk.cells.length)
    (h : ∀ i e, l[i]? = some e → ∃ F, RVs S.σ (cellsD e) (cellsAt (blk.cells.drop o) sh.length i) F ∧ ∀ b ∈ F, P b) : ∃ F, RV S.σ (.sl sh l) (.slice (some ⟨b, o, some sh.length⟩) l.length c) F ∧ ∀ b ∈ F, P b := by
  have : ∀ i, ∃ F, ∀ e, l[i]? = some e → RVs S.σ (cellsD e) (cellsAt (blk.cells.drop o) sh.length i) F ∧ ∀ b ∈ F, P b := fun i => by
    cases he : l[i]? with
    | none => exact ⟨[], fun e h => by cases h⟩
    | some e =>
      obtain ⟨F, g1, g2⟩ := h i e he
      exact ⟨F, fun e' h => by cases h; exact ⟨g1, g2⟩⟩
  obtain ⟨Fs, hFs⟩ := Classical.axiomOfChoice this
  refine ⟨_, .sl sh l b o c blk Fs h1 h2 h3 h3' fun i e he => (hFs i e he).1, fun k hk => ?_⟩
  cases hk with
  | head => exact h0
  | tail _ hk =>
    obtain ⟨i, hi, hki⟩ := List.mem_flatMap.1 hk
    exact (hFs i _ (List.getElem?_eq_getElem (List.mem_range.1 hi))).2 k hki
theorem TV.rv_of_cl {S : St} {v : DV} {x : Value} (h : TV S v x) : cl v = true → ∃ F, RV S.σ v x F ∧ ∀ b ∈ F, S.Z b := by
  refine TV.rec (motive_1 := fun v x _ => cl v = true → ∃ F, RV S.σ v x F ∧ ∀ b ∈ F, S.Z b) (motive_2 := fun l l' _ => clL l = true → ∃ F, RVs S.σ l l' F ∧ ∀ b ∈ F, S.Z b)
    ?_ ?_ ?_ ?_ ?_ ?_ ?_ ?_ ?_ ?_ ?_ ?_ ?_ ?_ ?_ ?_ ?_ ?_ ?_ ?_ h
  · exact fun k n _ => ⟨[], .int k n, fun b hb => by cases hb⟩
  · exact fun b _ => ⟨[], .bool b, fun b hb => by cases hb⟩
  · exact fun s _ => ⟨[], .str s, fun b hb => by cases hb⟩
  · exact fun _ => ⟨[], .nilF, fun b hb => by cases hb⟩
  · exact fun _ => ⟨[], .nilI, fun b hb => by cases hb⟩
  · exact fun _ => ⟨[], .nilP, fun b hb => by cases hb⟩
  · intro hc; simp [cl] at hc
  · intro z hc; simp [cl] at hc
  · intro z b o hc; simp [cl] at hc
  · intro v h hc; simp [cl] at hc
  · exact fun sh _ => ⟨[], .slN sh, fun b hb => by cases hb⟩
  · exact fun sh b o _ => ⟨[], .slE sh b o, fun b hb => by cases hb⟩
  · intro sh l b o c blk h0 h1 h2 h3 h3' h4 ih hc
    refine rv_sl_of h0 h1 h2 h3 h3' fun i e he => ih i e he (cl_cells (clL_mem (by simpa [cl] using hc) e (List.mem_of_getElem? he)))
  · intro e off b o blk h0 h1 h2 h3 ih hc
    obtain ⟨F, g1, g2⟩ := ih (cl_cells (by simpa [cl] using hc))
    exact ⟨b :: F, .rp e off b o blk F h1 h2 g1, fun k hk => by cases hk with | head => exact h0 | tail _ hk => exact g2 k hk⟩
  · intro f a b a' b' h1 h2 ih1 ih2 hc
    simp only [cl, Bool.and_eq_true] at hc
    obtain ⟨F, g1, g2⟩ := ih1 hc.1
    obtain ⟨G, e1, e2⟩ := ih2 hc.2
    exact ⟨F ++ G, .fn f a b a' b' F G g1 e1, fun k hk => (List.mem_append.1 hk).elim (g2 k) (e2 k)⟩
  · intro l l' h ih hc
    obtain ⟨F, g1, g2⟩ := ih (by simpa [cl] using hc)
    exact ⟨F, .agg l l' F g1, g2⟩
  · intro id ver o n c xx _ h1 h2 h3 hc; simp [cl] at hc
  · intro id ver i off _ h1 h2 h3 hc; simp [cl] at hc
  · exact fun _ => ⟨[], .nil, fun b hb => by cases hb⟩
  · intro v x l l' h1 h2 ih1 ih2 hc
    simp only [clL, Bool.and_eq_true] at hc
    obtain ⟨F, g1, g2⟩ := ih1 hc.1
    obtain ⟨G, e1, e2⟩ := ih2 hc.2
    exact ⟨F ++ G, .cons g1 e1, fun k hk => (List.mem_append.1 hk).elim (g2 k) (e2 k)⟩
theorem TVs.rv_of_cl {S : St} {l : List DV} {l' : List Value} (h : TVs S l l') (hc : clL l = true) : ∃ F, RVs S.σ l l' F ∧ ∀ b ∈ F, S.Z b := by
  obtain ⟨F, h1, h2⟩ := TV.rv_of_cl (.agg l l' h) (by simpa [cl] using hc)
  cases h1 with | agg _ _ _ h1 => exact ⟨F, h1, h2⟩

/-! ## a part of an own block -/
/-- the elements of a part of a block, as its slice shows them -/
theorem own_part {S : St} (hS : HOk S) {id ver o n c : Nat} {xx : Bool} {x : Value} {blk : PB} (hb : bk S.μ id ver = some blk) (hx : OwnR S blk id o n c xx x) :
    (n = 0 ∧ (blk.el.drop o).take n = [] ∧ (x = .slice none 0 0 ∨ ∃ b' o', x = .slice (some ⟨b', o', some blk.sh.length⟩) 0 1)) ∨
    ∃ b lo lb Fs cc, x = .slice (some ⟨b, lo + o * blk.sh.length, some blk.sh.length⟩) n cc ∧ n ≤ cc / 2 ∧ S.ι id = some (b, lo) ∧ S.σ.mem b = some lb ∧ lb.wr = true ∧ S.Fm id = b :: (List.range blk.el.length).flatMap Fs ∧
      lo + blk.el.length * blk.sh.length ≤ lb.cells.length ∧ o + c ≤ blk.el.length ∧ n ≤ c ∧ c ≤ cc / 2 ∧ (xx = true → cc = 2 * c + 1) ∧ lo + o * blk.sh.length + cc / 2 * blk.sh.length ≤ lb.cells.length ∧
      (∀ i e, blk.el[i]? = some e → CVs S blk.op (cellsD e) (cellsAt (lb.cells.drop lo) blk.sh.length i) (Fs i)) ∧
      ((blk.el.drop o).take n).length = n ∧
      ∀ i e, ((blk.el.drop o).take n)[i]? = some e → CVs S blk.op (cellsD e) (cellsAt (lb.cells.drop (lo + o * blk.sh.length)) blk.sh.length i) (Fs (o + i)) := by
  obtain ⟨h1, h2, h3⟩ := bk_some hb
  rcases hx with ⟨rfl, rfl, rfl, hv⟩ | ⟨b, lo, cc, e1, rfl, e2, e3, e4, e5, e6⟩
  · exact .inl ⟨rfl, by simp, hv⟩
  · have hB := hS.hb id blk h1 h2
    generalize hF : S.Fm id = F at hB
    cases hB with
    | none g1 g2 => rw [g1] at e1; cases e1
    | some b' lo' lb Fs g1 g2 g3 g4 g5 =>
      rw [g1] at e1; cases e1
      refine .inr ⟨b, lo, lb, Fs, cc, rfl, by omega, g1, g2, g3, rfl, g4, e4, e2, e3, e5, by unfold lenOf at e6; rw [g2] at e6; exact e6, g5, by rw [List.length_take, List.length_drop]; omega, fun i e he => ?_⟩
      rw [List.getElem?_take] at he
      split at he
      · rw [List.getElem?_drop] at he
        have := g5 _ e he
        unfold cellsAt at this ⊢
        rw [List.drop_drop] at this ⊢
        rw [show lo + o * blk.sh.length + i * blk.sh.length = lo + (o + i) * blk.sh.length by rw [Nat.add_mul]; omega]
        exact this
      · cases he

theorem flatMap_part {n m o : Nat} (h : o + n ≤ m) (f : Nat → List Nat) : ((List.range n).flatMap fun i => f (o + i)).Sublist ((List.range m).flatMap f) := by
  have e : List.range m = List.range o ++ ((List.range n).map (o + ·) ++ (List.range (m - o - n)).map (fun i => o + n + i)) := by
    apply List.ext_getElem?
    intro k
    rw [List.getElem?_append, List.getElem?_append]
    simp only [List.length_range, List.length_map, List.getElem?_map, List.getElem?_range']
    by_cases h1 : k < o
    · simp [h1, List.getElem?_range, show k < m by omega]
    · by_cases h2 : k - o < n
      · simp [h1, h2, List.getElem?_range, show k < m by omega]; omega
      · by_cases h3 : k < m
        · rw [if_neg h1, if_neg h2, List.getElem?_range h3, List.getElem?_range (by omega)]; simp; omega
        · rw [if_neg h1, if_neg h2, List.getElem?_eq_none (by simp; omega), List.getElem?_eq_none (by simp; omega)]; rfl
  rw [e, List.flatMap_append, List.flatMap_append, List.flatMap_map]
  exact (List.sublist_append_left _ _).trans (List.sublist_append_right _ _)

theorem CVs.rvs {S : St} {l : List DV} {l' : List Value} {F : List Nat} (h : CVs S false l l' F) (hc : clL l = true) : RVs S.σ l l' F := by
  induction l generalizing l' F with
  | nil => cases h; exact .nil
  | cons v l ih =>
    simp only [clL, Bool.and_eq_true] at hc
    cases h with
    | cons h1 h2 =>
      refine .cons ?_ (ih h2 hc.2)
      cases h1 with
      | rv _ h => exact h
      | tv ho _ =>
        rcases ho with ho | ho
        · cases ho
        · cases v <;> simp_all [isOwn, cl]

/-- elements, with what they lead to, taken out of loose blocks -/
theorem onSs_sim {f : PH → Sh → DV → Option (DV × PH)} (hf : TkOk f) {S : St} {s : List Sh} {es r : List DV} {μ' : PH} {C : Nat → List Value} {Fs : Nat → List Nat} (hS : HOk S) (h : onSs f S.μ s es = some (r, μ'))
    (hc : ∀ i e, es[i]? = some e → CVs S false (cellsD e) (C i) (Fs i)) (hF : Loose S ((List.range es.length).flatMap Fs)) :
    Kil S.μ μ' ∧ ∃ Fs', r.length = es.length ∧ (∀ (i : Nat) e, r[i]? = some e → RVs S.σ (cellsD e) (C i) (Fs' i)) ∧ Loose (S.w μ') ((List.range es.length).flatMap Fs') ∧ ∀ b ∈ (List.range es.length).flatMap Fs', b ∈ (List.range es.length).flatMap Fs ∨ foot S b := by
  unfold onSs at h
  split at h
  · rename_i hcl
    simp only [Option.some.injEq, Prod.mk.injEq] at h
    obtain ⟨rfl, rfl⟩ := h
    exact ⟨Kil.refl _, Fs, rfl, fun i e he => (hc i e he).rvs (cl_cells (clL_mem hcl e (List.mem_of_getElem? he))), hF, fun b hb => .inl hb⟩
  · exact mapS_sim hf s es S r μ' C Fs hS h hc hF

theorem vwC_ok : ∀ k, TkOk (vwC k)
  | 0 => fun S s v v' μ' hS h => by simp [vwC] at h
  | k + 1 => fun S s v v' μ' hS h x F hx hF => by
    simp only [vwC] at h
    split at h
    · rename_i hcl
      simp only [Option.some.injEq, Prod.mk.injEq] at h
      obtain ⟨rfl, rfl⟩ := h
      refine ⟨Kil.refl _, F, ?_, hF, fun b hb => .inl hb⟩
      cases hx with
      | rv _ h => exact h
      | tv ho _ =>
        rcases ho with ho | ho
        · cases ho
        · cases v <;> simp_all [isOwn, cl]
    · cases v <;> try (simp only [reduceCtorEq] at h; done)
      · rename_i id ver o n c xx _
        cases hx with
        | rv _ h => cases h
        | tv _ hx =>
        obtain ⟨blk, hb, h⟩ := Option.bind_eq_some_iff.1 h
        split at h
        · rename_i hw
          obtain ⟨p, hp, h⟩ := Option.map_eq_some_iff.1 h
          cases h
          obtain ⟨b1, b2, b3⟩ := bk_some hb
          have k1 := kl_kil b1 hw.1
          have hS1 := k1.hok hS
          obtain ⟨hl1, _⟩ := kl_loose hS b1 b2
          rcases own_part hS hb (hx.own_inv.2.2 blk hb) with ⟨rfl, he, hv⟩ | ⟨b, lo, lb, Fs, cc, rfl, g0, g1, g2, g3, g4, g5, g6, g7, g8, g9, g9', g10, g11, g12⟩
          · rw [he] at hp
            simp only [onSs, clL, if_true, Option.some.injEq] at hp
            subst hp
            refine ⟨k1, [], ?_, ⟨List.nodup_nil, fun b hb => by (cases hb), fun b hb => by (cases hb), fun b hb => by (cases hb)⟩, fun b hb => by cases hb⟩
            rcases hv with rfl | ⟨b', o', rfl⟩
            · exact .slN _
            · exact .slE _ _ _
          · rw [g4] at hl1
            have hsub : (b :: (List.range n).flatMap fun i => Fs (o + i)).Sublist (b :: (List.range blk.el.length).flatMap Fs) := (flatMap_part (by omega) Fs).cons_cons b
            have hl2 := hl1.sub hsub
            have hop : blk.op = false := hw.2
            obtain ⟨k2, Fs', e1, e2, e3, e4⟩ := onSs_sim (vwC_ok k) (S := S.w (kl S.μ id)) (C := fun i => cellsAt (lb.cells.drop (lo + o * blk.sh.length)) blk.sh.length i) (Fs := fun i => Fs (o + i)) hS1 hp
              (fun i e he => by rw [hop] at g12; exact (g12 i e he).mono (fun v x hv => hv.later k1.later hS) fun _ _ => rfl)
              (by rw [g11]; exact hl2.sub (List.sublist_cons_self _ _))
            rw [g11] at e1 e3 e4
            refine ⟨k1.trans k2, b :: (List.range n).flatMap Fs', ?_, ⟨List.nodup_cons.2 ⟨fun hb => ?_, e3.nd⟩, fun y hy => ?_, fun y hy => ?_, fun y hy => ?_⟩, fun y hy => ?_⟩
            · have hmul : o * blk.sh.length + n * blk.sh.length ≤ blk.el.length * blk.sh.length := by rw [← Nat.add_mul]; exact Nat.mul_le_mul_right _ (by omega)
              have := RV.sl (σ := S.σ) blk.sh p.1 b (lo + o * blk.sh.length) cc lb Fs' g2 (by rw [e1]; exact g0) (by rw [e1]; omega) (fun _ => g9') e2
              rwa [e1] at this
            · rcases e4 b hb with h1 | h1
              · exact (List.nodup_cons.1 hl2.nd).1 h1
              · exact hl2.nf b (.head _) h1
            · cases hy with
              | head => exact hl2.nz b (.head _)
              | tail _ hy => exact e3.nz y hy
            · cases hy with
              | head => exact hl2.wr b (.head _)
              | tail _ hy => exact e3.wr y hy
            · cases hy with
              | head => exact fun hf => hl2.nf b (.head _) (k2.foot hf)
              | tail _ hy => exact e3.nf y hy
            · have hfo : ∀ y, y ∈ b :: (List.range n).flatMap (fun i => Fs (o + i)) → foot S y := fun y hy => ⟨id, blk, b1, b2, by rw [g4]; exact hsub.subset hy⟩
              cases hy with
              | head => exact .inr (hfo b (.head _))
              | tail _ hy =>
                rcases e4 y hy with h1 | h1
                · exact .inr (hfo y (.tail _ h1))
                · exact .inr (k1.foot h1)
        · cases h
end Go.Lg.Pv
namespace Go.Lg.Pv
open Go Go.Lg
set_option linter.unusedVariables false
set_option linter.unnecessarySimpa false
set_option linter.unusedSimpArgs false
set_option linter.unusedSectionVars false

/-- all that own blocks own, taken as frozen -/
def St.frz (S : St) : St := { S with Z := fun b => S.Z b ∨ foot S b }
theorem TV.frz {S : St} {v : DV} {x : Value} (h : TV S v x) : TV S.frz v x :=
  TV.mono (S' := S.frz) (fun b hb => ⟨.inl hb, rfl⟩) (fun id b hb => ⟨b, hb, Nat.le_refl _, fun _ hl => ⟨hl, ⟨rfl, fun _ _ _ => rfl⟩, rfl, rfl⟩⟩) h
theorem TVs.frz {S : St} {l : List DV} {l' : List Value} (h : TVs S l l') : TVs S.frz l l' := by
  have := (TV.agg l l' h).frz
  cases this with | agg _ _ h => exact h
theorem CV.frz {S : St} {op : Bool} {v : DV} {x : Value} {F : List Nat} (h : CV S op v x F) (hF : ∀ b ∈ F, foot S b) : TV S.frz v x := by
  cases h with
  | rv _ h => exact RV.tv (S := S.frz) h fun b hb => .inr (hF b hb)
  | tv _ h => exact h.frz
theorem CVs.frz {S : St} {op : Bool} : ∀ {l : List DV} {l' : List Value} {F : List Nat}, CVs S op l l' F → (∀ b ∈ F, foot S b) → TVs S.frz l l'
  | [], _, _, h, _ => by cases h; exact .nil
  | v :: l, _, _, h, hF => by
    cases h with
    | cons h1 h2 => exact .cons (h1.frz fun b hb => hF b (List.mem_append_left _ hb)) (CVs.frz h2 fun b hb => hF b (List.mem_append_right _ hb))

def SnOk (S : St) (f : Sh → DV → Option DV) : Prop := ∀ s v v' x, f s v = some v' → TV S.frz v x → ∃ F, RV S.σ v' x F ∧ ∀ b ∈ F, S.frz.Z b
section
variable {S : St} {f : Sh → DV → Option DV}
theorem zipO_ok (hf : SnOk S f) : ∀ (cs : List DV) (s : List Sh) (r : List DV) (cs' : List Value), zipO f s cs = some r → TVs S.frz cs cs' → ∃ F, RVs S.σ r cs' F ∧ ∀ b ∈ F, S.frz.Z b
  | [], s, r, cs', h, ht => by
    cases s <;> (simp only [zipO, Option.some.injEq] at h; subst h; cases ht; exact ⟨[], .nil, fun b hb => by cases hb⟩)
  | c :: cs, s, r, _, h, ht => by
    cases ht with
    | cons h1 h2 =>
      simp only [zipO] at h
      obtain ⟨p, hp, h⟩ := Option.bind_eq_some_iff.1 h
      obtain ⟨q, hq, h⟩ := Option.bind_eq_some_iff.1 h
      cases h
      obtain ⟨F, g1, g2⟩ := hf _ _ _ _ hp h1
      obtain ⟨G, e1, e2⟩ := zipO_ok hf cs _ q _ hq h2
      exact ⟨F ++ G, .cons g1 e1, fun b hb => (List.mem_append.1 hb).elim (g2 b) (e2 b)⟩
/-- an element: its cells -/
theorem onE_ok (hf : SnOk S f) {s : List Sh} {e r : DV} {cs' : List Value} (h : onE f s e = some r) (ht : TVs S.frz (cellsD e) cs') : ∃ F, RVs S.σ (cellsD r) cs' F ∧ ∀ b ∈ F, S.frz.Z b := by
  unfold onE at h
  split at h
  · obtain ⟨p, hp, h⟩ := Option.map_eq_some_iff.1 h
    cases h
    exact zipO_ok hf _ _ _ _ hp ht
  · rename_i hv
    rw [cellsD_one hv] at ht
    cases ht with
    | cons h1 h2 =>
      cases h2
      obtain ⟨F, g1, g2⟩ := hf _ _ _ _ h h1
      refine ⟨F, ?_, g2⟩
      rw [cellsD_one (rv_agg g1 (h1.one hv))]
      have := RVs.cons g1 .nil
      rwa [List.append_nil] at this
/-- a value that may be of several cells -/
theorem onE_val (hf : SnOk S f) {s : List Sh} {v r : DV} {x : Value} (h : onE f s v = some r) (ht : TV S.frz v x) : ∃ F, RV S.σ r x F ∧ ∀ b ∈ F, S.frz.Z b := by
  unfold onE at h
  split at h
  · obtain ⟨p, hp, h⟩ := Option.map_eq_some_iff.1 h
    cases h
    obtain ⟨l', rfl, hl⟩ := ht.agg_inv
    obtain ⟨F, g1, g2⟩ := zipO_ok hf _ _ _ _ hp hl
    exact ⟨F, .agg _ _ F g1, g2⟩
  · exact hf _ _ _ _ h ht
theorem mapO_vals (hf : SnOk S f) : ∀ (l r : List DV) (l' : List Value), mapO (onE f []) l = some r → TVs S.frz l l' → ∃ F, RVs S.σ r l' F ∧ ∀ b ∈ F, S.frz.Z b
  | [], r, l', h, ht => by
    simp only [mapO, Option.some.injEq] at h; subst h; cases ht; exact ⟨[], .nil, fun b hb => by cases hb⟩
  | v :: l, r, _, h, ht => by
    cases ht with
    | cons h1 h2 =>
      simp only [mapO] at h
      obtain ⟨p, hp, h⟩ := Option.bind_eq_some_iff.1 h
      obtain ⟨q, hq, h⟩ := Option.bind_eq_some_iff.1 h
      cases h
      obtain ⟨F, g1, g2⟩ := onE_val hf hp h1
      obtain ⟨G, e1, e2⟩ := mapO_vals hf l q _ hq h2
      exact ⟨F ++ G, .cons g1 e1, fun b hb => (List.mem_append.1 hb).elim (g2 b) (e2 b)⟩
theorem mapO_get {α β : Type} {g : α → Option β} : ∀ {l : List α} {r : List β}, mapO g l = some r → r.length = l.length ∧ ∀ (i : Nat) y, r[i]? = some y → ∃ x, l[i]? = some x ∧ g x = some y
  | [], r, h => by simp only [mapO, Option.some.injEq] at h; subst h; exact ⟨rfl, fun i y h => by simp at h⟩
  | a :: l, r, h => by
    simp only [mapO] at h
    obtain ⟨p, hp, h⟩ := Option.bind_eq_some_iff.1 h
    obtain ⟨q, hq, h⟩ := Option.bind_eq_some_iff.1 h
    cases h
    obtain ⟨h1, h2⟩ := mapO_get hq
    refine ⟨by simp [h1], fun i y hy => ?_⟩
    cases i with
    | zero => simp at hy; subst hy; exact ⟨a, rfl, hp⟩
    | succ i => simpa using h2 i y (by simpa using hy)
theorem onEs_ok (hf : SnOk S f) {s : List Sh} {es r : List DV} {C : Nat → List Value} (h : onEs f s es = some r) (ht : ∀ i e, es[i]? = some e → TVs S.frz (cellsD e) (C i)) :
    r.length = es.length ∧ ∀ (i : Nat) e, r[i]? = some e → ∃ F, RVs S.σ (cellsD e) (C i) F ∧ ∀ b ∈ F, S.frz.Z b := by
  unfold onEs at h
  split at h
  · rename_i hc
    cases h
    exact ⟨rfl, fun i e he => TVs.rv_of_cl (S := S.frz) (ht i e he) (cl_cells (clL_mem hc e (List.mem_of_getElem? he)))⟩
  · obtain ⟨h1, h2⟩ := mapO_get h
    refine ⟨h1, fun i e he => ?_⟩
    obtain ⟨x, g1, g2⟩ := h2 i e he
    exact onE_ok hf g2 (ht i x g1)
end

theorem snC_ok {S : St} (hS : HOk S) : ∀ k, SnOk S (snC S.μ k)
  | 0 => fun s v v' x h => by simp [snC] at h
  | k + 1 => fun s v v' x h hx => by
    simp only [snC] at h
    split at h
    · rename_i hc
      cases h
      exact hx.rv_of_cl hc
    · cases v <;> try (simp only [reduceCtorEq] at h; done)
      · cases s with
        | sc => simp at h
        | sl e => simp only [Option.some.injEq] at h; subst h; rw [hx.nil_inv]; exact ⟨[], .slN e, fun b hb => by cases hb⟩
      · cases s with
        | sc => simp at h
        | sl e =>
          simp only at h
          split at h
          · rename_i z _ hz
            cases h
            subst hz
            rcases hx.e0_inv with rfl | ⟨b, o, rfl⟩
            · exact ⟨[], .slN e, fun b hb => by cases hb⟩
            · exact ⟨[], .slE e b o, fun b hb => by cases hb⟩
          · cases h
      · rename_i sh l _
        obtain ⟨p, hp, h⟩ := Option.map_eq_some_iff.1 h
        cases h
        rcases hx.sl_inv with ⟨rfl, hv⟩ | ⟨b, o, c, blk, rfl, h0, h1, h2, h3, h3', h4⟩
        · simp only [onEs, clL, if_true, Option.some.injEq] at hp
          subst hp
          rcases hv with rfl | ⟨b, o, rfl⟩
          · exact ⟨[], .slN sh, fun b hb => by cases hb⟩
          · exact ⟨[], .slE sh b o, fun b hb => by cases hb⟩
        · obtain ⟨e1, e2⟩ := onEs_ok (snC_ok hS k) (C := fun i => cellsAt (blk.cells.drop o) sh.length i) hp h4
          have := rv_sl_of (S := S) (l := p) (P := S.frz.Z) h0 h1 (c := c) (by rw [e1]; exact h2) (by rw [e1]; exact h3) h3' e2
          rwa [e1] at this
      · rename_i e off _
        obtain ⟨p, hp, h⟩ := Option.map_eq_some_iff.1 h
        cases h
        obtain ⟨b, o, blk, rfl, h0, h1, h2, h3⟩ := hx.rp_inv
        obtain ⟨F, g1, g2⟩ := onE_ok (snC_ok hS k) hp h3
        have hl : (cellsD p).length = (cellsD e).length := g1.len.trans h3.len.symm
        refine ⟨b :: F, .rp p off b o blk F h1 (by rw [hl]; exact h2) (by rw [hl]; exact g1), fun k hk => ?_⟩
        cases hk with
        | head => exact h0
        | tail _ hk => exact g2 k hk
      · rename_i f a b _
        obtain ⟨p, hp, h⟩ := Option.bind_eq_some_iff.1 h
        obtain ⟨q, hq, h⟩ := Option.map_eq_some_iff.1 h
        cases h
        obtain ⟨a', b', rfl, h1, h2⟩ := hx.fn_inv
        obtain ⟨F, g1, g2⟩ := mapO_vals (snC_ok hS k) a p a' hp h1
        obtain ⟨G, e1, e2⟩ := mapO_vals (snC_ok hS k) b q b' hq h2
        exact ⟨F ++ G, .fn f p q a' b' F G g1 e1, fun k hk => (List.mem_append.1 hk).elim (g2 k) (e2 k)⟩
      · rename_i id ver o n c xx _
        obtain ⟨blk, hb, h⟩ := Option.bind_eq_some_iff.1 h
        obtain ⟨p, hp, h⟩ := Option.map_eq_some_iff.1 h
        cases h
        obtain ⟨b1, b2, b3⟩ := bk_some hb
        rcases own_part hS hb (hx.own_inv.2.2 blk hb) with ⟨rfl, he, hv⟩ | ⟨b, lo, lb, Fs, cc, rfl, g0, g1, g2, g3, g4, g5, g6, g7, g8, g9, g9', g10, g11, g12⟩
        · rw [he] at hp
          simp only [onEs, clL, if_true, Option.some.injEq] at hp
          subst hp
          rcases hv with rfl | ⟨b', o', rfl⟩
          · exact ⟨[], .slN _, fun b hb => by cases hb⟩
          · exact ⟨[], .slE _ _ _, fun b hb => by cases hb⟩
        · have hfo : ∀ i, o + i < blk.el.length → ∀ y ∈ Fs (o + i), foot S y := fun i hi y hy => ⟨id, blk, b1, b2, by rw [g4]; exact .tail _ (List.mem_flatMap.2 ⟨o + i, List.mem_range.2 hi, hy⟩)⟩
          obtain ⟨e1, e2⟩ := onEs_ok (snC_ok hS k) (C := fun i => cellsAt (lb.cells.drop (lo + o * blk.sh.length)) blk.sh.length i) hp fun i e he => by
            have hi := (List.getElem?_eq_some_iff.1 he).1
            rw [g11] at hi
            exact (g12 i e he).frz (hfo i (by omega))
          rw [g11] at e1
          have hmul : o * blk.sh.length + n * blk.sh.length ≤ blk.el.length * blk.sh.length := by rw [← Nat.add_mul]; exact Nat.mul_le_mul_right _ (by omega)
          have := rv_sl_of (S := S) (l := p) (sh := blk.sh) (P := S.frz.Z) (b := b) (o := lo + o * blk.sh.length) (c := cc) (blk := lb) (.inr ⟨id, blk, b1, b2, by rw [g4]; exact .head _⟩) g2 (by rw [e1]; exact g0) (by rw [e1]; omega) (fun _ => g9') e2
          rwa [e1] at this
      · rename_i id ver i off _
        obtain ⟨blk, hb, h⟩ := Option.bind_eq_some_iff.1 h
        obtain ⟨e, he, h⟩ := Option.bind_eq_some_iff.1 h
        obtain ⟨p, hp, h⟩ := Option.map_eq_some_iff.1 h
        cases h
        obtain ⟨b1, b2, b3⟩ := bk_some hb
        obtain ⟨b, lo, g1, rfl⟩ := hx.ptr_inv.2.2 blk hb
        have hB := hS.hb id blk b1 b2
        generalize hF : S.Fm id = F0 at hB
        cases hB with
        | none g2 g3 => rw [show S.frz.ι id = S.ι id from rfl, g2] at g1; cases g1
        | some b' lo' lb Fs g2 g3 g4 g5 g6 =>
          rw [show S.frz.ι id = S.ι id from rfl, g2] at g1; cases g1
          have hi := (List.getElem?_eq_some_iff.1 he).1
          have hfo : ∀ y ∈ Fs i, foot S y := fun y hy => ⟨id, blk, b1, b2, by rw [hF]; exact .tail _ (List.mem_flatMap.2 ⟨i, List.mem_range.2 hi, hy⟩)⟩
          obtain ⟨F, e1, e2⟩ := onE_ok (snC_ok hS k) hp ((g6 i e he).frz hfo)
          have hmul : (i + 1) * blk.sh.length ≤ blk.el.length * blk.sh.length := Nat.mul_le_mul_right _ hi
          rw [Nat.succ_mul] at hmul
          have hlen : (cellsAt (lb.cells.drop lo) blk.sh.length i).length = blk.sh.length := cellsAt_len (n := blk.el.length) (by rw [List.length_drop]; omega) hi
          have hl : (cellsD p).length = blk.sh.length := by rw [e1.len, hlen]
          refine ⟨b :: F, .rp p off b (lo + i * blk.sh.length) lb F g3 (by rw [hl]; omega) ?_, fun k hk => ?_⟩
          · rw [hl]
            have : (lb.cells.drop (lo + i * blk.sh.length)).take blk.sh.length = cellsAt (lb.cells.drop lo) blk.sh.length i := by unfold cellsAt; rw [List.drop_drop]
            rw [this]; exact e1
          · cases hk with
            | head => exact .inr ⟨id, blk, b1, b2, by rw [hF]; exact .head _⟩
            | tail _ hk => exact e2 k hk

/-! ## a value that is given away by a frame -/
theorem tkC_ok {S : St} {s : Sh} {v v' : DV} {μ' : PH} (hS : HOk S) (h : tkC S.μ s v = some (v', μ')) {x : Value} (hx : TV S v x) :
    Kil S.μ μ' ∧ ∃ F', RV S.σ v' x F' ∧ Loose (S.w μ') F' ∧ ∀ b ∈ F', foot S b := by
  unfold tkC at h
  have e0 : Loose S [] := ⟨List.nodup_nil, fun b hb => (by cases hb), fun b hb => (by cases hb), fun b hb => (by cases hb)⟩
  split at h
  · rename_i hc
    simp only [Option.some.injEq, Prod.mk.injEq] at h
    obtain ⟨rfl, rfl⟩ := h
    refine ⟨Kil.refl _, [], ?_, e0, fun b hb => by cases hb⟩
    cases hx <;> first | (simp [isSc] at hc; done) | constructor
  · cases v <;> try (simp only [reduceCtorEq] at h; done)
    · cases s with
      | sc => simp at h
      | sl e =>
        simp only [Option.some.injEq, Prod.mk.injEq] at h
        obtain ⟨rfl, rfl⟩ := h
        rw [hx.nil_inv]; exact ⟨Kil.refl _, [], .slN e, e0, fun b hb => by cases hb⟩
    · cases s with
      | sc => simp at h
      | sl e =>
        simp only at h
        split at h
        · rename_i z _ hz
          simp only [Option.some.injEq, Prod.mk.injEq] at h
          obtain ⟨rfl, rfl⟩ := h
          subst hz
          rcases hx.e0_inv with rfl | ⟨b, o, rfl⟩
          · exact ⟨Kil.refl _, [], .slN e, e0, fun b hb => by cases hb⟩
          · exact ⟨Kil.refl _, [], .slE e b o, e0, fun b hb => by cases hb⟩
        · cases h
    · obtain ⟨k1, F', g1, g2, g3⟩ := vwC_ok 5 S s _ v' μ' hS h x [] (.tv (.inr rfl) hx) e0
      exact ⟨k1, F', g1, g2, fun b hb => (g3 b hb).resolve_left nofun⟩

/-! ## a value that is taken in -/
/-- what is put behind -/
structure More (S S' : St) : Prop where
  σ : S'.σ = S.σ
  z : S'.Z = S.Z
  len : S.μ.length ≤ S'.μ.length
  old : ∀ j, j < S.μ.length → S'.μ[j]? = S.μ[j]? ∧ S'.ι j = S.ι j ∧ S'.Fm j = S.Fm j
theorem More.refl (S : St) : More S S := ⟨rfl, rfl, Nat.le_refl _, fun _ _ => ⟨rfl, rfl, rfl⟩⟩
theorem More.trans {A B C : St} (h : More A B) (k : More B C) : More A C := ⟨k.σ.trans h.σ, k.z.trans h.z, Nat.le_trans h.len k.len, fun j hj => by
  obtain ⟨a1, a2, a3⟩ := h.old j hj
  obtain ⟨b1, b2, b3⟩ := k.old j (Nat.lt_of_lt_of_le hj h.len)
  exact ⟨b1.trans a1, b2.trans a2, b3.trans a3⟩⟩
theorem More.tv {S S' : St} (h : More S S') {v : DV} {x : Value} (hx : TV S v x) : TV S' v x :=
  hx.mono (fun b hb => ⟨by rw [h.z]; exact hb, by rw [h.σ]⟩) fun id b hb => by
    obtain ⟨a1, a2, a3⟩ := h.old id (List.getElem?_eq_some_iff.1 hb).1
    exact ⟨b, a1.trans hb, Nat.le_refl _, fun _ hl => ⟨hl, ⟨a2, fun _ _ _ => by rw [h.σ]⟩, rfl, rfl⟩⟩
theorem More.tvs {S S' : St} (h : More S S') {l : List DV} {l' : List Value} (hx : TVs S l l') : TVs S' l l' := by
  have := h.tv (.agg l l' hx)
  cases this with | agg _ _ h => exact h

def St.addV (S : St) (pb : PB) (at_ : Option (Nat × Nat)) (F : List Nat) : St := { S with μ := S.μ ++ [pb], ι := updN S.ι S.μ.length at_, Fm := updN S.Fm S.μ.length F }
theorem addV_more (S : St) (pb : PB) (a : Option (Nat × Nat)) (F : List Nat) : More S (S.addV pb a F) :=
  ⟨rfl, rfl, by simp [St.addV], fun j hj => ⟨get_app j (by omega), updN_ne _ _ (by omega), updN_ne _ _ (by omega)⟩⟩
theorem addV_ok {S : St} (hS : HOk S) {pb : PB} {a : Option (Nat × Nat)} {F : List Nat} (hF : Loose S F) (hb : HB (S.addV pb a F) S.μ.length pb F) : HOk (S.addV pb a F) ∧ ∀ b, foot (S.addV pb a F) b → foot S b ∨ b ∈ F := by
  have hm := addV_more S pb a F
  have hFm : (S.addV pb a F).Fm S.μ.length = F := by simp [St.addV]
  refine ⟨hS.one S.μ.length (fun v x h => hm.tv h) (fun j hj => get_app j hj) (fun j hj => updN_ne _ _ hj) (fun j hj => updN_ne _ _ hj) (fun j blk hj h1 h2 b hb => ⟨rfl, hS.nz j blk h1 h2 b hb⟩) hS.zl hS.md (fun blk h hl => ?_), fun b hb => ?_⟩
  · have : (S.μ ++ [pb])[S.μ.length]? = some blk := h
    rw [get_app_self] at this; cases this
    rw [hFm]
    exact ⟨hb, hF.nd, hF.nz, hF.wr, fun j blk' hj h1 h2 b hb hh => hF.nf b hb ⟨j, blk', h1, h2, hh⟩⟩
  · rcases foot_app (S := S) (S' := S.addV pb a F) rfl (fun j hj => updN_ne _ _ hj) hb with h | ⟨_, h⟩
    · exact .inl h
    · rw [hFm] at h; exact .inr h

theorem RVs.cvs {S : St} {l : List DV} {l' : List Value} {F : List Nat} (h : RVs S.σ l l' F) : CVs S false l l' F := by
  induction l generalizing l' F with
  | nil => cases h; exact .nil
  | cons v l ih => cases h with | cons h1 h2 => exact .cons (.rv rfl h1) (ih h2)

theorem unfL_sim (wh : Bool) : ∀ (cs : List DV) (S : St) (cs' : List Value) (F : List Nat), HOk S → CVs S false cs cs' F → (∀ c ∈ cs, okC c = true ∨ isSl c = true) → Loose S F →
    ∃ S', S'.μ = (unfL wh S.μ cs).2 ∧ More S S' ∧ HOk S' ∧ (∀ b, foot S' b → foot S b ∨ b ∈ F) ∧ TVs S' (unfL wh S.μ cs).1 cs' ∧ ∀ v ∈ (unfL wh S.μ cs).1, okC v = true
  | [], S, cs', F, hS, hc, hok, hF => by
    cases hc
    exact ⟨S, rfl, More.refl S, hS, fun b hb => .inl hb, .nil, fun v hv => by cases hv⟩
  | c :: cs, S, _, _, hS, hc, hok, hF => by
    cases hc with
    | @cons _ x F1 _ l' F2 h1 h2 =>
      by_cases hsl : isSl c = true
      · cases c <;> simp only [isSl, Bool.false_eq_true] at hsl
        rename_i sh l
        have hrv : RV S.σ (.sl sh l) x F1 := by
          cases h1 with
          | rv _ h => exact h
          | tv ho _ => rcases ho with ho | ho <;> cases ho
        -- the new block
        have key : ∃ a, HOk (S.addV ⟨0, sh, l, true, false, wh⟩ a F1) ∧ TV (S.addV ⟨0, sh, l, true, false, wh⟩ a F1) (.own S.μ.length 0 0 l.length l.length false) x ∧ ∀ b, foot (S.addV ⟨0, sh, l, true, false, wh⟩ a F1) b → foot S b ∨ b ∈ F1 := by
          have hid : ∀ a, ∃ b, (S.addV ⟨0, sh, l, true, false, wh⟩ a F1).μ[S.μ.length]? = some b ∧ 0 ≤ b.ver := fun a => ⟨_, get_app_self, Nat.zero_le _⟩
          have hbk : ∀ a blk, bk (S.addV ⟨0, sh, l, true, false, wh⟩ a F1).μ S.μ.length 0 = some blk → blk = ⟨0, sh, l, true, false, wh⟩ := fun a blk h => by
            have := (bk_some h).1
            rw [show (S.addV ⟨0, sh, l, true, false, wh⟩ a F1).μ[S.μ.length]? = some ⟨0, sh, l, true, false, wh⟩ from get_app_self] at this
            cases this; rfl
          have hl1 := hF.sub (List.sublist_append_left F1 F2)
          cases hrv with
          | slN =>
            obtain ⟨g1, g2⟩ := addV_ok (pb := ⟨0, sh, [], true, false, wh⟩) (a := none) hS hl1 (.none (by simp [St.addV]) rfl)
            exact ⟨none, g1, .own _ _ _ _ _ _ _ (hid none) rfl fun blk hb => by rw [hbk none blk hb]; exact .inl ⟨rfl, rfl, rfl, .inl rfl⟩, g2⟩
          | slE _ b o =>
            obtain ⟨g1, g2⟩ := addV_ok (pb := ⟨0, sh, [], true, false, wh⟩) (a := none) hS hl1 (.none (by simp [St.addV]) rfl)
            exact ⟨none, g1, .own _ _ _ _ _ _ _ (hid none) rfl fun blk hb => by rw [hbk none blk hb]; exact .inl ⟨rfl, rfl, rfl, .inr ⟨b, o, rfl⟩⟩, g2⟩
          | sl _ _ b o c blk Fs e1 e2 e3 e3' e4 =>
            have hwr : blk.wr = true := by
              obtain ⟨lb, k1, k2⟩ := hl1.wr b (.head _)
              rw [e1] at k1; cases k1; exact k2
            obtain ⟨g1, g2⟩ := addV_ok (pb := ⟨0, sh, l, true, false, wh⟩) (a := some (b, o)) hS hl1 (.some b o blk Fs (by simp [St.addV]) e1 hwr e3 fun i e he => RVs.cvs (S := S.addV _ _ _) (e4 i e he))
            refine ⟨some (b, o), g1, .own _ _ _ _ _ _ _ (hid _) rfl fun blk' hb => ?_, g2⟩
            rw [hbk _ blk' hb]
            exact .inr ⟨b, o, c, by simp [St.addV], by simp, Nat.le_refl _, e2, by simp, nofun, by unfold lenOf; rw [show (S.addV ⟨0, sh, l, true, false, wh⟩ (some (b, o)) _).σ.mem b = some blk from e1]; simpa using e3' hwr⟩
        obtain ⟨a, k1, k2, k3⟩ := key
        have hm := addV_more S ⟨0, sh, l, true, false, wh⟩ a F1
        have hF2 : Loose (S.addV ⟨0, sh, l, true, false, wh⟩ a F1) F2 := by
          have h2 := hF.sub (List.sublist_append_right F1 F2)
          refine ⟨h2.nd, h2.nz, h2.wr, fun b hb hf => ?_⟩
          rcases k3 b hf with h | h
          · exact h2.nf b hb h
          · exact (List.nodup_append.1 hF.nd).2.2 b h b hb rfl
        obtain ⟨S', e1, e2, e3, e4, e5, e6⟩ := unfL_sim wh cs _ l' F2 k1 (h2.mono (fun v x h => hm.tv h) fun _ _ => rfl) (fun c hc => hok c (.tail _ hc)) hF2
        refine ⟨S', e1, hm.trans e2, e3, fun b hb => ?_, .cons (e2.tv k2) e5, fun v hv => ?_⟩
        · rcases e4 b hb with h | h
          · rcases k3 b h with h | h
            · exact .inl h
            · exact .inr (List.mem_append_left _ h)
          · exact .inr (List.mem_append_right _ h)
        · simp only [unfL] at hv
          cases hv with
          | head => rfl
          | tail _ hv => exact e6 v hv
      · have hokc : okC c = true := (hok c (.head _)).resolve_right hsl
        have htv : TV S c x := by
          have := CVs.tvs (.cons h1 .nil) (.inr fun v hv => by simp at hv; subst hv; exact hokc)
          cases this with | cons h _ => exact h
        have e0 : unfL wh S.μ (c :: cs) = (c :: (unfL wh S.μ cs).1, (unfL wh S.μ cs).2) := by cases c <;> first | rfl | simp [okC, isSc] at hokc
        rw [e0]
        obtain ⟨S', e1, e2, e3, e4, e5, e6⟩ := unfL_sim wh cs S l' F2 hS h2 (fun c hc => hok c (.tail _ hc)) (hF.sub (List.sublist_append_right F1 F2))
        refine ⟨S', e1, e2, e3, fun b hb => (e4 b hb).imp id (List.mem_append_right _), .cons (e2.tv htv) e5, fun v hv => ?_⟩
        cases hv with
        | head => exact hokc
        | tail _ hv => exact e6 v hv
end Go.Lg.Pv
namespace Go.Lg.Pv
open Go Go.Lg
set_option linter.unusedVariables false
set_option linter.unnecessarySimpa false
set_option linter.unusedSimpArgs false
set_option linter.unusedSectionVars false

theorem own_in {S : St} (hS : HOk S) {id : Nat} {blk : PB} (k1 : S.μ[id]? = some blk) (k2 : blk.live = true) {b lo : Nat} (hι : S.ι id = some (b, lo)) : b ∈ S.Fm id ∧ b < S.σ.next := by
  have hB := hS.hb id blk k1 k2
  have hb : b ∈ S.Fm id := by
    generalize hF : S.Fm id = F at hB
    cases hB with
    | none q1 q2 => rw [q1] at hι; cases hι
    | some x1 x2 x3 x4 q1 q2 q3 q4 q5 => rw [q1] at hι; cases hι; exact .head _
  exact ⟨hb, hS.flt ⟨id, blk, k1, k2, hb⟩⟩
/-- one own block is another -/
theorem one_ok {S S' : St} (hS : HOk S) {id0 : Nat} {blk0 blk1 : PB} (h0 : S.μ[id0]? = some blk0) (hl0 : blk0.live = true) (hl1 : blk1.live = true)
    (hμ : S'.μ = S.μ.set id0 blk1) (hι : ∀ j, j ≠ id0 → S'.ι j = S.ι j) (hFm : ∀ j, j ≠ id0 → S'.Fm j = S.Fm j) (hZ : S'.Z = S.Z)
    (hnx : S.σ.next ≤ S'.σ.next) (hmd : MD S'.σ) (hmem : ∀ k, k < S.σ.next → k ∉ S.Fm id0 → S'.σ.mem k = S.σ.mem k)
    (hver : blk0.ver < blk1.ver ∨ (blk1.ver = blk0.ver ∧ SameAt S S' id0 ∧ blk1.sh = blk0.sh ∧ blk1.el.length = blk0.el.length ∧ blk1.op = blk0.op ∧ blk1.whole = blk0.whole))
    (hsg : blk0.whole = false → blk1.ver = blk0.ver ∧ ∀ b lo, S.ι id0 = some (b, lo) → SegOk S.σ S'.σ b lo (lo + blk0.el.length * blk0.sh.length))
    (hF : ∀ k ∈ S'.Fm id0, k ∈ S.Fm id0 ∨ S.σ.next ≤ k) (hnd : (S'.Fm id0).Nodup) (hwr : ∀ k ∈ S'.Fm id0, ∃ lb, S'.σ.mem k = some lb ∧ lb.wr = true)
    (hHB : (∀ v x, TV S v x → TV S' v x) → HB S' id0 blk1 (S'.Fm id0)) : HOk S' ∧ Later S S' := by
  have hid := (List.getElem?_eq_some_iff.1 h0).1
  have hfoot0 : ∀ k ∈ S.Fm id0, foot S k := fun k hk => ⟨id0, blk0, h0, hl0, hk⟩
  have hget : ∀ j, S'.μ[j]? = if j = id0 then some blk1 else S.μ[j]? := fun j => by
    rw [hμ]
    by_cases he : j = id0
    · subst he; rw [List.getElem?_set_self hid, if_pos rfl]
    · rw [get_set_ne j he, if_neg he]
  have hL : Later S S' := by
    refine ⟨hnx, fun b hb => by rw [hZ]; exact hb, fun b hb => by rw [hZ] at hb; exact .inl hb, fun b hb hf => hmem b hb fun hh => hf (hfoot0 b hh), by rw [hμ]; simp, fun j b hb => ?_, fun j b hb hl hw => ?_, fun b hb => ?_⟩
    · by_cases he : j = id0
      · subst he
        rw [h0] at hb; cases hb
        refine ⟨blk1, by rw [hget, if_pos rfl], by rcases hver with h | h <;> omega, fun hv _ => ?_⟩
        rcases hver with h | ⟨h1, h2, h3, h4, h5, h6⟩
        · omega
        · exact ⟨hl0, h2, h3, h4, h5, h6⟩
      · refine ⟨b, by rw [hget, if_neg he]; exact hb, Nat.le_refl _, fun _ hl => ⟨hl, ⟨hι j he, fun k lo hk => ?_⟩, rfl, rfl, rfl, rfl⟩⟩
        obtain ⟨hkF, hkl⟩ := own_in hS hb hl hk
        unfold lenOf; rw [hmem k hkl fun hh => hS.dj j id0 b blk0 hb hl h0 hl0 he k hkF hh]
    · by_cases he : j = id0
      · subst he
        rw [h0] at hb; cases hb
        obtain ⟨g1, g2⟩ := hsg hw
        exact ⟨blk1, by rw [hget, if_pos rfl], hl1, g1, g2⟩
      · refine ⟨b, by rw [hget, if_neg he]; exact hb, hl, rfl, fun k lo hk lb hlb => ?_⟩
        have hB := hS.hb j b hb hl
        have hkF : k ∈ S.Fm j := by
          generalize hF : S.Fm j = F at hB
          cases hB with
          | none g1 g2 => rw [g1] at hk; cases hk
          | some b' lo' lb' Fs g1 g2 g3 g4 g5 => rw [g1] at hk; cases hk; exact .head _
        exact ⟨lb, by rw [hmem k (hS.md.lt hlb) fun hh => hS.dj j id0 b blk0 hb hl h0 hl0 he k hkF hh]; exact hlb, rfl, rfl, fun _ _ => rfl⟩
    · obtain ⟨j, blk, g1, g2, g3⟩ := hb
      rw [hget] at g1
      by_cases he : j = id0
      · subst he
        rcases hF b g3 with h | h
        · exact .inl (hfoot0 b h)
        · exact .inr h
      · rw [if_neg he] at g1
        rw [hFm j he] at g3
        exact .inl ⟨j, blk, g1, g2, g3⟩
  refine ⟨hS.one id0 (fun v x h => h.later hL hS) (fun j hj => by rw [hget, if_neg hj]) hι hFm (fun j blk hj h1 h2 b hb => ?_) (fun b hb => ?_) hmd (fun blk h hl => ?_), hL⟩
  · refine ⟨hmem b (hS.flt ⟨j, blk, h1, h2, hb⟩) fun hh => hS.dj j id0 blk blk0 h1 h2 h0 hl0 hj b hb hh, by rw [hZ]; exact hS.nz j blk h1 h2 b hb⟩
  · rw [hZ] at hb; exact Nat.lt_of_lt_of_le (hS.zl b hb) hnx
  · rw [hget, if_pos rfl] at h; cases h
    refine ⟨hHB fun v x h => h.later hL hS, hnd, fun b hb => ?_, hwr, fun j blk' hj h1 h2 b hb hh => ?_⟩
    · rw [hZ]
      rcases hF b hb with h | h
      · exact hS.nz id0 blk0 h0 hl0 b h
      · exact fun hz => by have := hS.zl b hz; omega
    · rcases hF b hb with h | h
      · exact hS.dj j id0 blk' blk0 h1 h2 h0 hl0 hj b hh h
      · have := hS.flt ⟨j, blk', h1, h2, hh⟩; omega

/-- what a pointer into an own block points to -/
theorem ptr_at {S : St} (hS : HOk S) {id ver i off : Nat} {x : Value} {blk : PB} {e : DV} (hb : bk S.μ id ver = some blk) (he : blk.el[i]? = some e) (hx : TV S (.ptr id ver i off) x) :
    ∃ b lo lb Fs, x = .pointer (some ⟨b, lo + i * blk.sh.length + off, none⟩) ∧ S.ι id = some (b, lo) ∧ S.σ.mem b = some lb ∧ lb.wr = true ∧ S.Fm id = b :: (List.range blk.el.length).flatMap Fs ∧ lo + blk.el.length * blk.sh.length ≤ lb.cells.length ∧
      (∀ i e, blk.el[i]? = some e → CVs S blk.op (cellsD e) (cellsAt (lb.cells.drop lo) blk.sh.length i) (Fs i)) ∧ i < blk.el.length ∧ (cellsD e).length = blk.sh.length ∧ (cellsAt (lb.cells.drop lo) blk.sh.length i).length = blk.sh.length ∧ lo + i * blk.sh.length + blk.sh.length ≤ lb.cells.length := by
  obtain ⟨b1, b2, b3⟩ := bk_some hb
  obtain ⟨b, lo, g1, rfl⟩ := hx.ptr_inv.2.2 blk hb
  have hB := hS.hb id blk b1 b2
  generalize hF : S.Fm id = F0 at hB
  cases hB with
  | none g2 g3 => rw [g2] at g1; cases g1
  | some b' lo' lb Fs g2 g3 g4 g5 g6 =>
    rw [g2] at g1; cases g1
    have hi := (List.getElem?_eq_some_iff.1 he).1
    have hmul : (i + 1) * blk.sh.length ≤ blk.el.length * blk.sh.length := Nat.mul_le_mul_right _ hi
    rw [Nat.succ_mul] at hmul
    have hlen : (cellsAt (lb.cells.drop lo) blk.sh.length i).length = blk.sh.length := cellsAt_len (n := blk.el.length) (by rw [List.length_drop]; omega) hi
    exact ⟨b, lo, lb, Fs, rfl, g2, g3, g4, rfl, g5, g6, hi, (g6 i e he).len.trans hlen, hlen, by omega⟩

/-- cells that lie in a row, read -/
theorem pLd_at {σ : LH} {b o : Nat} {lb : Blk} (hm : σ.mem b = some lb) {cs' : List Value} {off size : Nat} {agg : Bool} {v' : Value} (hc : (lb.cells.drop o).take cs'.length = cs') (hl : o + cs'.length ≤ lb.cells.length)
    (h : (if agg then (if off + size ≤ cs'.length then some (Value.agg ((cs'.drop off).take size).toArray) else none) else cs'[off]?) = some v') : pLd σ size agg (.pointer (some ⟨b, o + off, none⟩)) = some v' := by
  simp only [pLd, hm]
  cases agg with
  | true =>
    simp only [if_true] at h ⊢
    split at h
    · rename_i hh
      rw [if_pos (by omega), ← h]
      have e : (cs'.drop off).take size = (lb.cells.drop (o + off)).take size := by
        conv => lhs; rw [← hc]
        rw [List.drop_take, List.drop_drop, List.take_take]; congr 1; omega
      rw [e]
    · cases h
  | false =>
    simp only [Bool.false_eq_true, if_false] at h ⊢
    have hlt := (List.getElem?_eq_some_iff.1 h).1
    rw [← hc, List.getElem?_take, if_pos hlt, List.getElem?_drop] at h
    exact h

theorem getC_range {cs : List DV} {off size : Nat} {agg : Bool} (hsz : agg = true ∨ size = 1) {v : DV} (h : getC cs off size agg = some v) : off + size ≤ cs.length ∧ v = elemD agg ((cs.drop off).take size) ∧ (agg = false → ∃ c, (cs.drop off).take size = [c]) := by
  unfold getC at h
  cases agg with
  | true =>
    simp only [cond_true] at h
    split at h
    · cases h; exact ⟨by assumption, rfl, nofun⟩
    · cases h
  | false =>
    simp only [cond_false] at h
    have hs := hsz.resolve_left nofun
    subst hs
    have hlt := (List.getElem?_eq_some_iff.1 h).1
    have : (cs.drop off).take 1 = [v] := by
      rw [List.drop_eq_getElem_cons hlt]
      simp only [List.take_succ_cons, List.take_zero]
      rw [List.getElem?_eq_getElem hlt] at h
      simp at h; rw [h]
    exact ⟨by omega, by rw [this]; rfl, fun _ => ⟨v, this⟩⟩
theorem TVs.elem {S : St} {cs : List DV} {cs' : List Value} (h : TVs S cs cs') {agg : Bool} (h1 : agg = false → cs.length = 1) : ∃ v', (if agg then some (Value.agg cs'.toArray) else cs'[0]?) = some v' ∧ TV S (elemD agg cs) v' := by
  cases agg with
  | true => exact ⟨_, by simp, .agg _ _ h⟩
  | false =>
    have := h1 rfl
    match cs, cs', h with
    | [c], [x], .cons h _ => exact ⟨x, by simp, h⟩

theorem unfL_len (wh : Bool) : ∀ (cs : List DV) (μ μ1 : PH), μ1.length = μ.length → (unfL wh μ1 cs).1 = (unfL wh μ cs).1 ∧ ∃ n, (unfL wh μ cs).2 = μ ++ n ∧ (unfL wh μ1 cs).2 = μ1 ++ n
  | [], μ, μ1, h => ⟨rfl, [], by simp [unfL], by simp [unfL]⟩
  | c :: cs, μ, μ1, h => by
    by_cases hs : isSl c = true
    · cases c <;> simp only [isSl, Bool.false_eq_true] at hs
      rename_i sh l
      obtain ⟨h1, n, h2, h3⟩ := unfL_len wh cs (μ ++ [⟨0, sh, l, true, false, wh⟩]) (μ1 ++ [⟨0, sh, l, true, false, wh⟩]) (by simp [h])
      simp only [unfL]
      refine ⟨by rw [h1, h], ⟨0, sh, l, true, false, wh⟩ :: n, by rw [h2]; simp, by rw [h3]; simp⟩
    · have e0 : ∀ μ, unfL wh μ (c :: cs) = (c :: (unfL wh μ cs).1, (unfL wh μ cs).2) := fun μ => by cases c <;> first | rfl | simp [isSl] at hs
      rw [e0, e0]
      obtain ⟨h1, n, h2, h3⟩ := unfL_len wh cs μ μ1 h
      exact ⟨by simp [h1], n, h2, h3⟩
theorem unfL_length (wh : Bool) : ∀ (cs : List DV) (μ : PH), (unfL wh μ cs).1.length = cs.length
  | [], μ => rfl
  | c :: cs, μ => by
    by_cases hs : isSl c = true
    · cases c <;> simp only [isSl, Bool.false_eq_true] at hs
      simp [unfL, unfL_length wh cs]
    · have e0 : unfL wh μ (c :: cs) = (c :: (unfL wh μ cs).1, (unfL wh μ cs).2) := by cases c <;> first | rfl | simp [isSl] at hs
      rw [e0]; simp [unfL_length wh cs]
theorem overD_len {l vs : List DV} {off : Nat} (h : off + vs.length ≤ l.length) : (overD l off vs).length = l.length := by unfold overD; simp; omega
theorem overD_mem {l vs : List DV} {off : Nat} {c : DV} (h : c ∈ overD l off vs) : c ∈ l ∨ c ∈ vs := by
  unfold overD at h
  rcases List.mem_append.1 h with h | h
  · rcases List.mem_append.1 h with h | h
    · exact .inl (List.mem_of_mem_take h)
    · exact .inr h
  · exact .inl (List.mem_of_mem_drop h)
theorem cellsD_mkE {e : DV} {vs : List DV} {off : Nat} (hl : off + vs.length ≤ (cellsD e).length) (hn : (∀ l, e ≠ .agg l) → ∀ c ∈ vs, ∀ l, c ≠ .agg l) : cellsD (mkE e (overD (cellsD e) off vs)) = overD (cellsD e) off vs := by
  by_cases he : ∃ l, e = .agg l
  · obtain ⟨l, rfl⟩ := he; rfl
  · have h1 : ∀ l, e ≠ .agg l := fun l h => he ⟨l, h⟩
    have hlen := overD_len hl
    have hm : ∀ c ∈ overD (cellsD e) off vs, ∀ l, c ≠ .agg l := fun c hc => by
      rcases overD_mem hc with h | h
      · rw [cellsD_one h1] at h; simp at h; subst h; exact h1
      · exact hn h1 c h
    generalize overD (cellsD e) off vs = cs at hlen hm
    rw [cellsD_one h1] at hlen
    match cs, hlen with
    | [c], _ =>
      have : mkE e [c] = c := by cases e <;> first | rfl | exact absurd rfl (h1 _)
      rw [this, cellsD_one (hm c (.head _))]
theorem over_self {l vs : List Value} {off : Nat} (h : (l.drop off).take vs.length = vs) : Lg.over l off vs = l := by
  unfold Lg.over
  conv => rhs; rw [← List.take_append_drop off l, ← List.take_append_drop vs.length (l.drop off), List.drop_drop]
  rw [h, List.append_assoc]

theorem okC_na {c : DV} (h : okC c = true) : ∀ l, c ≠ .agg l := fun l he => by subst he; simp [okC, isSc] at h

theorem flatMap_len_sub {n : Nat} {f g : Nat → List Nat} (h : ∀ i, i < n → (f i).Sublist (g i)) : ((List.range n).flatMap f).Sublist ((List.range n).flatMap g) := by
  induction n with
  | zero => exact List.Sublist.refl _
  | succ n ih =>
    rw [List.range_succ, List.flatMap_append, List.flatMap_append]
    exact (ih fun i hi => h i (by omega)).append (by simpa using h n (by omega))

/-- the elements of a block are told otherwise; the heap stays -/
theorem setEl_ok {S : St} (hS : HOk S) {id : Nat} {blk : PB} (hb : S.μ[id]? = some blk) (hl : blk.live = true) {el' : List DV} (hlen : el'.length = blk.el.length) {b lo : Nat} {lb : Blk} (hι : S.ι id = some (b, lo)) (hm : S.σ.mem b = some lb)
    (hfit : lo + blk.el.length * blk.sh.length ≤ lb.cells.length) {Fs' : Nat → List Nat} (hc : ∀ i e, el'[i]? = some e → CVs S blk.op (cellsD e) (cellsAt (lb.cells.drop lo) blk.sh.length i) (Fs' i))
    (hF : (b :: (List.range blk.el.length).flatMap Fs').Sublist (S.Fm id)) :
    ∃ S', S'.μ = S.μ.set id { blk with el := el' } ∧ S'.σ = S.σ ∧ S'.Z = S.Z ∧ (∀ j, S'.ι j = S.ι j) ∧ (∀ j, j ≠ id → S'.Fm j = S.Fm j) ∧ S'.Fm id = b :: (List.range blk.el.length).flatMap Fs' ∧ HOk S' ∧ Later S S' ∧ ∀ k, foot S' k → foot S k ∧ (k ∈ S.Fm id → k ∈ S'.Fm id) := by
  refine ⟨{ S with μ := S.μ.set id { blk with el := el' }, Fm := updN S.Fm id (b :: (List.range blk.el.length).flatMap Fs') }, rfl, rfl, rfl, fun _ => rfl, fun j hj => updN_ne _ _ hj, updN_same _ _ _, ?_⟩
  have hwr := hS.wr id blk hb hl
  have hlbw : lb.wr = true := by
    obtain ⟨lb', h1, h2⟩ := hwr b (hF.subset (.head _))
    rw [hm] at h1; cases h1; exact h2
  obtain ⟨h1, h2⟩ := one_ok (S' := { S with μ := S.μ.set id { blk with el := el' }, Fm := updN S.Fm id (b :: (List.range blk.el.length).flatMap Fs') }) (blk1 := { blk with el := el' }) hS hb hl hl rfl (fun _ _ => rfl) (fun j hj => updN_ne _ _ hj) rfl (Nat.le_refl _) hS.md (fun _ _ _ => rfl)
    (.inr ⟨rfl, ⟨rfl, fun _ _ _ => rfl⟩, rfl, hlen, rfl, rfl⟩) (fun _ => ⟨rfl, fun _ _ _ => SegOk.refl _ _ _ _⟩) (fun k hk => .inl (hF.subset (by simpa using hk))) (by simpa using (hS.nd id blk hb hl).sublist hF) (fun k hk => hwr k (hF.subset (by simpa using hk))) (fun ht => by
      simp only [updN_same]
      have := HB.some (S := { S with μ := S.μ.set id { blk with el := el' }, Fm := updN S.Fm id (b :: (List.range blk.el.length).flatMap Fs') }) (id := id) (blk := { blk with el := el' }) b lo lb Fs' hι hm hlbw (by simpa [hlen] using hfit) (fun i e he => (hc i e he).mono ht fun _ _ => rfl)
      simpa [hlen] using this)
  refine ⟨h1, h2, fun k ⟨j, blk', g1, g2, g3⟩ => ?_⟩
  have hid := (List.getElem?_eq_some_iff.1 hb).1
  by_cases he : j = id
  · subst he
    simp only [updN_same] at g3
    exact ⟨⟨j, blk, hb, hl, hF.subset g3⟩, fun _ => by simpa using g3⟩
  · have g1' : (S.μ.set id { blk with el := el' })[j]? = some blk' := g1
    rw [get_set_ne j he] at g1'
    simp only [updN_ne _ _ he] at g3
    exact ⟨⟨j, blk', g1', g2, g3⟩, fun hk => absurd hk (hS.dj j id blk' blk g1' g2 hb hl he k g3)⟩

theorem dead_cvs {S : St} {op : Bool} : ∀ {l : List Value}, op = false → (∀ x ∈ l, Lg.one x = true) → CVs S op (List.replicate l.length .dead) l []
  | [], _, _ => .nil
  | x :: l, ho, h => .cons (F := []) (.rv ho (.dead x (h x (.head _)))) (dead_cvs ho fun y hy => h y (.tail _ hy))
theorem CVs.ones {S : St} {op : Bool} : ∀ {cs : List DV} {l : List Value} {F : List Nat}, CVs S op cs l F → (∀ c ∈ cs, ∀ k, c ≠ .agg k) → ∀ x ∈ l, Lg.one x = true
  | [], _, _, h, _, x, hx => by cases h; cases hx
  | c :: cs, _, _, h, hn, x, hx => by
    cases h with
    | cons h1 h2 =>
      cases hx with
      | head => exact h1.one (hn c (.head _))
      | tail _ hx => exact CVs.ones h2 (fun c hc => hn c (.tail _ hc)) x hx

theorem qLd_sim {S : St} (hS : HOk S) {size : Nat} {agg : Bool} (hsz : agg = true ∨ size = 1) {p v : DV} {μ' : PH} {p' : Value} (h : qLd S.μ size agg p = some (v, μ')) (hp : TV S p p') :
    ∃ S' v', S'.μ = μ' ∧ pLd S.σ size agg p' = some v' ∧ TV S' v v' ∧ HOk S' ∧ Later S S' ∧ S'.σ = S.σ := by
  cases p <;> try (simp only [qLd, reduceCtorEq] at h; done)
  · rename_i e off
    simp only [qLd] at h
    obtain ⟨u, hu, h⟩ := Option.map_eq_some_iff.1 h
    cases h
    obtain ⟨b, o, blk, rfl, h0, h1, h2, h3⟩ := hp.rp_inv
    obtain ⟨v', g1, g2⟩ := h3.getC hu
    have hl := h3.len
    exact ⟨S, v', rfl, pLd_at h1 (by rw [← hl]) (by rw [← hl]; exact h2) g1, g2, hS, Later.refl S, rfl⟩
  · rename_i id ver i off
    simp only [qLd] at h
    obtain ⟨blk, hb, h⟩ := Option.bind_eq_some_iff.1 h
    obtain ⟨e, he, h⟩ := Option.bind_eq_some_iff.1 h
    obtain ⟨b, lo, lb, Fs, rfl, g1, g2, g3, g4, g5, g6, g7, g8, g9, g10⟩ := ptr_at hS hb he hp
    have hce := g6 i e he
    have hat : (lb.cells.drop (lo + i * blk.sh.length)).take (cellsAt (lb.cells.drop lo) blk.sh.length i).length = cellsAt (lb.cells.drop lo) blk.sh.length i := by
      rw [g9]; unfold cellsAt; rw [List.drop_drop]
    obtain ⟨b1, b2, b3⟩ := bk_some hb
    obtain ⟨F1, G, hFi, c1, c2⟩ := hce.split off
    obtain ⟨F2, F3, rfl, c3, c4⟩ := c2.split size
    split at h
    · rename_i hcond
      obtain ⟨u, hu, h⟩ := Option.map_eq_some_iff.1 h
      cases h
      obtain ⟨k1, k2, k3⟩ := getC_range hsz hu
      have htv := c3.tvs (hcond.imp (fun h => h) fun hh v hv => List.all_eq_true.1 hh v hv)
      obtain ⟨v', e1, e2⟩ := htv.elem (agg := agg) (fun ha => by obtain ⟨c, hc⟩ := k3 ha; rw [hc]; rfl)
      refine ⟨S, v', rfl, pLd_at g2 hat (by rw [g9]; exact g10) ?_, by rw [k2]; exact e2, hS, Later.refl S, rfl⟩
      cases agg with
      | true =>
        simp only [if_true] at e1 ⊢
        rw [if_pos (by rw [g9, ← g8]; exact k1)]; exact e1
      | false =>
        have hs := hsz.resolve_left nofun
        subst hs
        simp only [Bool.false_eq_true, if_false] at e1 ⊢
        rw [List.getElem?_take, if_pos (by omega), List.getElem?_drop] at e1
        exact e1
    · rename_i hcond
      split at h
      · rename_i hc2
        obtain ⟨hle, hall, _⟩ := hc2
        cases h
        have hop : blk.op = false := by
          cases ho : blk.op with
          | false => rfl
          | true => exact absurd (.inl ho) hcond
        rw [hop] at c1 c3 c4 hce
        generalize hrng : ((cellsD e).drop off).take size = rng at *
        have hrl : rng.length = size := by rw [← hrng, List.length_take, List.length_drop]; omega
        have hrok : ∀ c ∈ rng, okC c = true ∨ isSl c = true := fun c hc => by
          have := List.all_eq_true.1 hall c hc
          simpa using this
        have hrna : ∀ c ∈ rng, ∀ l, c ≠ .agg l := fun c hc l hcl => by
          subst hcl
          rcases hrok _ hc with h | h <;> simp [okC, isSc, isSl] at h
        generalize hx' : ((cellsAt (lb.cells.drop lo) blk.sh.length i).drop off).take size = rng' at *
        have hrl' : rng'.length = size := by rw [← c3.len, hrl]
        have hone := c3.ones hrna
        -- the cells are emptied
        have hdl : off + (List.replicate rng'.length DV.dead).length ≤ (cellsD e).length := by simp [hrl']; exact hle
        have hcd : CVs S false (overD (cellsD e) off (List.replicate rng'.length .dead)) (cellsAt (lb.cells.drop lo) blk.sh.length i) (F1 ++ F3) := by
          unfold overD
          rw [show cellsAt (lb.cells.drop lo) blk.sh.length i = (cellsAt (lb.cells.drop lo) blk.sh.length i).take off ++ rng' ++ (cellsAt (lb.cells.drop lo) blk.sh.length i).drop (off + size) by
            rw [← hx', ← List.drop_drop, List.append_assoc, List.take_append_drop, List.take_append_drop]]
          rw [show F1 ++ F3 = F1 ++ [] ++ F3 by simp]
          refine (c1.append (dead_cvs rfl hone)).append ?_
          rw [List.length_replicate, hrl', ← List.drop_drop, ← List.drop_drop]; exact c4
        have hmk1 : cellsD (mkE e (overD (cellsD e) off (List.replicate rng'.length .dead))) = overD (cellsD e) off (List.replicate rng'.length .dead) := cellsD_mkE hdl fun _ c hc l hcl => by
          rw [List.eq_of_mem_replicate hc] at hcl; cases hcl
        obtain ⟨S1, m1, m2, m3, m4, m5, m6, m7, m8, m9⟩ := setEl_ok (el' := blk.el.set i (mkE e (overD (cellsD e) off (List.replicate rng'.length .dead)))) (Fs' := fun j => if j = i then F1 ++ F3 else Fs j) hS b1 b2 (by simp) g1 g2 g5 (fun j e' hj => by
          by_cases hji : j = i
          · subst hji
            rw [List.getElem?_set_self g7] at hj; cases hj
            rw [hmk1, if_pos rfl, hop]; exact hcd
          · rw [List.getElem?_set_ne (Ne.symm hji)] at hj
            rw [if_neg hji]; exact g6 j e' hj) (by
          rw [g4]
          refine (flatMap_len_sub fun j hj => ?_).cons_cons b
          by_cases hji : j = i
          · subst hji; rw [if_pos rfl, hFi]
            exact (List.Sublist.refl F1).append (List.sublist_append_right F2 F3)
          · rw [if_neg hji]; exact List.Sublist.refl _)
        have hF2 : ∀ k ∈ F2, k ∈ S.Fm id ∧ k ∉ S1.Fm id := fun k hk => by
          have hki : k ∈ Fs i := by rw [hFi]; exact List.mem_append_right _ (List.mem_append_left _ hk)
          refine ⟨by rw [g4]; exact .tail _ (List.mem_flatMap.2 ⟨i, List.mem_range.2 g7, hki⟩), fun hh => ?_⟩
          have hnd := hS.nd id blk b1 b2
          rw [g4] at hnd
          rw [m6] at hh
          -- the range split at i
          have hsp : List.range blk.el.length = List.range i ++ i :: (List.range (blk.el.length - i - 1)).map (fun j => i + 1 + j) := by
            apply List.ext_getElem?
            intro q
            rw [List.getElem?_append]
            simp only [List.length_range]
            by_cases hq : q < i
            · rw [if_pos hq, List.getElem?_range (by omega), List.getElem?_range hq]
            · rw [if_neg hq]
              by_cases hq2 : q = i
              · subst hq2; rw [List.getElem?_range (by omega)]; simp
              · obtain ⟨d, rfl⟩ : ∃ d, q = i + 1 + d := ⟨q - i - 1, by omega⟩
                rw [show i + 1 + d - i = d + 1 by omega, List.getElem?_cons_succ, List.getElem?_map]
                by_cases hq3 : i + 1 + d < blk.el.length
                · rw [List.getElem?_range hq3, List.getElem?_range (by omega)]; rfl
                · rw [List.getElem?_eq_none (by simp; omega), List.getElem?_eq_none (by simp; omega)]; rfl
          have e1 : (List.range blk.el.length).flatMap Fs = (List.range i).flatMap Fs ++ (Fs i ++ ((List.range (blk.el.length - i - 1)).map (fun j => i + 1 + j)).flatMap Fs) := by
            rw [hsp, List.flatMap_append, List.flatMap_cons]
          rw [e1] at hnd
          have hn2 := (List.nodup_cons.1 hnd)
          have hn3 := List.nodup_append.1 hn2.2
          have hn4 := List.nodup_append.1 hn3.2.1
          cases hh with
          | head => exact hn2.1 (List.mem_append_right _ (List.mem_append_left _ hki))
          | tail _ hh =>
            obtain ⟨j, hj, hkj⟩ := List.mem_flatMap.1 hh
            by_cases hji : j = i
            · subst hji
              rw [if_pos rfl] at hkj
              rw [hFi] at hn4
              have h5 := List.nodup_append.1 hn4.1
              have h6 := List.nodup_append.1 h5.2.1
              rcases List.mem_append.1 hkj with h | h
              · exact h5.2.2 k h k (List.mem_append_left _ hk) rfl
              · exact h6.2.2 k hk k h rfl
            · rw [if_neg hji] at hkj
              rcases Nat.lt_or_gt_of_ne hji with h | h
              · exact hn3.2.2 k (List.mem_flatMap.2 ⟨j, List.mem_range.2 h, hkj⟩) k (List.mem_append_left _ hki) rfl
              · exact hn4.2.2 k hki k (List.mem_flatMap.2 ⟨j, List.mem_map.2 ⟨j - i - 1, List.mem_range.2 (by have := List.mem_range.1 hj; omega), by omega⟩, hkj⟩) rfl
        have hloose : Loose S1 F2 := by
          have hnd := hS.nd id blk b1 b2
          refine ⟨?_, fun k hk => by rw [m3]; exact hS.nz id blk b1 b2 k (hF2 k hk).1, fun k hk => by rw [m2]; exact hS.wr id blk b1 b2 k (hF2 k hk).1, fun k hk hf => (hF2 k hk).2 ((m9 k hf).2 (hF2 k hk).1)⟩
          rw [g4] at hnd
          have hsub : F2.Sublist ((List.range blk.el.length).flatMap Fs) := by
            have : F2.Sublist (Fs i) := by rw [hFi]; exact (List.sublist_append_left F2 F3).trans (List.sublist_append_right F1 _)
            refine this.trans ?_
            have h1 := flatMap_part (n := 1) (m := blk.el.length) (o := i) (by omega) Fs
            simpa using h1
          exact ((List.nodup_cons.1 hnd).2).sublist hsub
        obtain ⟨S2, n1, n2, n3, n4, n5, n6⟩ := unfL_sim true rng S1 rng' F2 m7 (c3.mono (fun v x hv => hv.later m8 hS) fun _ _ => by rw [m2]) hrok hloose
        -- and told again
        have hidl := (List.getElem?_eq_some_iff.1 b1).1
        have hid1 : id < S1.μ.length := by rw [m1]; simpa using hidl
        obtain ⟨o1, o2, o3⟩ := n2.old id hid1
        have hb2 : S2.μ[id]? = some { blk with el := blk.el.set i (mkE e (overD (cellsD e) off (List.replicate rng'.length .dead))) } := by
          rw [o1, m1, List.getElem?_set_self hidl]
        obtain ⟨u1, nn, u2, u3⟩ := unfL_len true rng S.μ S1.μ (by rw [m1]; simp)
        have hvl : (unfL true S.μ rng).1.length = size := by rw [unfL_length, hrl]
        have htv2 : TVs S2 (unfL true S.μ rng).1 rng' := by rw [← u1]; exact n5
        have hok2 : ∀ v ∈ (unfL true S.μ rng).1, okC v = true := by rw [← u1]; exact n6
        have hol : off + (unfL true S.μ rng).1.length ≤ (cellsD e).length := by rw [hvl]; exact hle
        have hmk2 : cellsD (mkE e (overD (cellsD e) off (unfL true S.μ rng).1)) = overD (cellsD e) off (unfL true S.μ rng).1 := cellsD_mkE hol fun _ c hc => okC_na (hok2 c hc)
        have ht12 : ∀ v x, TV S v x → TV S2 v x := fun v x hv => n2.tv (hv.later m8 hS)
        have hnz : ∀ l : List DV, nzL [] l = l := fun l => by cases l <;> rfl
        have hcvs2 : CVs S2 false (unfL true S.μ rng).1 rng' [] := by
          -- own references and plain cells, as they are
          have : ∀ (l : List DV) (l' : List Value), TVs S2 l l' → (∀ v ∈ l, okC v = true) → CVs S2 false l l' [] := fun l l' h hv => by
            have := okCs_cvs [] hv h
            rwa [hnz] at this
          exact this _ _ htv2 hok2
        have hcd2 : CVs S2 false (overD (cellsD e) off (unfL true S.μ rng).1) (cellsAt (lb.cells.drop lo) blk.sh.length i) (F1 ++ F3) := by
          unfold overD
          rw [show cellsAt (lb.cells.drop lo) blk.sh.length i = (cellsAt (lb.cells.drop lo) blk.sh.length i).take off ++ rng' ++ (cellsAt (lb.cells.drop lo) blk.sh.length i).drop (off + size) by
            rw [← hx', ← List.drop_drop, List.append_assoc, List.take_append_drop, List.take_append_drop]]
          rw [show F1 ++ F3 = F1 ++ [] ++ F3 by simp]
          have hσ : ∀ k, S2.σ.mem k = S.σ.mem k := fun k => by rw [n2.σ, m2]
          refine ((c1.mono ht12 fun k _ => hσ k).append hcvs2).append ?_
          rw [hvl, ← List.drop_drop, ← List.drop_drop]; exact c4.mono ht12 fun k _ => hσ k
        obtain ⟨S3, r1, r2, r3, r4, r5, r6, r7, r8, r9⟩ := setEl_ok (S := S2) (el' := blk.el.set i (mkE e (overD (cellsD e) off (unfL true S.μ rng).1))) (Fs' := fun j => if j = i then F1 ++ F3 else Fs j) n3 hb2 b2 (by simp) (by rw [o2, m4]; exact g1) (by rw [n2.σ, m2]; exact g2) (by simpa using g5) (fun j e' hj => by
          by_cases hji : j = i
          · subst hji
            rw [List.getElem?_set_self g7] at hj; cases hj
            rw [hmk2, if_pos rfl]; simp only [hop]; exact hcd2
          · rw [List.getElem?_set_ne (Ne.symm hji)] at hj
            rw [if_neg hji]
            exact (g6 j e' hj).mono ht12 fun k _ => by rw [n2.σ, m2]) (by rw [o3, m6]; simp)
        obtain ⟨v', e1, e2⟩ := htv2.elem (agg := agg) (fun ha => by rw [hvl]; exact hsz.resolve_left (by rw [ha]; nofun))
        refine ⟨S3, v', ?_, ?_, e2.later r8 n3, r7, ?_, by rw [r2, n2.σ, m2]⟩
        · rw [r1, n1, u3, u2, m1]
          simp only [List.set_append_left _ _ (show id < (S.μ.set id { blk with el := blk.el.set i (mkE e (overD (cellsD e) off (List.replicate rng'.length .dead))) }).length by simpa using hidl), List.set_append_left _ _ hidl, List.set_set]
        · refine pLd_at g2 hat (by rw [g9]; exact g10) ?_
          cases agg with
          | true =>
            simp only [if_true] at e1 ⊢
            rw [if_pos (by rw [g9, ← g8]; exact hle), hx']; exact e1
          | false =>
            have hs := hsz.resolve_left nofun
            subst hs
            simp only [Bool.false_eq_true, if_false] at e1 ⊢
            rw [← hx', List.getElem?_take, if_pos (by omega), List.getElem?_drop] at e1
            exact e1
        · -- nothing but what was there
          have hL12 : LaterG (foot S) S S2 := by
            refine LaterG.trans m8 (G' := fun b => foot S1 b ∨ b ∈ F2) ⟨by rw [n2.σ]; exact Nat.le_refl _, fun b hb => by rw [n2.z]; exact hb, fun b hb => by rw [n2.z] at hb; exact .inl hb, fun b _ _ => by rw [n2.σ], n2.len, fun j bb hj => ?_, fun j bb hj hl hw => ?_, fun b hb => .inl (n4 b hb)⟩ (fun b hb => ?_)
            · obtain ⟨q1, q2, q3⟩ := n2.old j (List.getElem?_eq_some_iff.1 hj).1
              exact ⟨bb, q1.trans hj, Nat.le_refl _, fun _ hl => ⟨hl, ⟨q2, fun _ _ _ => by rw [n2.σ]⟩, rfl, rfl, rfl, rfl⟩⟩
            · obtain ⟨q1, q2, q3⟩ := n2.old j (List.getElem?_eq_some_iff.1 hj).1
              exact ⟨bb, q1.trans hj, hl, rfl, fun _ _ _ => by rw [n2.σ]; exact SegOk.refl _ _ _ _⟩
            · rcases hb with h | h
              · exact .inl (m9 b h).1
              · exact .inl ⟨id, blk, b1, b2, (hF2 b h).1⟩
          exact hL12.trans r8 fun b hb => hL12.ft b hb
      · cases h
end Go.Lg.Pv
namespace Go.Lg.Pv
open Go Go.Lg
set_option linter.unusedVariables false
set_option linter.unnecessarySimpa false
set_option linter.unusedSimpArgs false
set_option linter.unusedSectionVars false

theorem TV.na {S : St} {v : DV} {x : Value} (h : TV S v x) (hx : Lg.one x = true) : ∀ l, v ≠ .agg l := fun l he => by
  subst he; obtain ⟨l', rfl, _⟩ := h.agg_inv; simp [Lg.one] at hx
theorem write_md {σ : LH} (h : MD σ) {b : Nat} {lb : Blk} (hm : σ.mem b = some lb) (x : Option Blk) : MD (σ.set b x) := h.set hm x
theorem set_mem (σ : LH) (b : Nat) (x : Option Blk) (k : Nat) (h : k ≠ b) : (σ.set b x).mem k = σ.mem k := by simp only [LH.set]; rw [if_neg h]
theorem set_self (σ : LH) (b : Nat) (x : Option Blk) : (σ.set b x).mem b = x := by simp [LH.set]

/-- the row of an own block is written -/
theorem wrEl_ok {S : St} (hS : HOk S) {id : Nat} {blk : PB} (hb : S.μ[id]? = some blk) (hl : blk.live = true) {el' : List DV} (hlen : el'.length = blk.el.length) {b lo : Nat} {lb : Blk} (hι : S.ι id = some (b, lo)) (hm : S.σ.mem b = some lb)
    {cells' : List Value} (hcl : cells'.length = lb.cells.length) (hfit : lo + blk.el.length * blk.sh.length ≤ lb.cells.length) (hout : ∀ j, (j < lo ∨ lo + blk.el.length * blk.sh.length ≤ j) → cells'[j]? = lb.cells[j]?)
    {Fs' : Nat → List Nat} (hc : ∀ i e, el'[i]? = some e → CVs S blk.op (cellsD e) (cellsAt (cells'.drop lo) blk.sh.length i) (Fs' i))
    (hF : (b :: (List.range blk.el.length).flatMap Fs').Sublist (S.Fm id)) :
    ∃ S', S'.μ = S.μ.set id { blk with el := el' } ∧ S'.σ = S.σ.set b (some { lb with cells := cells' }) ∧ HOk S' ∧ Later S S' := by
  have hwr := hS.wr id blk hb hl
  have hnd := hS.nd id blk hb hl
  have hbF : b ∈ S.Fm id := hF.subset (.head _)
  have hlbw : lb.wr = true := by
    obtain ⟨lb', h1, h2⟩ := hwr b hbF
    rw [hm] at h1; cases h1; exact h2
  have hn2 := List.nodup_cons.1 (hnd.sublist hF)
  refine ⟨{ S with σ := S.σ.set b (some { lb with cells := cells' }), μ := S.μ.set id { blk with el := el' }, Fm := updN S.Fm id (b :: (List.range blk.el.length).flatMap Fs') }, rfl, rfl, ?_⟩
  refine one_ok (blk1 := { blk with el := el' }) hS hb hl hl rfl (fun _ _ => rfl) (fun j hj => updN_ne _ _ hj) rfl (Nat.le_refl _) (hS.md.set hm _) (fun k _ hk => set_mem _ _ _ _ fun he => hk (by rw [he]; exact hbF))
    (.inr ⟨rfl, ⟨rfl, fun b' lo' hb' => by rw [hι] at hb'; cases hb'; unfold lenOf; simp only [set_self, hm]; exact hcl⟩, rfl, hlen, rfl, rfl⟩) (fun _ => ⟨rfl, fun b' lo' hb' => ?_⟩) (fun k hk => .inl (hF.subset (by simpa using hk))) (by simpa using hnd.sublist hF) (fun k hk => ?_) (fun ht => ?_)
  · rw [hι] at hb'; cases hb'
    intro lb' hlb'
    rw [hm] at hlb'; cases hlb'
    exact ⟨_, set_self _ _ _, rfl, hcl, hout⟩
  · simp only [updN_same] at hk
    by_cases he : k = b
    · subst he; exact ⟨_, set_self _ _ _, hlbw⟩
    · obtain ⟨l2, h1, h2⟩ := hwr k (hF.subset hk)
      exact ⟨l2, by show (S.σ.set b _).mem k = _; rw [set_mem _ _ _ _ he]; exact h1, h2⟩
  · simp only [updN_same]
    have hcc : ∀ i e, el'[i]? = some e → CVs { S with σ := S.σ.set b (some { lb with cells := cells' }), μ := S.μ.set id { blk with el := el' }, Fm := updN S.Fm id (b :: (List.range blk.el.length).flatMap Fs') } blk.op (cellsD e) (cellsAt (cells'.drop lo) blk.sh.length i) (Fs' i) := fun i e he =>
      (hc i e he).mono ht fun k hk => set_mem _ _ _ _ fun hkb => by
        subst hkb
        exact hn2.1 (List.mem_flatMap.2 ⟨i, List.mem_range.2 (by have := (List.getElem?_eq_some_iff.1 he).1; omega), hk⟩)
    have := HB.some (S := { S with σ := S.σ.set b (some { lb with cells := cells' }), μ := S.μ.set id { blk with el := el' }, Fm := updN S.Fm id (b :: (List.range blk.el.length).flatMap Fs') }) (id := id) (blk := { blk with el := el' }) b lo { lb with cells := cells' } Fs' hι (set_self _ _ _) hlbw (by simpa [hlen, hcl] using hfit) hcc
    simpa [hlen] using this

theorem write_eq {σ : LH} {b off : Nat} {lb : Blk} {vs : List Value} (hm : σ.mem b = some lb) (hw : lb.wr = true) (hl : off + vs.length ≤ lb.cells.length) : σ.write b off vs = some (σ.set b (some { lb with cells := over lb.cells off vs })) := by
  simp only [LH.write, hm]
  rw [if_pos ⟨hw, hl⟩]

theorem qSt_sim {S : St} (hS : HOk S) {size : Nat} {p v : DV} {μ' : PH} {p' v' : Value} (h : qSt S.μ size p v = some μ') (hp : TV S p p') (hv : TV S v v') :
    ∃ S', S'.μ = μ' ∧ pSt S.σ size p' v' = some S'.σ ∧ HOk S' ∧ Later S S' ∧ ∀ id ver, id ∉ idsV p → ∀ b lo, S.ι id = some (b, lo) → (∃ blk, bk S.μ id ver = some blk) → S'.σ.mem b = S.σ.mem b := by
  cases p <;> try (simp only [qSt, reduceCtorEq] at h; done)
  rename_i id ver i off
  simp only [qSt] at h
  obtain ⟨blk, hb, h⟩ := Option.bind_eq_some_iff.1 h
  obtain ⟨e, he, h⟩ := Option.bind_eq_some_iff.1 h
  obtain ⟨b, lo, lb, Fs, rfl, g1, g2, g3, g4, g5, g6, g7, g8, g9, g10⟩ := ptr_at hS hb he hp
  obtain ⟨b1, b2, b3⟩ := bk_some hb
  split at h
  · rename_i hc
    obtain ⟨hc1, hc2⟩ := hc
    obtain ⟨cs, hcs, h⟩ := Option.map_eq_some_iff.1 h
    cases h
    have hvc := hv.cells
    have hcv := putC_cvs hcs hvc
    have hlv : v'.cells.toList.length = size := by rw [← hvc.len, hc1]
    have hcl : cs.length = size := by rw [hcv.len, hlv]
    have hol : off + cs.length ≤ (cellsD e).length := by omega
    have hna : (∀ l, e ≠ .agg l) → ∀ c ∈ cs, ∀ l, c ≠ .agg l := fun _ => by
      unfold putC at hcs
      cases ho : blk.op with
      | true =>
        rw [ho] at hcs; simp only [cond_true] at hcs
        split at hcs
        · rename_i hn; cases hcs
          intro c hc l hl; subst hl
          have := List.all_eq_true.1 hn _ hc; simp [nA] at this
        · cases hcs
      | false =>
        rw [ho] at hcs; simp only [cond_false] at hcs
        split at hcs
        · rename_i hn; cases hcs
          intro c hc l hl; subst hl
          have : ∀ (s : List Sh) (l : List DV), (∀ v ∈ l, okC v = true) → ∀ c ∈ nzL s l, ∀ k, c ≠ .agg k := by
            intro s l
            induction l generalizing s with
            | nil => intro _ c hc; cases s <;> cases hc
            | cons v l ih =>
              intro hv c hc k hk
              cases s with
              | nil => exact okC_na (hv c hc) k hk
              | cons s ss =>
                simp only [nzL] at hc
                cases hc with
                | head =>
                  have h1 := hv v (.head _)
                  cases v <;> simp [okC, isSc] at h1 <;> cases s <;> simp [nz] at hk
                  split at hk <;> cases hk
                | tail _ hc => exact ih ss (fun u hu => hv u (.tail _ hu)) c hc k hk
          exact this _ _ (fun v hv => List.all_eq_true.1 hn v hv) _ hc l rfl
        · cases hcs
    have hmk := cellsD_mkE hol hna
    obtain ⟨F1, F2, F3, hFi, hov⟩ := (g6 i e he).over hcv off
    have hmul : (i + 1) * blk.sh.length ≤ blk.el.length * blk.sh.length := Nat.mul_le_mul_right _ g7
    rw [Nat.succ_mul] at hmul
    have hvl : off + v'.cells.toList.length ≤ blk.sh.length := by omega
    have hw : lo + i * blk.sh.length + off + v'.cells.toList.length ≤ lb.cells.length := by omega
    obtain ⟨S', m1, m2, m3, m4⟩ := wrEl_ok (el' := blk.el.set i (mkE e (overD (cellsD e) off cs))) (cells' := over lb.cells (lo + i * blk.sh.length + off) v'.cells.toList) (Fs' := fun j => if j = i then F1 ++ [] ++ F3 else Fs j) hS b1 b2 (by simp) g1 g2 (over_length hw) g5
      (fun j hj => by rw [over_get hw, if_neg (by omega)]) (fun j e' hj => by
        rw [cellsAt_over (n := blk.el.length) g5 g7 hvl]
        by_cases hji : j = i
        · subst hji
          rw [List.getElem?_set_self g7] at hj; cases hj
          rw [if_pos rfl, if_pos rfl, hmk]; exact hov
        · rw [List.getElem?_set_ne (Ne.symm hji)] at hj
          rw [if_neg hji, if_neg hji]; exact g6 j e' hj) (by
        rw [g4]
        refine (flatMap_len_sub fun j hj => ?_).cons_cons b
        by_cases hji : j = i
        · subst hji; rw [if_pos rfl, hFi, List.append_nil]
          exact (List.Sublist.refl F1).append (List.sublist_append_right F2 F3)
        · rw [if_neg hji]; exact List.Sublist.refl _)
    refine ⟨S', m1, ?_, m3, m4, fun id' ver' hne b' lo' hb' ⟨blk', hk'⟩ => ?_⟩
    · simp only [pSt]
      rw [if_pos (by simpa using hlv), write_eq g2 g3 hw, m2]
    · rw [m2]
      refine set_mem _ _ _ _ fun hbb => ?_
      subst hbb
      have hne' : id' ≠ id := by simpa [idsV] using hne
      obtain ⟨k1, k2, k3⟩ := bk_some hk'
      have hB := hS.hb id' blk' k1 k2
      have : b' ∈ S.Fm id' := by
        generalize hF : S.Fm id' = F at hB
        cases hB with
        | none q1 q2 => rw [q1] at hb'; cases hb'
        | some x1 x2 x3 x4 q1 q2 q3 q4 q5 => rw [q1] at hb'; cases hb'; exact .head _
      exact hS.dj id' id blk' blk k1 k2 b1 b2 hne' b' this (by rw [g4]; exact .head _)
  · cases h

theorem cellsD_elemD {agg : Bool} {cs : List DV} (h : agg = true ∨ (cs.length = 1 ∧ ∀ c ∈ cs, ∀ l, c ≠ .agg l)) : cellsD (elemD agg cs) = cs := by
  cases agg with
  | true => rfl
  | false =>
    obtain ⟨h1, h2⟩ := h.resolve_left nofun
    match cs, h1 with
    | [c], _ => exact cellsD_one (h2 c (.head _))
theorem cellsAt_zero {l : List Value} {z : Nat} (h : l.length = z) : cellsAt l z 0 = l := by
  unfold cellsAt; rw [Nat.zero_mul, List.drop_zero, List.take_of_length_le (by omega)]

theorem putC_na {op : Bool} {sh : List Sh} {cs cs2 : List DV} (h : putC op sh cs = some cs2) : ∀ c ∈ cs2, ∀ l, c ≠ .agg l := by
  unfold putC at h
  cases op with
  | true =>
    simp only [cond_true] at h
    split at h
    · rename_i hn; cases h
      intro c hc l hl; subst hl
      have := List.all_eq_true.1 hn _ hc; simp [nA] at this
    · cases h
  | false =>
    simp only [cond_false] at h
    split at h
    · rename_i hn; cases h
      intro c hc l hl; subst hl
      have : ∀ (s : List Sh) (l : List DV), (∀ v ∈ l, okC v = true) → ∀ c ∈ nzL s l, ∀ k, c ≠ .agg k := by
        intro s l
        induction l generalizing s with
        | nil => intro _ c hc; cases s <;> cases hc
        | cons v l ih =>
          intro hv c hc k hk
          cases s with
          | nil => exact okC_na (hv c hc) k hk
          | cons s ss =>
            simp only [nzL] at hc
            cases hc with
            | head =>
              have h1 := hv v (.head _)
              cases v <;> simp [okC, isSc] at h1 <;> cases s <;> simp [nz] at hk
              split at hk <;> cases hk
            | tail _ hc => exact ih ss (fun u hu => hv u (.tail _ hu)) c hc k hk
      exact this _ _ (fun v hv => List.all_eq_true.1 hn v hv) _ hc l rfl
    · cases h

/-- a new variable -/
theorem qAl_sim {S : St} (hS : HOk S) {op agg : Bool} {sh : List Sh} {cs : List DV} {r : DV × PH} {cs' : List Value} (h : qAl S.μ op sh agg cs = some r) (hc : TVs S cs cs') :
    ∃ S', S'.μ = r.2 ∧ S'.σ = S.σ.push { cells := cs' } ∧ TV S' r.1 S.σ.ptr ∧ HOk S' ∧ Later S S' := by
  unfold qAl at h
  split at h
  · rename_i hcond
    obtain ⟨cs2, h2, h⟩ := Option.map_eq_some_iff.1 h
    cases h
    have hcv := putC_cvs h2 hc
    have hl2 : cs2.length = sh.length := by rw [hcv.len, ← hc.len, hcond.1]
    have hl3 : cs'.length = sh.length := by rw [← hc.len, hcond.1]
    have hce : cellsD (elemD agg cs2) = cs2 := cellsD_elemD (hcond.2.imp id fun h1 => ⟨by rw [hl2, hcond.1]; exact h1, putC_na h2⟩)
    obtain ⟨k1, k2⟩ := addO_ok (cells := cs') (pb := ⟨0, sh, [elemD agg cs2], true, op, true⟩) hS (by simp [hl3]) (fun i e he => by
      cases i with
      | zero => simp at he; subst he; rw [hce, cellsAt_zero hl3]; exact hcv
      | succ i => simp at he)
    refine ⟨_, rfl, rfl, ?_, k1, k2⟩
    refine .ptr _ _ _ _ _ ⟨_, get_app_self, Nat.le_refl _⟩ rfl fun blk hb => ?_
    refine ⟨S.σ.next, 0, by simp [St.addO], ?_⟩
    simp [LH.ptr]
  · cases h

theorem zeros_len {zero : List Value} {z : Nat} (hl : zero.length = z) : ∀ k, (zeros zero k).length = k * z
  | 0 => by simp [zeros]
  | k + 1 => by rw [zeros, List.length_append, zeros_len hl k, hl, Nat.succ_mul]; omega
theorem zeros_at {zero : List Value} {z : Nat} (hl : zero.length = z) : ∀ (k i : Nat), i < k → cellsAt (zeros zero k) z i = zero
  | 0, i, h => by omega
  | k + 1, i, h => by
    have h1 : zero.length = 1 * z := by omega
    cases i with
    | zero => rw [zeros, cellsAt_left h1 (by omega), cellsAt_zero hl]
    | succ i => rw [zeros, cellsAt_right h1 (by omega)]; exact zeros_at hl k i (by omega)

theorem zelem_ok {S : St} {agg : Bool} {zero : List Value} {sh : List Sh} (hz : ∀ v ∈ zero, constOk v = true) (hok : (zD zero).all okC = true) (ha : agg = true ∨ zero.length = 1) :
    CVs S false (cellsD (elemD agg (nzL sh (zD zero)))) zero [] ∧ cellsD (elemD agg (nzL sh (zD zero))) = nzL sh (zD zero) := by
  have h1 := okCs_cvs sh (fun v hv => List.all_eq_true.1 hok v hv) (zD_tvs (S := S) hz)
  have h2 : putC false sh (zD zero) = some (nzL sh (zD zero)) := by simp [putC, hok]
  have h3 : cellsD (elemD agg (nzL sh (zD zero))) = nzL sh (zD zero) := cellsD_elemD (ha.imp id fun h => ⟨by rw [nzL_len]; simpa [zD] using h, putC_na h2⟩)
  rw [h3]; exact ⟨h1, rfl⟩

theorem qMS_sim {S : St} (hS : HOk S) {sh : List Sh} {agg : Bool} {zero : List Value} {size bytes : Nat} {l c : DV} {r : DV × PH} {l' c' : Value} (hz : ∀ v ∈ zero, constOk v = true) (h : qMS S.μ sh agg (zD zero) size bytes l c = some r) (hl : TV S l l') (hc : TV S c c') :
    ∃ S' v', S'.μ = r.2 ∧ pMS S.σ zero size bytes l' c' = some (v', S'.σ) ∧ TV S' r.1 v' ∧ HOk S' ∧ Later S S' ∧ ∀ k, k < S.σ.next → S'.σ.mem k = S.σ.mem k := by
  unfold qMS at h
  split at h
  · rename_i l c
    split at h
    · rename_i hcond
      obtain ⟨h1, h2, h3, h4, h5, h6, h7, h8⟩ := hcond
      cases h
      rw [hl.int_inv, hc.int_inv]
      have hzl : zero.length = size := by simpa [zD] using h5
      obtain ⟨e1, e2⟩ := zelem_ok (S := S) (sh := sh) hz h8 (h7.imp id fun h => hzl.trans h)
      obtain ⟨k1, k2⟩ := addO_ok (cells := zeros zero c.toNat) (pb := ⟨0, sh, List.replicate c.toNat (elemD agg (nzL sh (zD zero))), true, false, true⟩) hS (by simp [zeros_len hzl, h6]) (fun i e he => by
        rw [List.getElem?_replicate] at he
        split at he
        · rename_i hi; cases he; simp only [h6]; rw [zeros_at hzl _ _ hi]; exact e1
        · cases he)
      refine ⟨_, .slice (some ⟨S.σ.next, 0, some size⟩) l.toNat (capE c.toNat), rfl, ?_, ?_, k1, k2, fun k hk => push_mem _ _ hk⟩
      · simp only [pMS]; rw [if_pos ⟨h1, h2, h3, h4, hzl⟩]; rfl
      · refine .own _ _ _ _ _ _ _ ⟨_, get_app_self, Nat.le_refl _⟩ rfl fun blk hb => ?_
        have := (bk_some hb).1
        rw [show (S.addO (zeros zero c.toNat) ⟨0, sh, List.replicate c.toNat (elemD agg (nzL sh (zD zero))), true, false, true⟩).μ[S.μ.length]? = _ from get_app_self] at this
        cases this
        exact .inr ⟨S.σ.next, 0, capE c.toNat, by simp [St.addO], by simp [h6], by omega, by simp [capE]; omega, by simp, fun _ => rfl, by unfold lenOf; rw [show (S.addO (zeros zero c.toNat) _).σ.mem S.σ.next = _ from push_self _ _]; simp only [zeros_len hzl, h6]; simp [capE]; rw [show (2 * c.toNat + 1) / 2 = c.toNat by omega]; exact Nat.le_refl _⟩
    · cases h
  · cases h

/-- a literal's elements -/
theorem litP_sim {S : St} {size : Nat} : ∀ {parts : List (Nat × DV)} {parts' : List (Nat × Value)} {l r : List DV} {l' : List Value}, litP size l parts = some r → PsV S parts parts' → l'.length = l.length * size → (∀ i e, l[i]? = some e → TVs S (cellsD e) (cellsAt l' size i)) →
    ∃ r', fillL (fun i => some (i * size, size)) l' parts' = some r' ∧ r.length = l.length ∧ r'.length = l'.length ∧ ∀ i e, r[i]? = some e → TVs S (cellsD e) (cellsAt r' size i)
  | [], _, l, r, l', h, hp, hl, hc => by
    cases hp; simp only [litP, Option.some.injEq] at h; subst h; exact ⟨l', rfl, rfl, rfl, hc⟩
  | (i, v) :: parts, _, l, r, l', h, hp, hl, hc => by
    cases hp with
    | @cons _ _ y _ l'' hv hp =>
      simp only [litP] at h
      split at h
      · rename_i hcond
        have hvl : y.cells.size = size := by have := hv.cells.len; simp at this; omega
        have hmul : (i + 1) * size ≤ l.length * size := Nat.mul_le_mul_right _ hcond.2
        rw [Nat.succ_mul] at hmul
        have hw : i * size + y.cells.toList.length ≤ l'.length := by simp; omega
        obtain ⟨r', g1, g2, g3, g4⟩ := litP_sim (l' := over l' (i * size) y.cells.toList) h hp (by rw [over_length hw, hl, List.length_set]) (fun j e he => by
          have := cellsAt_over (l := l') (vs := y.cells.toList) (o := 0) (z := size) (i := i) (off := 0) (j := j) (n := l.length) (by omega) hcond.2 (by simp; omega)
          simp only [Nat.zero_add, Nat.add_zero, List.drop_zero] at this
          rw [this]
          by_cases hj : j = i
          · subst hj
            rw [List.getElem?_set_self hcond.2] at he; cases he
            rw [if_pos rfl]
            have hfull : over (cellsAt l' size j) 0 y.cells.toList = y.cells.toList := by
              have hcl : (cellsAt l' size j).length = size := cellsAt_len (n := l.length) (by omega) hcond.2
              unfold over
              rw [List.take_zero, List.nil_append, List.drop_eq_nil_of_le (by simp [hcl]; omega), List.append_nil]
            rw [hfull]; exact hv.cells
          · rw [List.getElem?_set_ne (Ne.symm hj)] at he
            rw [if_neg hj]; exact hc j e he)
        refine ⟨r', ?_, by rw [g2, List.length_set], by rw [g3, over_length hw], g4⟩
        simp only [fillL]
        rw [if_pos ⟨hvl, by simp at hw; omega⟩]; exact g1
      · cases h

theorem closeE_sim {S : St} {sh : List Sh} {e r : DV} {cs' : List Value} (h : closeE sh e = some r) (hc : TVs S (cellsD e) cs') : CVs S false (cellsD r) cs' [] := by
  unfold closeE at h
  split at h
  · split at h
    · rename_i hok
      cases h
      exact okCs_cvs sh (fun v hv => List.all_eq_true.1 hok v hv) hc
    · cases h
  · rename_i hv
    split at h
    · rename_i hok
      split at h
      · rename_i s
        cases h
        rw [cellsD_one hv] at hc
        cases hc with
        | cons h1 h2 =>
          cases h2
          have h3 := okC_cv hok h1 s
          have : ∀ l, nz s e ≠ .agg l := fun l hl => by
            cases e <;> simp [okC, isSc] at hok <;> cases s <;> simp [nz] at hl
            split at hl <;> cases hl
          rw [cellsD_one this]
          exact .cons (F := []) h3 .nil
      · cases h
    · cases h
theorem closeEs_sim {S : St} {sh : List Sh} : ∀ {l r : List DV}, closeEs sh l = some r → r.length = l.length ∧ ∀ (i : Nat) e' cs', r[i]? = some e' → (∀ e, l[i]? = some e → TVs S (cellsD e) cs') → CVs S false (cellsD e') cs' []
  | [], r, h => by simp only [closeEs, Option.some.injEq] at h; subst h; exact ⟨rfl, fun i e' cs' h => by simp at h⟩
  | e :: l, r, h => by
    simp only [closeEs] at h
    obtain ⟨p, hp, h⟩ := Option.bind_eq_some_iff.1 h
    obtain ⟨q, hq, h⟩ := Option.bind_eq_some_iff.1 h
    cases h
    obtain ⟨h1, h2⟩ := closeEs_sim (S := S) hq
    refine ⟨by simp [h1], fun i e' cs' he hc => ?_⟩
    cases i with
    | zero => simp at he; subst he; exact closeE_sim hp (hc e rfl)
    | succ i => exact h2 i e' cs' (by simpa using he) fun x hx => hc x (by simpa using hx)

theorem qBS_sim {S : St} (hS : HOk S) {lit agg : Bool} {sh : List Sh} {zero : List Value} {size len : Nat} {parts : List (Nat × DV)} {parts' : List (Nat × Value)} {r : DV × PH} (hz : ∀ v ∈ zero, constOk v = true) (h : qBS S.μ lit sh agg (zD zero) size len parts = some r) (hp : PsV S parts parts') :
    ∃ S' v', S'.μ = r.2 ∧ pBS S.σ zero size len parts' = some (v', S'.σ) ∧ TV S' r.1 v' ∧ HOk S' ∧ Later S S' ∧ ∀ k, k < S.σ.next → S'.σ.mem k = S.σ.mem k := by
  unfold qBS at h
  split at h
  · rename_i hcond
    obtain ⟨h1, h2, h3, h4⟩ := hcond
    obtain ⟨l, hl, h⟩ := Option.bind_eq_some_iff.1 h
    have hzl : zero.length = size := by simpa [zD] using h2
    have hze : cellsD (elemD agg (zD zero)) = zD zero := cellsD_elemD (h4.imp id fun h => ⟨by rw [h2, h], fun c hc l hcl => by
      obtain ⟨v, hv, rfl⟩ := List.mem_map.1 hc
      have := (dvC_tv (S := S) (hz v hv)).na (constOk_one (hz v hv)) l
      exact this hcl⟩)
    obtain ⟨l', g1, g2, g3, g4⟩ := litP_sim (S := S) (l' := zeros zero len) hl hp (by rw [zeros_len hzl, List.length_replicate]) (fun i e he => by
      rw [List.getElem?_replicate] at he
      split at he
      · rename_i hi; cases he; rw [zeros_at hzl _ _ hi, hze]; exact zD_tvs hz
      · cases he)
    rw [List.length_replicate] at g2
    rw [zeros_len hzl] at g3
    have hP : pBS S.σ zero size len parts' = some (.slice (some ⟨S.σ.next, 0, some size⟩) len (capE len), S.σ.push { cells := l' }) := by
      simp only [pBS]; rw [if_pos ⟨h1, hzl⟩, g1]; rfl
    split at h
    · rename_i h0
      cases h; subst h0
      obtain ⟨k1, k2⟩ := pushZ_ok hS l'
      exact ⟨S.pushZ l', _, rfl, hP, .e0 size _ _, k1, k2, fun k hk => push_mem _ _ hk⟩
    · cases lit with
      | true =>
        simp only [cond_true, Option.some.injEq] at h
        subst h
        obtain ⟨k1, k2⟩ := pushZ_ok hS l'
        refine ⟨S.pushZ l', _, rfl, hP, ?_, k1, k2, fun k hk => push_mem _ _ hk⟩
        have := SlR.tv (S := S.pushZ l') (sh := sh) (l := l) (v := .slice (some ⟨S.σ.next, 0, some size⟩) len (capE len)) (.inr ⟨S.σ.next, 0, capE len, { cells := l' }, by rw [g2, h3], .inr rfl, push_self _ _, by rw [g2]; simp [capE]; omega, by rw [g2, h3]; simp [g3], fun _ => by simp only [h3, g3]; simp [capE]; rw [show (2 * len + 1) / 2 = len by omega]; exact Nat.le_refl _, fun i e he => by
          simp only [List.drop_zero, h3]; exact (g4 i e he).later k2 hS⟩)
        exact this
      | false =>
        simp only [cond_false] at h
        obtain ⟨l2, hl2, h⟩ := Option.map_eq_some_iff.1 h
        cases h
        obtain ⟨e1, e2⟩ := closeEs_sim (S := S) hl2
        obtain ⟨k1, k2⟩ := addO_ok (cells := l') (pb := ⟨0, sh, l2, true, false, true⟩) hS (by simp [e1, g2, g3, h3]) (fun i e he => by
          simp only [h3]
          exact e2 i e _ he fun x hx => g4 i x hx)
        refine ⟨_, _, rfl, hP, ?_, k1, k2, fun k hk => push_mem _ _ hk⟩
        refine .own _ _ _ _ _ _ _ ⟨_, get_app_self, Nat.le_refl _⟩ rfl fun blk hb => ?_
        have := (bk_some hb).1
        rw [show (S.addO l' ⟨0, sh, l2, true, false, true⟩).μ[S.μ.length]? = _ from get_app_self] at this
        cases this
        exact .inr ⟨S.σ.next, 0, capE len, by simp [St.addO], by simp [h3], Nat.le_refl _, by simp [capE]; omega, by simp [e1, g2], fun _ => rfl, by unfold lenOf; rw [show (S.addO l' _).σ.mem S.σ.next = _ from push_self _ _]; simp only [g3, h3]; simp [capE]; rw [show (2 * len + 1) / 2 = len by omega]; exact Nat.le_refl _⟩
  · cases h
end Go.Lg.Pv
