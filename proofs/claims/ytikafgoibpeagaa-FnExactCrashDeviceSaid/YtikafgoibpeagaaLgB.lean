/- The logical semantics: regions, code, calls. Definitions alone. -/
import Derived.Test.YtikafgoibpeagaaLgA
namespace Go.Lg
set_option linter.unusedVariables false

def dstOk (o : Oper) (n : Nat) : Bool := match o.dst with | none => true | some d => Nat.blt d n

section
variable {α : Type}

/-- an operation behind its guard; the guard's temporary is known behind the test -/
def grd (all : List Oper) (o : Oper) (fr : Fr) (run skip : Fr → Option α) : Option α :=
  match o.guard with
  | none => run fr
  | some (j, want) =>
    match (all[j]?).bind (·.dst) with
    | none => none
    | some t => match look fr.tmps t with
      | some (some (.val v)) => asB v fun b => cond b
          (cond want (run ⟨fr.n, (t, some (.val (.bool true))) :: fr.tmps, fr.regs⟩) (skip ⟨fr.n, (t, some (.val (.bool true))) :: fr.tmps, fr.regs⟩))
          (cond want (skip ⟨fr.n, (t, some (.val (.bool false))) :: fr.tmps, fr.regs⟩) (run ⟨fr.n, (t, some (.val (.bool false))) :: fr.tmps, fr.regs⟩))
      | some (some .und) => skip fr
      | _ => none

def opsC (E : Env) (call : Nat → List Value → LH → Option (List Value × LH)) (f : Nat) (all : List Oper) :
    List Oper → Fr → LH → (Fr → LH → Option α) → Option α
  | [], fr, σ, k => k fr σ
  | o :: r, fr, σ, k => cond (dstOk o fr.n)
      (grd all o fr
        (fun fr => opC E call f o fr σ fun x regs σ => opsC E call f all r (fr.put regs o.dst x) σ k)
        (fun fr => opsC E call f all r (fr.put fr.regs o.dst (some .und)) σ k)) none

/-! ## a region that draws its order -/
/-- the operations that come ahead of each one -/
def befs : List Oper → List (List Nat) → List (List Nat)
  | [], acc => acc
  | o :: r, acc => befs r (acc ++ [o.after.toList.flatMap fun e => match e.ground with
      | .textOnly _ => []
      | .gcOnly _ => []
      | _ => e.on :: acc.getD e.on []])

def ahead (b : List (List Nat)) (i j : Nat) : Bool := (b.getD j []).any (Nat.beq i)   -- i comes ahead of j

def tmpsOf (all : List Oper) (o : Oper) : List Nat := o.looksAt all.toArray

/-- a temporary has one writer at most, and whoever names it is ordered against the writer -/
def tmpOk (all : List Oper) (b : List (List Nat)) : Bool :=
  (all.zipIdx).all fun (o, j) =>
    match o.dst with
    | none => true
    | some d => (all.zipIdx).all fun (q, i) =>
        Nat.beq i j ||
        ((match q.dst with | some d' => !Nat.beq d d' | none => true) &&
         (!((q.looksAt all.toArray).any (Nat.beq d)) || ahead b i j || ahead b j i))

def edgesOk (all : List Oper) : Bool :=
  (all.zipIdx).all fun (o, i) => o.after.toList.all fun e => match e.ground with
      | .textOnly _ => true
      | .gcOnly _ => true
      | _ => Nat.blt e.on i

/-- the frame, as one operation sees it -/
def Fr.only (fr : Fr) (l : List Nat) : Fr := ⟨fr.n, fr.tmps.filter (fun p => l.any (Nat.beq p.1)), fr.regs⟩

/-- what an operation is to the heap: nothing; it makes one block; it loads; it may change anything -/
inductive Kd where
  | plain
  | mk
  | ld (p : Value) (size : Nat) (agg : Bool) (v : Value)
  | eff

def addrOf (fr : Fr) (x : Operand) : Option (Option FV) := match x with | .tmp t => look fr.tmps t | _ => none

def kindOf (E : Env) (f : Nat) (o : Oper) (fr : Fr) (y : Option FV) : Option Kd :=
  match o.op with
  | .load T x => match E.ti T, addrOf fr x with
    | some ti, some (some (.val p)) => (match y with | some (.val v) => some (.ld p ti.size ti.agg v) | _ => none)
    | _, some (some (.reg _ _)) => some .plain
    | _, _ => none
  | .store _ x _ => match addrOf fr x with
    | some (some (.val _)) => some .eff
    | _ => none
  | .alloc _ | .box .. => (match o.dst with | some d => cond (E.loc f d) none (some .mk) | none => none)
  | .makeSlice .. | .buildSlice .. => some .mk
  | .move _ | .assign _ | .pick .. | .fieldAddr .. | .field .. | .indexAddr .. | .index .. | .nilCheck _ | .binOp .. | .unOp ..
  | .makeFunc .. | .slice .. | .build .. | .extract .. => some .plain
  | .convert S T _ => (match E.ti S, E.ti T with
    | some s, some t => (match s.shape, t.shape with
      | .int _, .int _ => some .plain
      | .str, .str => some .plain
      | _, _ => some .eff)
    | _, _ => none)
  | .call { callee := .builtin .len, .. } | .call { callee := .builtin .cap, .. } | .call { callee := .builtin .min, .. } | .call { callee := .builtin .max, .. } => some .plain
  | .call { callee := .value _, .. } | .call { callee := .builtin .append, .. } | .call { callee := .builtin .copy, .. } | .call { callee := .builtin .clear, .. } => some .eff
  | _ => none

/-- what a region has done so far -/
structure Ent where
  i : Nat
  kd : Kd
  σ : LH

/-- two operations that no edge orders do not meet each other -/
noncomputable def chkLog (b : List (List Nat)) (i : Nat) (kd : Kd) (σ' : LH) : List Ent → Option α → Option α
  | [], k => k
  | d :: r, k => match d.kd, kd with
    | .eff, .eff => cond (ahead b d.i i) (chkLog b i kd σ' r k) none
    | .eff, .mk => cond (ahead b d.i i) (chkLog b i kd σ' r k) none
    | .eff, .ld p size agg v => cond (ahead b d.i i) (chkLog b i kd σ' r k) (chk (pLd d.σ size agg p) v (chkLog b i kd σ' r k))
    | .ld p size agg v, .eff => cond (ahead b d.i i) (chkLog b i kd σ' r k) (chk (pLd σ' size agg p) v (chkLog b i kd σ' r k))
    | _, _ => chkLog b i kd σ' r k

/-- the order in which the text carries a region out: what waits for nothing and makes a block goes first -/
def hoist (o : Oper) : Bool := (match o.after.toList with | [] => true | _ => false) && (match o.op with | .alloc _ | .makeSlice .. | .buildSlice .. => true | _ => false)
def ordD (all : List Oper) : List (Oper × Nat) := (all.zipIdx.filter fun p => hoist p.1) ++ (all.zipIdx.filter fun p => !hoist p.1)
/-- each one behind those that it waits for -/
def ordOk : List (Oper × Nat) → List Nat → Bool
  | [], _ => true
  | (o, i) :: r, done => (o.after.toList.all fun e => match e.ground with
      | .textOnly _ => true
      | .gcOnly _ => true
      | _ => done.any (Nat.beq e.on)) && ordOk r (i :: done)

noncomputable def opsD (E : Env) (call : Nat → List Value → LH → Option (List Value × LH)) (f : Nat) (all : List Oper) (b : List (List Nat)) :
    List (Oper × Nat) → List Ent → Fr → LH → (Fr → LH → Option α) → Option α
  | [], _, fr, σ, k => k fr σ
  | (o, i) :: r, g, fr, σ, k => cond (dstOk o fr.n)
      (grd all o fr
        (fun fr => opC E call f o (fr.only (o.looksAt all.toArray)) σ fun x _ σ' =>
          match kindOf E f o (fr.only (o.looksAt all.toArray)) x with
          | none => none
          | some kd => chkLog b i kd σ' g (opsD E call f all b r (⟨i, kd, σ⟩ :: g) (fr.put fr.regs o.dst x) σ' k))
        (fun fr => opsD E call f all b r g (fr.put fr.regs o.dst (some .und)) σ k)) none

def drawOk (all : List Oper) : Bool := tmpOk all (befs all []) && edgesOk all && ordOk (ordD all) []

/-! ## code -/
inductive Ex where
  | normal | ret | exit (id : Nat)

def Code.rid : Code → Option Nat
  | .region id _ _ => some id
  | .seq a b => match Code.rid a with | some i => some i | none => Code.rid b
  | .cond _ a b => match Code.rid a with | some i => some i | none => Code.rid b
  | .block _ c | .loop c | .scope c => Code.rid c
  | _ => none

/-- the kept registers' values -/
def packR (fr : Fr) : List (Nat × Nat) → (List Value → Option α) → Option α
  | [], k => k []
  | (t, n) :: rs, k => (match look fr.regs t, look fr.tmps t with
    | some cs, some (some (.reg t' 0)) => cond (Nat.beq cs.length n && Nat.beq t' t) (packR fr rs fun l => k (cs ++ l)) none
    | _, _ => none)

/-- the kept temporaries' and registers' values -/
def pack (fr : Fr) (rs : List (Nat × Nat)) : List Nat → (List Value → Option α) → Option α
  | [], k => packR fr rs k
  | t :: r, k => (match look fr.tmps t with
    | some (some (.val v)) => pack fr rs r fun l => k (v :: l)
    | _ => none)

/-- a frame of these values -/
def unpackR (n : Nat) : List (Nat × Nat) → List Value → Fr
  | [], _ => ⟨n, [], []⟩
  | (t, m) :: rs, l => ⟨n, (t, some (.reg t 0)) :: (unpackR n rs (l.drop m)).tmps, (t, l.take m) :: (unpackR n rs (l.drop m)).regs⟩

def unpack (n : Nat) (rs : List (Nat × Nat)) : List Nat → List Value → Fr
  | [], l => unpackR n rs l
  | t :: r, l => match l with
    | [] => ⟨n, [], []⟩
    | v :: l => ⟨n, (t, some (.val v)) :: (unpack n rs r l).tmps, (unpack n rs r l).regs⟩

def sizeR : List (Nat × Nat) → Nat
  | [] => 0
  | (_, n) :: rs => sizeR rs + n

def sizeK (rs : List (Nat × Nat)) : List Nat → Nat
  | [] => sizeR rs
  | _ :: r => sizeK rs r + 1

def iterV (F : (List Value → LH → Option α) → List Value → LH → Option α) : Nat → List Value → LH → Option α
  | 0, _, _ => none
  | n + 1, xs, σ => F (iterV F n) xs σ

noncomputable def ev (E : Env) (N : Nat) (call : Nat → List Value → LH → Option (List Value × LH)) (f : Nat) :
    Code → Fr → LH → (Ex → Fr → LH → Option α) → Option α
  | .skip, fr, σ, k => k .normal fr σ
  | .ret, fr, σ, k => k .ret fr σ
  | .exit id, fr, σ, k => k (.exit id) fr σ
  | .seq a b, fr, σ, k => ev E N call f a fr σ fun
      | .normal, fr, σ => ev E N call f b fr σ k
      | e, fr, σ => k e fr σ
  | .cond c a b, fr, σ, k => fr.evV c fun v => asB v fun t => cond t (ev E N call f a fr σ k) (ev E N call f b fr σ k)
  | .block id c, fr, σ, k => ev E N call f c fr σ fun
      | .exit id', fr, σ => cond (Nat.beq id' id) (k .normal fr σ) (k (.exit id') fr σ)
      | e, fr, σ => k e fr σ
  | .region _ ops draw, fr, σ, k => cond draw
      (cond (drawOk ops.toList)
        (opsD E call f ops.toList (befs ops.toList []) (ordD ops.toList) [] fr σ fun fr σ => k .normal fr σ) none)
      (opsC E call f ops.toList ops.toList fr σ fun fr σ => k .normal fr σ)
  | .loop c, fr, σ, k =>
    (match Code.rid c with
    | none => none
    | some i => pack fr (E.keep f i).2 (E.keep f i).1 fun xs =>
      iterV (fun rec xs σ => unN (sizeK (E.keep f i).2 (E.keep f i).1) xs fun l =>
        ev E N call f c (unpack fr.n (E.keep f i).2 (E.keep f i).1 l) σ fun
          | .normal, fr, σ => pack fr (E.keep f i).2 (E.keep f i).1 fun xs => rec xs σ
          | e, fr, σ => k e fr σ) N xs σ)
  | _, _, _, _ => none

/-- the results of a call -/
def resC (E : Env) (fr : Fr) (σ : LH) : List ResultVar → (List Value → Option α) → Option α
  | [], k => k []
  | .tmp t :: r, k => (match look fr.tmps t with
    | some (some (.val v)) => resC E fr σ r fun l => k (v :: l)
    | _ => none)
  | .cell a T :: r, k => (match E.ti T, look fr.tmps a with
    | some ti, some (some (.reg t off)) => (match look fr.regs t with
      | some cs => rdReg cs off ti.size ti.agg fun v => resC E fr σ r fun l => k (v :: l)
      | none => none)
    | some ti, some (some (.val p)) => (pLd σ ti.size ti.agg p).bind fun v => resC E fr σ r fun l => k (v :: l)
    | _, _ => none)
end

def argsF : Nat → List Value → List (Nat × Option FV)
  | _, [] => []
  | i, v :: r => (i, some (.val v)) :: argsF (i + 1) r

noncomputable def evFn (E : Env) (N : Nat) : Nat → Nat → List Value → LH → Option (List Value × LH)
  | 0, _, _, _ => none
  | n + 1, f, args, σ =>
    match E.fn f with
    | none => none
    | some fn => match fn.body with
      | none => none
      | some c => cond (Nat.ble args.length fn.ntmps)
          (ev E N (evFn E N n) f c ⟨fn.ntmps, argsF 0 args, []⟩ σ fun
            | .exit _, _, _ => none
            | _, fr, σ => resC E fr σ fn.results.toList fun vs => some (vs, σ)) none
end Go.Lg
