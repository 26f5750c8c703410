/- Logical and real frames; what a step keeps; operands. -/
import Derived.Test.YtikafgoibpeagaaLgC
namespace Go.Lg
set_option linter.unusedVariables false
set_option linter.unusedSimpArgs false

/-! ## the tables are the program's -/
def aggD : TypeDesc → Bool | .struct _ => true | .array _ _ => true | _ => false

def shapeOf (P : Program) : TypeDesc → Shape
  | .int k => .int k
  | .bool => .bool
  | .string => .str
  | .slice e => .slice e
  | .pointer _ => .ptr
  | .func .. => .func
  | .struct fs => if fs.toList.all (fun f => (P.info? f.type).isSome && (P.underlying f.type).isSome) then
      .struct (fs.toList.map fun f => (f.offset, (match P.info? f.type with | some i => i.size | none => 0), (match P.underlying f.type with | some d => aggD d | none => false))) else .other
  | _ => .other

def tiOf (P : Program) (t : TypeId) : Option TI :=
  match P.info? t, P.underlying t with
  | some i, some d => match i.zero with
    | some z => some ⟨i.size, i.bytes, aggD d, z.cells.toList, shapeOf P d⟩
    | none => none
  | _, _ => none

def tiGood (ti : TI) : Bool := ti.zero.length == ti.size && ti.zero.all constOk && ti.size != 0 && (ti.agg || ti.size == 1)

structure EnvOk (P : Program) (E : Env) : Prop where
  fn : ∀ f fn, E.fn f = some fn → P.funcs[f]? = some fn ∧ (fn.name == "runtime.NumGoroutine") = false
  ti : ∀ t ti, E.ti t = some ti → tiOf P t = some ti ∧ tiGood ti = true
  mixed : P.follows .mixedOrders = true

structure TIok (P : Program) (t : TypeId) (ti : TI) (i : TypeInfo) (d : TypeDesc) (z : Value) : Prop where
  info : P.info? t = some i
  und : P.underlying t = some d
  zero : i.zero = some z
  size : i.size = ti.size
  bytes : i.bytes = ti.bytes
  agg : aggD d = ti.agg
  cells : z.cells.toList = ti.zero
  shape : shapeOf P d = ti.shape
  zlen : ti.zero.length = ti.size
  zconst : ∀ v ∈ ti.zero, constOk v = true
  pos : 0 < ti.size
  scal : ti.agg = false → ti.size = 1

theorem EnvOk.tiok {P : Program} {E : Env} (h : EnvOk P E) {t : Nat} {ti : TI} (ht : E.ti t = some ti) : ∃ i d z, TIok P t ti i d z := by
  obtain ⟨h1, h2⟩ := h.ti t ti ht
  unfold tiOf at h1
  split at h1
  · rename_i i d hi hd
    split at h1
    · rename_i z hz
      cases h1
      simp only [tiGood, Bool.and_eq_true, beq_iff_eq, List.all_eq_true, bne_iff_ne, Bool.or_eq_true] at h2
      exact ⟨i, d, z, hi, hd, hz, rfl, rfl, rfl, rfl, rfl, h2.1.1.1, h2.1.1.2, Nat.pos_of_ne_zero h2.1.2, fun ha => h2.2.resolve_left (fun ht => by have ha2 : aggD d = false := ha; rw [ha2] at ht; cases ht)⟩
    · cases h1
  · cases h1

theorem shape_struct {P : Program} {d : TypeDesc} {fs : List (Nat × Nat × Bool)} (h : shapeOf P d = .struct fs) :
    ∃ fields, d = .struct fields ∧ fields.toList.all (fun f => (P.info? f.type).isSome && (P.underlying f.type).isSome) = true ∧
      fs = fields.toList.map fun f => (f.offset, (match P.info? f.type with | some i => i.size | none => 0), (match P.underlying f.type with | some d => aggD d | none => false)) := by
  cases d <;> simp only [shapeOf, reduceCtorEq] at h
  rename_i fields
  split at h
  · rename_i ha; cases h; exact ⟨fields, rfl, ha, rfl⟩
  · cases h
theorem shape_slice {P : Program} {d : TypeDesc} {e : Nat} (h : shapeOf P d = .slice e) : d = .slice e := by
  cases d <;> simp only [shapeOf] at h <;> first | (cases h; rfl) | cases h | (split at h <;> cases h)
theorem shape_str {P : Program} {d : TypeDesc} (h : shapeOf P d = .str) : d = .string := by
  cases d <;> simp only [shapeOf] at h <;> first | (cases h; rfl) | cases h | (split at h <;> cases h)
theorem shape_int {P : Program} {d : TypeDesc} {k : IntKind} (h : shapeOf P d = .int k) : d = .int k := by
  cases d <;> simp only [shapeOf] at h <;> first | (cases h; rfl) | cases h | (split at h <;> cases h)
theorem shape_bool {P : Program} {d : TypeDesc} (h : shapeOf P d = .bool) : d = .bool := by
  cases d <;> simp only [shapeOf] at h <;> first | (cases h; rfl) | cases h | (split at h <;> cases h)
theorem shape_ptr {P : Program} {d : TypeDesc} (h : shapeOf P d = .ptr) : ∃ e, d = .pointer e := by
  cases d <;> simp only [shapeOf] at h <;> first | (cases h; exact ⟨_, rfl⟩) | cases h | (split at h <;> cases h)

theorem constOk_VR (π : Pl) {v : Value} (h : constOk v = true) : VR π v v := by
  cases v with
  | pointer a => cases a with
    | none => exact .ptrN
    | some a => simp [constOk] at h
  | slice a n c => cases a with
    | none => cases n <;> cases c <;> first | exact .slcN | simp [constOk] at h
    | some a => simp [constOk] at h
  | _ => first | (constructor; done) | simp [constOk] at h
theorem constOk_one {v : Value} (h : constOk v = true) : one v = true := by cases v <;> first | rfl | simp [constOk] at h
theorem const_VRs (π : Pl) : ∀ {l : List Value}, (∀ v ∈ l, constOk v = true) → VRs π l l
  | [], _ => .nil
  | v :: l, h => .cons (constOk_VR π (h v (by simp))) (const_VRs π fun u hu => h u (by simp [hu]))

/-! ## frames -/
def cm (regs : List (Nat × List Value)) (mem : Nat → Option Blk) : Mem
  | .hp b => mem b
  | .rg t => (look regs t).map fun cs => ⟨cs, true⟩

inductive FVR (π : Pl) : FV → Value → Prop where
  | val (v v' : Value) (h : VR π v v') : FVR π (.val v) v'
  | reg (t o : Nat) (e : Tgt) (h : π (.rg t) = some e) : FVR π (.reg t o) (.pointer (some ⟨e.r, o + e.s, none⟩))
  | tup (l : List Value) (arr : Array Value) (h : VRs π l arr.toList) : FVR π (.tup l) (.tuple arr)
  | und : FVR π .und undef

def More' (π π' : Pl) : Prop := ∀ k e, π k = some e → π' k = some e
theorem More'.hp {π π' : Pl} (h : More' π π') : More π π' := fun b e hb => h _ e hb

theorem FVR.mono {π π' : Pl} (hm : More' π π') {x : FV} {v : Value} (h : FVR π x v) : FVR π' x v := by
  cases h with
  | val v v' h => exact .val _ _ (h.mono hm.hp)
  | reg t o e h => exact .reg t o e (hm _ _ h)
  | tup l arr h => exact .tup l arr (h.mono hm.hp)
  | und => exact .und

structure Rel (fr : Fr) (σ : LH) (π : Pl) (a : Act) (w : World) : Prop where
  tm : ∀ t x, look fr.tmps t = some (some x) → FVR π x (a.tmps.getD t undef)
  sz : a.tmps.size = fr.n
  df : a.defers = []
  hr : HR (cm fr.regs σ.mem) π w
  dom : ∀ b, σ.next ≤ b → π (.hp b) = none
  mdom : ∀ b, σ.next ≤ b → σ.mem b = none
  rg : ∀ t e, π (.rg t) = some e → ∃ cs, look fr.regs t = some cs
  rg' : ∀ t cs, look fr.regs t = some cs → ∃ e, π (.rg t) = some e

/-- a real row that no live block of the call's own lies in -/
def Untouched (m : Mem) (π : Pl) (r : Nat) : Prop := ∀ k e blk, π k = some e → m k = some blk → e.r = r → blk.wr = false

structure Step (m : Mem) (nx : Nat) (π : Pl) (w : World) (m' : Mem) (nx' : Nat) (π' : Pl) (w' : World) : Prop where
  os : w'.os = w.os
  tape : w'.tape = w.tape
  output : w'.output = w.output
  size : w.heap.size ≤ w'.heap.size
  nxt : nx ≤ nx'
  old : ∀ b, b < nx → π' (.hp b) = π (.hp b)
  frame : ∀ r, r < w.heap.size → Untouched m π r → w'.heap[r]? = w.heap[r]?
  lframe : ∀ b, b < nx → π (.hp b) = none → m' (.hp b) = m (.hp b)
  wr : ∀ b blk', b < nx → m' (.hp b) = some blk' → ∃ blk, m (.hp b) = some blk ∧ blk.wr = blk'.wr ∧ (blk.wr = false → blk' = blk)
  new : ∀ k e, π' k = some e → π k = some e ∨ w.heap.size ≤ e.r ∨ ∃ k0 e0 b0, π k0 = some e0 ∧ m k0 = some b0 ∧ b0.wr = true ∧ e0.r = e.r

theorem Step.refl (m : Mem) (nx : Nat) (π : Pl) (w : World) : Step m nx π w m nx π w :=
  ⟨rfl, rfl, rfl, Nat.le_refl _, Nat.le_refl _, fun _ _ => rfl, fun _ _ _ => rfl, fun _ _ _ => rfl, fun b blk _ h => ⟨blk, h, rfl, fun _ => rfl⟩, fun k e h => .inl h⟩

/-- what is needed of the beginning, for two steps to be one -/
structure Begin (m : Mem) (nx : Nat) (π : Pl) : Prop where
  dom : ∀ b, nx ≤ b → π (.hp b) = none
  rg : ∀ t e, π (.rg t) = some e → ∃ cs, m (.rg t) = some ⟨cs, true⟩

theorem Rel.begin {fr : Fr} {σ : LH} {π : Pl} {a : Act} {w : World} (h : Rel fr σ π a w) : Begin (cm fr.regs σ.mem) σ.next π :=
  ⟨h.dom, fun t e ht => by
    obtain ⟨cs, hc⟩ := h.rg t e ht
    exact ⟨cs, by simp [cm, hc]⟩⟩

theorem Step.back {m m1 : Mem} {nx n1 : Nat} {π π1 : Pl} {w w1 : World} (b : Begin m nx π) (s : Step m nx π w m1 n1 π1 w1) {k : Key} {e : Tgt} {blk : Blk}
    (hk : π k = some e) (hm : m1 k = some blk) (hw : blk.wr = true) : ∃ b0, m k = some b0 ∧ b0.wr = true := by
  cases k with
  | hp x =>
    have hx : x < nx := by
      rcases Nat.lt_or_ge x nx with h | h
      · exact h
      · rw [b.dom x h] at hk; cases hk
    obtain ⟨b0, h1, h2, _⟩ := s.wr x blk hx hm
    exact ⟨b0, h1, by rw [h2]; exact hw⟩
  | rg t =>
    obtain ⟨cs, hc⟩ := b.rg t e hk
    exact ⟨_, hc, rfl⟩

theorem Step.untouched {m m1 : Mem} {nx n1 : Nat} {π π1 : Pl} {w w1 : World} (b : Begin m nx π) (s : Step m nx π w m1 n1 π1 w1) {r : Nat} (hr : r < w.heap.size)
    (hu : Untouched m π r) : Untouched m1 π1 r := by
  intro k e blk hk hm her
  rcases s.new k e hk with h | h | ⟨k0, e0, b0, h1, h2, h3, h4⟩
  · cases hw : blk.wr with
    | false => rfl
    | true =>
      obtain ⟨b0, h1, h2⟩ := s.back b h hm hw
      rw [hu k e b0 h h1 her] at h2; cases h2
  · omega
  · rw [hu k0 e0 b0 h1 h2 (by omega)] at h3; cases h3

theorem Step.trans {m m1 m2 : Mem} {nx n1 n2 : Nat} {π π1 π2 : Pl} {w w1 w2 : World} (b : Begin m nx π)
    (s : Step m nx π w m1 n1 π1 w1) (s' : Step m1 n1 π1 w1 m2 n2 π2 w2) : Step m nx π w m2 n2 π2 w2 where
  os := s'.os.trans s.os
  tape := s'.tape.trans s.tape
  output := s'.output.trans s.output
  size := Nat.le_trans s.size s'.size
  nxt := Nat.le_trans s.nxt s'.nxt
  old := fun x hx => (s'.old x (Nat.lt_of_lt_of_le hx s.nxt)).trans (s.old x hx)
  frame := fun r hr hu => (s'.frame r (Nat.lt_of_lt_of_le hr s.size) (s.untouched b hr hu)).trans (s.frame r hr hu)
  lframe := fun x hx hn => (s'.lframe x (Nat.lt_of_lt_of_le hx s.nxt) (by rw [s.old x hx]; exact hn)).trans (s.lframe x hx hn)
  wr := fun x blk' hx hm => by
    obtain ⟨b1, h1, h2, h3⟩ := s'.wr x blk' (Nat.lt_of_lt_of_le hx s.nxt) hm
    obtain ⟨b0, k1, k2, k3⟩ := s.wr x b1 hx h1
    exact ⟨b0, k1, k2.trans h2, fun hf => by rw [h3 (by rw [← k2]; exact hf), k3 hf]⟩
  new := fun k e hk => by
    rcases s'.new k e hk with h | h | ⟨k0, e0, b0, h1, h2, h3, h4⟩
    · exact s.new k e h
    · exact .inr (.inl (Nat.le_trans s.size h))
    · rcases s.new k0 e0 h1 with g | g | ⟨k1, e1, b1, g1, g2, g3, g4⟩
      · obtain ⟨b1, g1, g2⟩ := s.back b g h2 h3
        exact .inr (.inr ⟨k0, e0, b1, g, g1, g2, h4⟩)
      · exact .inr (.inl (by omega))
      · exact .inr (.inr ⟨k1, e1, b1, g1, g2, g3, by omega⟩)

/-! ## operands -/
section
variable {α : Type} {fr : Fr} {σ : LH} {π : Pl} {a : Act} {w : World} {res : α}

theorem ev_rel (h : Rel fr σ π a w) {x : Operand} {k : FV → Option α} (he : fr.ev x k = some res) : ∃ y, k y = some res ∧ FVR π y (a.eval x) := by
  unfold Fr.ev at he
  cases x with
  | tmp t =>
    simp only at he
    split at he
    · rename_i v hv
      exact ⟨v, he, h.tm t v hv⟩
    · cases he
  | const v =>
    simp only at he
    cases hc : constOk v with
    | true => rw [hc] at he; exact ⟨_, he, .val _ _ (constOk_VR π hc)⟩
    | false => rw [hc] at he; cases he
  | func f => exact ⟨_, he, .val _ _ (.func f _ _ _ _ rfl rfl (by simp) (by simp))⟩
  | global g => cases he

theorem evV_rel (h : Rel fr σ π a w) {x : Operand} {k : Value → Option α} (he : fr.evV x k = some res) : ∃ v, k v = some res ∧ VR π v (a.eval x) := by
  obtain ⟨y, hy, hr⟩ := ev_rel h he
  generalize a.eval x = z at hr
  cases hr with
  | val v v' hv => exact ⟨v, hy, hv⟩
  | reg => cases hy
  | tup => cases hy
  | und => cases hy

theorem evVs_rel (h : Rel fr σ π a w) : ∀ {xs : List Operand} {k : List Value → Option α}, fr.evVs xs k = some res → ∃ l, k l = some res ∧ VRs π l (xs.map a.eval)
  | [], k, he => ⟨[], he, .nil⟩
  | x :: xs, k, he => by
    obtain ⟨v, hv, hr⟩ := evV_rel h he
    obtain ⟨l, hl, hrs⟩ := evVs_rel h hv
    exact ⟨v :: l, hl, .cons hr hrs⟩

inductive OVR (π : Pl) : Option Value → Option Value → Prop where
  | none : OVR π none none
  | some (v v' : Value) (h : VR π v v') : OVR π (some v) (some v')

theorem evO_rel (h : Rel fr σ π a w) {x : Option Operand} {k : Option Value → Option α} (he : fr.evO x k = some res) : ∃ v, k v = some res ∧ OVR π v (x.map a.eval) := by
  cases x with
  | none => exact ⟨none, he, .none⟩
  | some x =>
    obtain ⟨v, hv, hr⟩ := evV_rel h he
    exact ⟨some v, hv, .some _ _ hr⟩

inductive PVR (π : Pl) : List (Nat × Value) → List (Nat × Value) → Prop where
  | nil : PVR π [] []
  | cons (i : Nat) (v v' : Value) (l l' : List (Nat × Value)) (h : VR π v v') (t : PVR π l l') : PVR π ((i, v) :: l) ((i, v') :: l')

theorem evPs_rel (h : Rel fr σ π a w) : ∀ {xs : List (Nat × Operand)} {k : List (Nat × Value) → Option α}, fr.evPs xs k = some res →
    ∃ l, k l = some res ∧ PVR π l (xs.map fun p => (p.1, a.eval p.2))
  | [], k, he => ⟨[], he, .nil⟩
  | (i, x) :: xs, k, he => by
    obtain ⟨v, hv, hr⟩ := evV_rel h he
    obtain ⟨l, hl, hrs⟩ := evPs_rel h hv
    exact ⟨(i, v) :: l, hl, .cons i v _ l _ hr hrs⟩

theorem asB_some {v : Value} {k : Bool → Option α} (h : asB v k = some res) : ∃ b, v = .bool b ∧ k b = some res := by
  cases v <;> first | exact ⟨_, rfl, h⟩ | cases h
theorem asF_some {v : Value} {k : Nat → Array Value → Array Value → Option α} (h : asF v k = some res) : ∃ f a b, v = .func (.func f) a b ∧ k f a b = some res := by
  unfold asF at h
  split at h
  · exact ⟨_, _, _, rfl, h⟩
  · cases h
theorem unN_some : ∀ {n : Nat} {l : List Value} {k : List Value → Option α}, unN n l k = some res → l.length = n ∧ k l = some res
  | 0, [], k, h => ⟨rfl, h⟩
  | 0, _ :: _, k, h => by simp [unN] at h
  | n + 1, [], k, h => by simp [unN] at h
  | n + 1, v :: l, k, h => by
    obtain ⟨h1, h2⟩ := unN_some (n := n) (l := l) (k := fun l => k (v :: l)) h
    exact ⟨by simp [h1], h2⟩
theorem sc1_some {v : Value} {k : Option α} (h : sc1 v k = some res) : v.cells = #[v] ∧ k = some res := by
  cases v <;> first | exact ⟨rfl, h⟩ | cases h
theorem unC_some {ag : Bool} {n : Nat} {v : Value} {k : List Value → Option α} (h : unC ag n v k = some res) : k v.cells.toList = some res ∧ (ag = true → v.cells.size = n) ∧ (ag = false → v.cells.size = 1) := by
  cases ag with
  | true =>
    cases v with
    | agg cs =>
      obtain ⟨h1, h2⟩ := unN_some (show unN n cs.toList k = some res from h)
      exact ⟨h2, fun _ => by simpa [Value.cells] using h1, fun h => by cases h⟩
    | _ => exact absurd h (by simp [unC])
  | false =>
    obtain ⟨h1, h2⟩ := sc1_some (show sc1 v (k [v]) = some res from h)
    exact ⟨by rw [h1]; exact h2, fun h => (by cases h), fun _ => by rw [h1]; rfl⟩
theorem cond_some {b : Bool} {x : Option α} (h : (cond b x none) = some res) : b = true ∧ x = some res := by
  cases b <;> first | exact ⟨rfl, h⟩ | cases h
theorem bind_some {β : Type} {x : Option β} {k : β → Option α} (h : x.bind k = some res) : ∃ y, x = some y ∧ k y = some res := Option.bind_eq_some_iff.mp h
end
end Go.Lg
