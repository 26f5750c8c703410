/- What a logical state and a real one have to do with each other; how that is kept by a new row, a write, a row that is given up. -/
import Derived.Test.YtikafgoibpeagaaLgB
import Derived.Laws.Cells
import Derived.Laws.Append
import Derived.Laws.Tables
namespace Go.Lg
set_option linter.unusedVariables false
set_option linter.unusedSimpArgs false

inductive Key where
  | hp (b : Nat)
  | rg (t : Nat)
  deriving DecidableEq

/-- where a logical block lies: the real row, the shift, the row's cells, is it the call's own -/
structure Tgt where
  r : Nat
  s : Nat
  n : Nat
  full : Bool

abbrev Pl := Key → Option Tgt
abbrev Mem := Key → Option Blk

inductive VR (π : Pl) : Value → Value → Prop where
  | bool (b : Bool) : VR π (.bool b) (.bool b)
  | int (k : IntKind) (n : Int) : VR π (.int k n) (.int k n)
  | string (s : ByteArray) : VR π (.string s) (.string s)
  | nilFunc : VR π .nilFunc .nilFunc
  | nilIface : VR π .nilIface .nilIface
  | ptrN : VR π (.pointer none) (.pointer none)
  | ptr (b o : Nat) (e : Tgt) (h : π (.hp b) = some e) : VR π (.pointer (some ⟨b, o, none⟩)) (.pointer (some ⟨e.r, o + e.s, none⟩))
  | slcN : VR π (.slice none 0 0) (.slice none 0 0)
  | slc (b o n c z o' c' : Nat) (e : Tgt) (h : π (.hp b) = some e) (h1 : 0 < c / 2 → o' = o + e.s) (h2 : c / 2 ≤ c') (h3 : c % 2 = 1 → c' = c / 2)
      (h4 : n ≤ c / 2) (h5 : e.full = true → 0 < c' → o' + c' * z ≤ e.n) : VR π (.slice (some ⟨b, o, some z⟩) n c) (.slice (some ⟨e.r, o', none⟩) n c')
  | func (f : Nat) (a b a' b' : Array Value) (ha : a.size = a'.size) (hb : b.size = b'.size)
      (h1 : ∀ (i : Nat) v v', a[i]? = some v → a'[i]? = some v' → VR π v v') (h2 : ∀ (i : Nat) v v', b[i]? = some v → b'[i]? = some v' → VR π v v') :
      VR π (.func (.func f) a b) (.func (.func f) a' b')
  | agg (cs cs' : Array Value) (hs : cs.size = cs'.size) (ho : ∀ (i : Nat) v, cs[i]? = some v → one v = true)
      (h : ∀ (i : Nat) v v', cs[i]? = some v → cs'[i]? = some v' → VR π v v') : VR π (.agg cs) (.agg cs')

inductive VRs (π : Pl) : List Value → List Value → Prop where
  | nil : VRs π [] []
  | cons {v v' : Value} {l l' : List Value} (h : VR π v v') (t : VRs π l l') : VRs π (v :: l) (v' :: l')

def Ones (l : List Value) : Prop := ∀ v ∈ l, one v = true

/-- a map of places that says as much, and more -/
def More (π π' : Pl) : Prop := ∀ b e, π (.hp b) = some e → π' (.hp b) = some e

theorem More.refl (π : Pl) : More π π := fun _ _ h => h
theorem More.trans {a b c : Pl} (h : More a b) (k : More b c) : More a c := fun x e hx => k x e (h x e hx)

theorem VR.mono {π π' : Pl} (hm : More π π') {v v' : Value} (h : VR π v v') : VR π' v v' := by
  induction h with
  | bool b => exact .bool b
  | int k n => exact .int k n
  | string s => exact .string s
  | nilFunc => exact .nilFunc
  | nilIface => exact .nilIface
  | ptrN => exact .ptrN
  | ptr b o e h => exact .ptr b o e (hm _ _ h)
  | slcN => exact .slcN
  | slc b o n c z o' c' e h h1 h2 h3 h4 h5 => exact .slc b o n c z o' c' e (hm _ _ h) h1 h2 h3 h4 h5
  | func f a b a' b' ha hb h1 h2 i1 i2 => exact .func f a b a' b' ha hb i1 i2
  | agg cs cs' hs ho h ih => exact .agg cs cs' hs ho ih

theorem VR.one_eq {π : Pl} {v v' : Value} (h : VR π v v') : one v = one v' := by cases h <;> rfl
theorem VR.oneCell {π : Pl} {v v' : Value} (h : VR π v v') (h1 : Lg.one v = true) : v'.oneCell' = true := by
  cases h <;> first | rfl | simp [Lg.one] at h1

theorem VRs.len {π : Pl} {l l' : List Value} (h : VRs π l l') : l.length = l'.length := by
  induction h with
  | nil => rfl
  | cons _ _ ih => simp [ih]
theorem VRs.mono {π π' : Pl} (hm : More π π') {l l' : List Value} (h : VRs π l l') : VRs π' l l' := by
  induction h with
  | nil => exact .nil
  | cons h _ ih => exact .cons (h.mono hm) ih
theorem VRs.get {π : Pl} {l l' : List Value} (h : VRs π l l') : ∀ {i : Nat} {v : Value}, l[i]? = some v → ∃ v', l'[i]? = some v' ∧ VR π v v' := by
  induction h with
  | nil => intro i v h; simp at h
  | cons h _ ih =>
    intro i v hv
    cases i with
    | zero => simp at hv; subst hv; exact ⟨_, rfl, h⟩
    | succ i => exact ih (by simpa using hv)
theorem VRs.of_get {π : Pl} : ∀ {l l' : List Value}, l.length = l'.length → (∀ (i : Nat) v v', l[i]? = some v → l'[i]? = some v' → VR π v v') → VRs π l l'
  | [], [], _, _ => .nil
  | [], _ :: _, h, _ => by simp at h
  | _ :: _, [], h, _ => by simp at h
  | a :: l, b :: l', h, k => .cons (k 0 a b rfl rfl) (VRs.of_get (by simpa using h) fun i v v' hv hv' => k (i + 1) v v' (by simpa using hv) (by simpa using hv'))
theorem VRs.append {π : Pl} {a a' b b' : List Value} (h : VRs π a a') (k : VRs π b b') : VRs π (a ++ b) (a' ++ b') := by
  induction h with
  | nil => exact k
  | cons h _ ih => exact .cons h ih
theorem VRs.take {π : Pl} {l l' : List Value} (h : VRs π l l') (n : Nat) : VRs π (l.take n) (l'.take n) := by
  induction h generalizing n with
  | nil => simpa using VRs.nil
  | cons h _ ih => cases n with
    | zero => simpa using VRs.nil
    | succ n => simpa using VRs.cons h (ih n)
theorem VRs.drop {π : Pl} {l l' : List Value} (h : VRs π l l') (n : Nat) : VRs π (l.drop n) (l'.drop n) := by
  induction h generalizing n with
  | nil => simpa using VRs.nil
  | cons h t ih => cases n with
    | zero => exact .cons h t
    | succ n => simpa using ih n
theorem VRs.over {π : Pl} {l l' vs vs' : List Value} (h : VRs π l l') (k : VRs π vs vs') (off : Nat) : VRs π (over l off vs) (over l' off vs') := by
  unfold Lg.over
  rw [k.len]
  exact ((h.take off).append k).append (h.drop _)

theorem VR.agg_list {π : Pl} {cs : Array Value} {x : Value} (h : VR π (.agg cs) x) : ∃ cs', x = .agg cs' ∧ VRs π cs.toList cs'.toList ∧ Ones cs.toList := by
  cases h with
  | agg _ cs' hs ho hh =>
    refine ⟨cs', rfl, VRs.of_get (by simpa using hs) fun i v v' hv hv' => hh i v v' (by simpa using hv) (by simpa using hv'), fun v hv => ?_⟩
    obtain ⟨i, hi⟩ := List.getElem?_of_mem hv
    exact ho i v (by simpa using hi)
theorem VR.of_list {π : Pl} {l l' : List Value} (h : VRs π l l') (ho : Ones l) : VR π (.agg l.toArray) (.agg l'.toArray) := by
  refine .agg _ _ (by simpa using h.len) (fun i v hv => ho v (List.mem_of_getElem? (by simpa using hv))) fun i v v' hv hv' => ?_
  obtain ⟨u, hu, hr⟩ := h.get (i := i) (v := v) (by simpa using hv)
  have : l'[i]? = some v' := by simpa using hv'
  rw [this] at hu; cases hu; exact hr
theorem VR.cells {π : Pl} {v v' : Value} (h : VR π v v') : VRs π v.cells.toList v'.cells.toList ∧ Ones v.cells.toList := by
  cases h with
  | agg cs cs' hs ho hh =>
    obtain ⟨c, he, h1, h2⟩ := VR.agg_list (.agg cs cs' hs ho hh)
    cases he; exact ⟨h1, h2⟩
  | _ => exact ⟨.cons (by constructor <;> assumption) .nil, fun v hv => by simp [Value.cells] at hv; subst hv; rfl⟩
theorem VR.cells_size {π : Pl} {v v' : Value} (h : VR π v v') : v'.cells.size = v.cells.size := by
  have := h.cells.1.len; simpa using this.symm
theorem VR.cells_one {π : Pl} {v v' : Value} (h : VR π v v') : ∀ u ∈ v'.cells.toList, u.oneCell' = true := by
  intro u hu
  obtain ⟨hs, ho⟩ := h.cells
  obtain ⟨i, hi⟩ := List.getElem?_of_mem hu
  have hl : i < v.cells.toList.length := by
    have := hs.len
    rcases Nat.lt_or_ge i v'.cells.toList.length with h' | h'
    · omega
    · rw [List.getElem?_eq_none h'] at hi; cases hi
  obtain ⟨u', hu', hr⟩ := hs.get (List.getElem?_eq_getElem hl)
  rw [hi] at hu'; cases hu'
  exact hr.oneCell (ho _ (List.getElem_mem hl))

/-! ## rows of the real heap -/
def RowAt (w : World) (r : Nat) (arr : Array Value) : Prop :=
  ∃ t lo hi, w.heap[r]? = some (.cells arr t (lo, hi)) ∧ ∀ o, o < arr.size → ¬ (lo ≤ o ∧ o < hi)

theorem RowAt.lt {w : World} {r : Nat} {arr : Array Value} (h : RowAt w r arr) : r < w.heap.size := by
  obtain ⟨t, lo, hi, h, _⟩ := h
  rcases Nat.lt_or_ge r w.heap.size with h' | h'
  · exact h'
  · rw [Array.getElem?_eq_none h'] at h; cases h
theorem RowAt.cell {w : World} {r : Nat} {arr : Array Value} (h : RowAt w r arr) (o : Nat) : w.cell? ⟨r, o, none⟩ = arr[o]? := by
  obtain ⟨t, lo, hi, h, _⟩ := h
  simp [World.cell?, h]
theorem RowAt.frozen {w : World} {r : Nat} {arr : Array Value} (h : RowAt w r arr) {o : Nat} (ho : o < arr.size) : w.frozen? ⟨r, o, none⟩ = false := by
  obtain ⟨t, lo, hi, h, hf⟩ := h
  have := hf o ho
  simp only [World.frozen?, h]
  by_cases h1 : lo ≤ o <;> by_cases h2 : o < hi <;> simp_all

def overA (arr : Array Value) (o : Nat) (vs : List Value) : Array Value := (over arr.toList o vs).toArray

theorem over_nil (l : List Value) (o : Nat) : over l o [] = l := by simp [over]
theorem over_length {l vs : List Value} {o : Nat} (h : o + vs.length ≤ l.length) : (over l o vs).length = l.length := by
  simp [over]; omega
theorem over_get {l vs : List Value} {o : Nat} (h : o + vs.length ≤ l.length) (j : Nat) :
    (over l o vs)[j]? = if o ≤ j ∧ j < o + vs.length then vs[j - o]? else l[j]? := by
  unfold over
  rw [List.append_assoc, List.getElem?_append]
  have hl : (l.take o).length = o := by simp; omega
  rw [hl]
  split
  · rename_i h1
    rw [if_neg (by omega), List.getElem?_take]
    simp [h1]
  · rename_i h1
    rw [List.getElem?_append]
    split
    · rw [if_pos (by omega)]
    · rw [if_neg (by omega), List.getElem?_drop]
      congr 1; omega
theorem over_cons {l : List Value} {o : Nat} {v : Value} {vs : List Value} (h : o + vs.length + 1 ≤ l.length) :
    over (l.set o v) (o + 1) vs = over l o (v :: vs) := by
  apply List.ext_getElem?
  intro j
  rw [over_get (by simp; omega), over_get (by simp; omega)]
  by_cases h1 : o + 1 ≤ j ∧ j < o + 1 + vs.length
  · rw [if_pos h1, if_pos (by simp; omega)]
    obtain ⟨i, rfl⟩ : ∃ i, j = o + 1 + i := ⟨j - (o + 1), by omega⟩
    rw [show o + 1 + i - (o + 1) = i by omega, show o + 1 + i - o = i + 1 by omega]; simp
  · rw [if_neg h1]
    by_cases h2 : j = o
    · subst h2; rw [if_pos (by simp)]; simp [show j < l.length by omega]
    · rw [if_neg (by simp; omega), List.getElem?_set_ne (by omega)]

theorem setCell_heap (w : World) (r o : Nat) (v : Value) (k : Nat) (h : k ≠ r) : (w.setCell ⟨r, o, none⟩ v).heap[k]? = w.heap[k]? := by
  simp only [World.setCell, Array.getElem?_modify]
  rw [if_neg (by simpa using Ne.symm h)]
theorem setCell_row {w : World} {r : Nat} {arr : Array Value} {t : TypeId} {f : Nat × Nat} (h : w.heap[r]? = some (.cells arr t f)) (o : Nat) (v : Value) :
    (w.setCell ⟨r, o, none⟩ v).heap[r]? = some (.cells (arr.setIfInBounds o v) t f) := by
  simp only [World.setCell, Array.getElem?_modify, h, if_true, Option.map_some]; rfl

/-- the world with other cells in one row -/
structure Put (w : World) (r : Nat) (arr : Array Value) (w' : World) : Prop where
  os : w'.os = w.os
  tape : w'.tape = w.tape
  output : w'.output = w.output
  size : w'.heap.size = w.heap.size
  row : RowAt w' r arr
  other : ∀ k, k ≠ r → w'.heap[k]? = w.heap[k]?

theorem run_storeRow (P : Program) (r o : Nat) : ∀ (vs : List Value) (i : Nat) (w : World) (arr : Array Value), RowAt w r arr → o + i + vs.length ≤ arr.size → (∀ v ∈ vs, v.oneCell' = true) →
    ∃ w', (storeCells ⟨r, o, none⟩ vs i).run P w = .ok () w' ∧ Put w r (overA arr (o + i) vs) w'
  | [], i, w, arr, h, _, _ => ⟨w, by simp [storeCells], ⟨rfl, rfl, rfl, rfl, by simpa [overA, over_nil] using h, fun _ _ => rfl⟩⟩
  | v :: vs, i, w, arr, h, hl, h1 => by
    have hlt : o + i < arr.size := by simp at hl; omega
    have ha : (⟨r, o, none⟩ : Addr).add i = ⟨r, o + i, none⟩ := by unfold Addr.add; split <;> simp_all
    have hc : w.cell? ⟨r, o + i, none⟩ = some arr[o + i] := by rw [h.cell, Array.getElem?_eq_getElem hlt]
    have hf := h.frozen hlt
    have hrow : RowAt (w.setCell ⟨r, o + i, none⟩ v) r (arr.setIfInBounds (o + i) v) := by
      obtain ⟨t, lo, hi, hh, hz⟩ := h
      exact ⟨t, lo, hi, setCell_row hh _ _, fun o ho => hz o (by simpa using ho)⟩
    obtain ⟨w', hr, hp⟩ := run_storeRow P r o vs (i + 1) _ _ hrow (by simp at hl ⊢; omega) (fun x hx => h1 x (by simp [hx]))
    refine ⟨w', ?_, ⟨hp.os, hp.tape, hp.output, by rw [hp.size]; simp, ?_, fun k hk => by rw [hp.other k hk, setCell_heap _ _ _ _ _ hk]⟩⟩
    · simp only [storeCells, Sem.run_bind, ha, run_store P w _ v .plain (h1 v (by simp)), hc, hf, Bool.false_eq_true, if_false, Result.andThen_ok]
      exact hr
    · have : overA arr (o + i) (v :: vs) = overA (arr.setIfInBounds (o + i) v) (o + (i + 1)) vs := by
        unfold overA
        rw [Array.toList_setIfInBounds, ← Nat.add_assoc, over_cons (by simp at hl ⊢; omega)]
      rw [this]; exact hp.row

/-! ## the relation between the heaps -/
structure HR (m : Mem) (π : Pl) (w : World) : Prop where
  cell : ∀ k e blk i v, π k = some e → m k = some blk → blk.cells[i]? = some v → ∃ v', w.cell? ⟨e.r, i + e.s, none⟩ = some v' ∧ VR π v v'
  ones : ∀ k blk, (∃ e, π k = some e) → m k = some blk → Ones blk.cells
  own : ∀ k e blk, π k = some e → m k = some blk → blk.wr = true → e.full = true ∧ ∃ arr, RowAt w e.r arr ∧ arr.size = e.n ∧ e.s + blk.cells.length ≤ e.n
  inj : ∀ k k' e e' blk blk', π k = some e → π k' = some e' → m k = some blk → m k' = some blk' → k ≠ k' → e.r = e'.r → blk.wr = false ∧ blk'.wr = false
  lt : ∀ k e, π k = some e → e.r < w.heap.size

theorem HR.list {m : Mem} {π : Pl} {w : World} (h : HR m π w) {k : Key} {e : Tgt} {blk : Blk} (hk : π k = some e) (hb : m k = some blk) (o n : Nat)
    (hn : o + n ≤ blk.cells.length) : ∃ l', VRs π ((blk.cells.drop o).take n) l' ∧ l'.length = n ∧ ∀ j v, l'[j]? = some v → w.cell? ⟨e.r, o + e.s + j, none⟩ = some v := by
  induction n with
  | zero => exact ⟨[], by simpa using VRs.nil, rfl, fun j v h => by simp at h⟩
  | succ n ih =>
    obtain ⟨l', h1, h2, h3⟩ := ih (by omega)
    have hlt : o + n < blk.cells.length := by omega
    obtain ⟨v', hv, hr⟩ := h.cell k e blk (o + n) blk.cells[o + n] hk hb (List.getElem?_eq_getElem hlt)
    refine ⟨l' ++ [v'], ?_, by simp [h2], fun j v hj => ?_⟩
    · rw [List.take_succ_eq_append_getElem (by simp; omega)]
      refine h1.append (.cons ?_ .nil)
      simpa using hr
    · rw [List.getElem?_append] at hj
      split at hj
      · exact h3 j v hj
      · have : j = n := by
          rcases Nat.lt_or_ge (j - l'.length) 1 with h' | h'
          · omega
          · rw [List.getElem?_eq_none (by simpa using h')] at hj; cases hj
        subst this
        rw [h2] at hj; simp at hj; subst hj
        rw [← hv]; congr 2; omega

def upd {α : Type} (m : Key → α) (k : Key) (x : α) : Key → α := fun j => if j = k then x else m j
@[simp] theorem upd_same {α : Type} (m : Key → α) (k : Key) (x : α) : upd m k x k = x := by simp [upd]
theorem upd_ne {α : Type} (m : Key → α) {k j : Key} (x : α) (h : j ≠ k) : upd m k x j = m j := by simp [upd, h]

/-- one more row at the heap's end -/
structure Grown1 (w : World) (arr : Array Value) (w' : World) : Prop where
  os : w'.os = w.os
  tape : w'.tape = w.tape
  output : w'.output = w.output
  size : w'.heap.size = w.heap.size + 1
  row : RowAt w' w.heap.size arr
  other : ∀ k, k < w.heap.size → w'.heap[k]? = w.heap[k]?

theorem cell_of_heap {w w' : World} {a : Addr} (h : w'.heap[a.block]? = w.heap[a.block]?) : w'.cell? a = w.cell? a := by simp [World.cell?, h]
theorem RowAt.of_heap {w w' : World} {r : Nat} {arr : Array Value} (h : w'.heap[r]? = w.heap[r]?) (k : RowAt w r arr) : RowAt w' r arr := by
  obtain ⟨t, lo, hi, hh, hz⟩ := k
  exact ⟨t, lo, hi, h.trans hh, hz⟩

theorem HR.push {m : Mem} {π : Pl} {w w' : World} (h : HR m π w) {k : Key} (hk : π k = none) {vs : List Value} {arr : Array Value} (g : Grown1 w arr w')
    (hv : ∃ l', VRs (upd π k (some ⟨w.heap.size, 0, arr.size, true⟩)) vs l' ∧ ∀ (j : Nat) v, l'[j]? = some v → arr[j]? = some v) (ho : Ones vs) :
    HR (upd m k (some ⟨vs, true⟩)) (upd π k (some ⟨w.heap.size, 0, arr.size, true⟩)) w' := by
  obtain ⟨l', hl, hg⟩ := hv
  have hmore : More π (upd π k (some ⟨w.heap.size, 0, arr.size, true⟩)) := fun b e hb => by
    rw [upd_ne]; exact hb
    intro he; rw [he, hk] at hb; cases hb
  have hlen : vs.length ≤ arr.size := by
    rcases Nat.lt_or_ge arr.size vs.length with h' | h'
    · have hh : arr.size < l'.length := by rw [← hl.len]; exact h'
      have := hg arr.size _ (List.getElem?_eq_getElem hh)
      simp at this
    · exact h'
  refine ⟨?_, ?_, ?_, ?_, ?_⟩
  · intro j e blk i v hj hm hi
    by_cases hjk : j = k
    · subst hjk
      simp only [upd_same, Option.some.injEq] at hj hm
      subst hj hm
      obtain ⟨v', h1, h2⟩ := hl.get hi
      exact ⟨v', by rw [g.row.cell]; exact hg _ _ h1, h2⟩
    · rw [upd_ne _ _ hjk] at hj hm
      obtain ⟨v', h1, h2⟩ := h.cell j e blk i v hj hm hi
      exact ⟨v', by rw [cell_of_heap (g.other _ (h.lt _ _ hj))]; exact h1, h2.mono hmore⟩
  · intro j blk he hm
    by_cases hjk : j = k
    · subst hjk; simp only [upd_same, Option.some.injEq] at hm; subst hm; exact ho
    · rw [upd_ne _ _ hjk] at hm
      obtain ⟨e, he⟩ := he
      rw [upd_ne _ _ hjk] at he
      exact h.ones j blk ⟨e, he⟩ hm
  · intro j e blk hj hm hw
    by_cases hjk : j = k
    · subst hjk
      simp only [upd_same, Option.some.injEq] at hj hm
      subst hj hm
      exact ⟨rfl, arr, g.row, rfl, by simpa using hlen⟩
    · rw [upd_ne _ _ hjk] at hj hm
      obtain ⟨h1, arr', h2, h3⟩ := h.own j e blk hj hm hw
      exact ⟨h1, arr', h2.of_heap (g.other _ (h.lt _ _ hj)), h3⟩
  · intro j j' e e' blk blk' hj hj' hm hm' hne hr
    by_cases hjk : j = k
    · subst hjk
      rw [upd_ne _ _ (Ne.symm hne)] at hj' hm'
      simp only [upd_same, Option.some.injEq] at hj
      subst hj
      have := h.lt _ _ hj'
      simp at hr; omega
    · by_cases hjk' : j' = k
      · subst hjk'
        rw [upd_ne _ _ hjk] at hj
        simp only [upd_same, Option.some.injEq] at hj'
        subst hj'
        have := h.lt _ _ hj
        simp at hr; omega
      · rw [upd_ne _ _ hjk] at hj hm
        rw [upd_ne _ _ hjk'] at hj' hm'
        exact h.inj j j' e e' blk blk' hj hj' hm hm' hne hr
  · intro j e hj
    rw [g.size]
    by_cases hjk : j = k
    · subst hjk; simp only [upd_same, Option.some.injEq] at hj; subst hj; simp
    · rw [upd_ne _ _ hjk] at hj; have := h.lt _ _ hj; omega

/-- a write into a block of the call's own -/
theorem HR.write {m : Mem} {π : Pl} {w w' : World} (h : HR m π w) {k : Key} {e : Tgt} {blk : Blk} (hk : π k = some e) (hb : m k = some blk) (hw : blk.wr = true)
    {off : Nat} {vs vs' : List Value} (hfit : off + vs.length ≤ blk.cells.length) (hv : VRs π vs vs') (ho : Ones vs) {arr : Array Value} (hrow : RowAt w e.r arr)
    (p : Put w e.r (overA arr (off + e.s) vs') w') : HR (upd m k (some { blk with cells := over blk.cells off vs })) π w' := by
  obtain ⟨hfull, arr', hrow', hsz, hlen⟩ := h.own k e blk hk hb hw
  have harr : arr' = arr := by
    obtain ⟨_, _, _, h1, _⟩ := hrow
    obtain ⟨_, _, _, h2, _⟩ := hrow'
    rw [h1] at h2; cases h2; rfl
  subst harr
  have hvl := hv.len
  have hoA : ∀ j : Nat, (overA arr' (off + e.s) vs')[j]? = if off + e.s ≤ j ∧ j < off + e.s + vs'.length then vs'[j - (off + e.s)]? else arr'[j]? := fun j => by
    unfold overA
    rw [List.getElem?_toArray, over_get (by simp; omega)]
    simp
  have hosz : (overA arr' (off + e.s) vs').size = arr'.size := by
    unfold overA; rw [List.size_toArray, over_length (by simp; omega)]; simp
  refine ⟨?_, ?_, ?_, ?_, ?_⟩
  · intro j e1 blk1 i v hj hm hi
    by_cases hjk : j = k
    · subst hjk
      rw [hk] at hj; cases hj
      simp only [upd_same, Option.some.injEq] at hm
      subst hm
      simp only at hi
      rw [over_get hfit] at hi
      rw [p.row.cell, hoA]
      split at hi
      · obtain ⟨v', h1, h2⟩ := hv.get hi
        exact ⟨v', by rw [if_pos (by omega), ← h1]; congr 1; omega, h2⟩
      · obtain ⟨v', h1, h2⟩ := h.cell _ e blk i v hk hb hi
        exact ⟨v', by rw [if_neg (by omega)]; rw [hrow'.cell] at h1; exact h1, h2⟩
    · rw [upd_ne _ _ hjk] at hm
      obtain ⟨v', h1, h2⟩ := h.cell j e1 blk1 i v hj hm hi
      have hr : e1.r ≠ e.r := fun he => by
        have := (h.inj j k e1 e blk1 blk hj hk hm hb hjk he).2
        rw [hw] at this; cases this
      exact ⟨v', by rw [cell_of_heap (p.other _ hr)]; exact h1, h2⟩
  · intro j blk1 he hm
    by_cases hjk : j = k
    · subst hjk
      simp only [upd_same, Option.some.injEq] at hm
      subst hm
      have hob := h.ones _ _ he hb
      intro v hv
      simp only [over, List.mem_append] at hv
      rcases hv with (hv | hv) | hv
      · exact hob v (List.mem_of_mem_take hv)
      · exact ho v hv
      · exact hob v (List.mem_of_mem_drop hv)
    · rw [upd_ne _ _ hjk] at hm; exact h.ones j blk1 he hm
  · intro j e1 blk1 hj hm hw1
    by_cases hjk : j = k
    · subst hjk
      rw [hk] at hj; cases hj
      simp only [upd_same, Option.some.injEq] at hm
      subst hm
      exact ⟨hfull, _, p.row, by rw [hosz]; exact hsz, by simp only; rw [over_length hfit]; exact hlen⟩
    · rw [upd_ne _ _ hjk] at hm
      obtain ⟨h1, a, h2, h3⟩ := h.own j e1 blk1 hj hm hw1
      have hr : e1.r ≠ e.r := fun he => by
        have := (h.inj j k e1 e blk1 blk hj hk hm hb hjk he).2
        rw [hw] at this; cases this
      exact ⟨h1, a, h2.of_heap (p.other _ hr), h3⟩
  · intro j j' e1 e2 b1 b2 hj hj' hm hm' hne hr
    by_cases hjk : j = k
    · subst hjk
      rw [upd_ne _ _ (Ne.symm hne)] at hm'
      have := (h.inj j j' e1 e2 blk b2 hj hj' hb hm' hne hr).1
      rw [hw] at this; cases this
    · by_cases hjk' : j' = k
      · subst hjk'
        rw [upd_ne _ _ hjk] at hm
        have := (h.inj j j' e1 e2 b1 blk hj hj' hm hb hne hr).2
        rw [hw] at this; cases this
      · rw [upd_ne _ _ hjk] at hm
        rw [upd_ne _ _ hjk'] at hm'
        exact h.inj j j' e1 e2 b1 b2 hj hj' hm hm' hne hr
  · intro j e1 hj
    rw [p.size]; exact h.lt _ _ hj

/-- a block that is given up -/
theorem HR.kill {m : Mem} {π : Pl} {w : World} (h : HR m π w) (k : Key) : HR (upd m k none) π w := by
  have hs : ∀ {j : Key} {blk : Blk}, upd m k none j = some blk → m j = some blk := fun {j blk} hj => by
    by_cases hjk : j = k
    · subst hjk; simp at hj
    · rwa [upd_ne _ _ hjk] at hj
  exact ⟨fun j e b i v hj hm hi => h.cell j e b i v hj (hs hm) hi, fun j b he hm => h.ones j b he (hs hm), fun j e b hj hm hw => h.own j e b hj (hs hm) hw,
    fun j j' e e' b b' hj hj' hm hm' => h.inj j j' e e' b b' hj hj' (hs hm) (hs hm'), h.lt⟩
end Go.Lg
