/- Typed values in a logical heap: what is read, what is owned. -/
import Derived.Test.YtikafgoibpeagaaLgF
import Derived.Test.YtikafgoibpeagaaLgT
namespace Go.Lg
set_option linter.unusedVariables false
set_option linter.unusedSimpArgs false
set_option linter.unusedSectionVars false

/-- only blocks of this set, and new ones, are changed -/
structure Mod (S : Nat → Prop) (σ σ' : LH) : Prop where
  nx : σ.next ≤ σ'.next
  eq : ∀ b, b < σ.next → ¬ S b → σ'.mem b = σ.mem b
  md : MD σ → MD σ'

abbrev Ext (σ σ' : LH) : Prop := Mod (fun _ => False) σ σ'

theorem Mod.refl (S : Nat → Prop) (σ : LH) : Mod S σ σ := ⟨Nat.le_refl _, fun _ _ _ => rfl, id⟩
theorem Mod.mono {S T : Nat → Prop} {σ σ' : LH} (h : Mod S σ σ') (hs : ∀ b, S b → T b ∨ σ.next ≤ b) : Mod T σ σ' :=
  ⟨h.nx, fun b hb ht => h.eq b hb fun hsb => (hs b hsb).elim ht (fun h => by omega), h.md⟩
theorem Mod.trans {S : Nat → Prop} {a b c : LH} (h : Mod S a b) (k : Mod S b c) : Mod S a c :=
  ⟨Nat.le_trans h.nx k.nx, fun x hx hs => (k.eq x (Nat.lt_of_lt_of_le hx h.nx) hs).trans (h.eq x hx hs), fun m => k.md (h.md m)⟩
/-- what changes only blocks that are new changes nothing -/
theorem Mod.ext {S : Nat → Prop} {σ σ' : LH} (h : Mod S σ σ') (hs : ∀ b, S b → σ.next ≤ b) : Ext σ σ' := h.mono fun b hb => .inr (hs b hb)
theorem Ext.mod {S : Nat → Prop} {σ σ' : LH} (h : Ext σ σ') : Mod S σ σ' := h.mono fun b hb => hb.elim
theorem Ext.push (σ : LH) (blk : Blk) : Ext σ (σ.push blk) :=
  ⟨Nat.le_succ _, fun b hb _ => by simp only [LH.push]; rw [if_neg (by omega)], fun h b hb => by simp only [LH.push] at hb ⊢; rw [if_neg (by omega)]; exact h b (by omega)⟩
theorem Mod.set {σ : LH} {b : Nat} {x : Option Blk} (hb : b < σ.next) : Mod (· = b) σ (σ.set b x) :=
  ⟨Nat.le_refl _, fun k hk hn => by simp only [LH.set]; rw [if_neg hn], fun h k hk => by simp only [LH.set] at hk ⊢; rw [if_neg (by omega)]; exact h k hk⟩

/-- below the first heap's end both are one -/
def Lo (σ σ' : LH) : Prop := σ.next ≤ σ'.next ∧ ∀ b, b < σ.next → σ'.mem b = σ.mem b
theorem Lo.refl (σ : LH) : Lo σ σ := ⟨Nat.le_refl _, fun _ _ => rfl⟩
theorem Lo.trans {a b c : LH} (h : Lo a b) (k : Lo b c) : Lo a c := ⟨Nat.le_trans h.1 k.1, fun x hx => (k.2 x (Nat.lt_of_lt_of_le hx h.1)).trans (h.2 x hx)⟩
theorem Ext.lo {σ σ' : LH} (h : Ext σ σ') : Lo σ σ' := ⟨h.nx, fun b hb => h.eq b hb id⟩
/-- a change above an older heap -/
theorem Lo.mod {S : Nat → Prop} {a b c : LH} (h : Lo a b) (k : Mod S b c) (hs : ∀ x, S x → a.next ≤ x) : Lo a c :=
  ⟨Nat.le_trans h.1 k.nx, fun x hx => (k.eq x (Nat.lt_of_lt_of_le hx h.1) fun hh => by have := hs x hh; omega).trans (h.2 x hx)⟩

theorem MD.lt {σ : LH} (h : MD σ) {b : Nat} {blk : Blk} (hb : σ.mem b = some blk) : b < σ.next := by
  rcases Nat.lt_or_ge b σ.next with h' | h'
  · exact h'
  · rw [h b h'] at hb; cases hb

/-! ## values of a type -/
class Rep (α : Type) where
  sz : Nat
  agg : Bool
  rd : LH → List Value → α → Prop
  own : LH → List Value → α → List Nat → Prop
  pos : 0 < sz
  sc : agg = false → sz = 1
  len : ∀ {σ c x}, rd σ c x → c.length = sz
  ones : ∀ {σ c x}, rd σ c x → Ones c
  keep : ∀ {σ σ' c x}, rd σ c x → MD σ → (∀ b, b < σ.next → σ'.mem b = σ.mem b) → rd σ' c x
  own_rd : ∀ {σ c x F}, own σ c x F → rd σ c x
  own_lt : ∀ {σ c x F}, own σ c x F → MD σ → ∀ b ∈ F, b < σ.next
  own_keep : ∀ {σ σ' c x F}, own σ c x F → (∀ b ∈ F, σ'.mem b = σ.mem b) → own σ' c x F
  dflt : α
  zero : List Value
  dflt_own : ∀ σ, own σ zero dflt []

abbrev rd {α : Type} [Rep α] : LH → List Value → α → Prop := Rep.rd
abbrev own {α : Type} [Rep α] : LH → List Value → α → List Nat → Prop := Rep.own

/-- a value as a temporary holds it -/
def VOf (ag : Bool) (c : List Value) : Value := cond ag (.agg c.toArray) (match c with | [v] => v | _ => .nilFunc)
/-- a value of a type -/
def RV1 {α : Type} [Rep α] (σ : LH) (v : Value) (x : α) : Prop := ∃ c, v = VOf (Rep.agg α) c ∧ rd σ c x

def inI (n : Int) : Prop := -9223372036854775808 ≤ n ∧ n ≤ 9223372036854775807

/-- types whose cells lead nowhere -/
class Enc (α : Type) where
  enc : α → List Value
  good : α → Prop
  esz : Nat
  eagg : Bool
  epos : 0 < esz
  esc : eagg = false → esz = 1
  elen : ∀ x, (enc x).length = esz
  eones : ∀ x, Ones (enc x)
  edflt : α
  egood : good edflt

instance Enc.rep {α : Type} [Enc α] : Rep α where
  sz := Enc.esz α
  agg := Enc.eagg α
  rd _ c x := c = Enc.enc x ∧ Enc.good x
  own _ c x F := (c = Enc.enc x ∧ Enc.good x) ∧ F = []
  pos := Enc.epos
  sc := Enc.esc
  len h := by rw [h.1]; exact Enc.elen _
  ones h := by rw [h.1]; exact Enc.eones _
  keep h _ _ := h
  own_rd h := h.1
  own_lt h _ b hb := by rw [h.2] at hb; cases hb
  own_keep h _ := h
  dflt := Enc.edflt
  zero := Enc.enc (α := α) Enc.edflt
  dflt_own _ := ⟨⟨rfl, Enc.egood⟩, rfl⟩

instance : Enc Int where
  enc n := [.int .i64 n]
  good n := inI n
  esz := 1
  eagg := false
  epos := by decide
  esc _ := rfl
  elen _ := rfl
  eones _ := fun v hv => by simp at hv; subst hv; rfl
  edflt := 0
  egood := by constructor <;> decide
instance : Enc Bool where
  enc n := [.bool n]
  good _ := True
  esz := 1
  eagg := false
  epos := by decide
  esc _ := rfl
  elen _ := rfl
  eones _ := fun v hv => by simp at hv; subst hv; rfl
  edflt := false
  egood := trivial
instance : Enc ByteArray where
  enc s := [.string s]
  good s := s.size ≤ 9223372036854775807
  esz := 1
  eagg := false
  epos := by decide
  esc _ := rfl
  elen _ := rfl
  eones _ := fun v hv => by simp at hv; subst hv; rfl
  edflt := ⟨#[]⟩
  egood := by decide

/-! ## slices -/
/-- the cells of number i -/
def cellsAt (l : List Value) (z i : Nat) : List Value := (l.drop (i * z)).take z

/-- a slice without elements -/
def emp (v : Value) : Prop := v = .slice none 0 0 ∨ ∃ a c, v = .slice (some a) 0 c

def RdS {α : Type} [Rep α] (σ : LH) (v : Value) (xs : List α) : Prop :=
  (xs = [] ∧ emp v) ∨ ∃ b o c blk, v = .slice (some ⟨b, o, some (Rep.sz α)⟩) xs.length c ∧ xs.length ≤ c / 2 ∧ σ.mem b = some blk ∧ o + xs.length * Rep.sz α ≤ blk.cells.length ∧
    ∀ (i : Nat) x, xs[i]? = some x → rd σ (cellsAt (blk.cells.drop o) (Rep.sz α) i) x

/-- all of the call's own: the slice's block, and what its elements own, all unlike -/
def OwS {α : Type} [Rep α] (σ : LH) (v : Value) (xs : List α) (F : List Nat) : Prop :=
  (xs = [] ∧ emp v ∧ F = []) ∨ ∃ b o c blk, ∃ Fs : Nat → List Nat, v = .slice (some ⟨b, o, some (Rep.sz α)⟩) xs.length c ∧ xs.length ≤ c / 2 ∧ σ.mem b = some blk ∧ blk.wr = true ∧ o + xs.length * Rep.sz α ≤ blk.cells.length ∧
    F = b :: (List.range xs.length).flatMap Fs ∧ ∀ (i : Nat) x, xs[i]? = some x → own σ (cellsAt (blk.cells.drop o) (Rep.sz α) i) x (Fs i)

instance {α : Type} [Rep α] : Rep (List α) where
  sz := 1
  agg := false
  rd σ c xs := ∃ v, c = [v] ∧ RdS σ v xs ∧ (xs.length : Int) ≤ 9223372036854775807
  own σ c xs F := ∃ v, c = [v] ∧ OwS σ v xs F ∧ (xs.length : Int) ≤ 9223372036854775807
  pos := by decide
  sc _ := rfl
  len := by rintro σ c x ⟨v, rfl, _⟩; rfl
  ones := by
    rintro σ c x ⟨v, rfl, h, _⟩ u hu
    simp at hu; subst hu
    rcases h with ⟨_, rfl | ⟨a, c, rfl⟩⟩ | ⟨b, o, c, blk, rfl, _⟩ <;> rfl
  keep := by
    rintro σ σ' c x ⟨v, rfl, h, hl⟩ hm hs
    refine ⟨v, rfl, ?_, hl⟩
    rcases h with h | ⟨b, o, c, blk, h1, h2, h3, h4, h5⟩
    · exact .inl h
    · exact .inr ⟨b, o, c, blk, h1, h2, by rw [hs b (hm.lt h3)]; exact h3, h4, fun i y hy => Rep.keep (h5 i y hy) hm hs⟩
  own_rd := by
    rintro σ c x F ⟨v, rfl, h, hl⟩
    refine ⟨v, rfl, ?_, hl⟩
    rcases h with ⟨h1, h2, _⟩ | ⟨b, o, c, blk, Fs, h1, h2, h3, _, h4, _, h5⟩
    · exact .inl ⟨h1, h2⟩
    · exact .inr ⟨b, o, c, blk, h1, h2, h3, h4, fun i y hy => Rep.own_rd (h5 i y hy)⟩
  own_lt := by
    rintro σ c x F ⟨v, rfl, h, hl⟩ hm k hk
    rcases h with ⟨_, _, rfl⟩ | ⟨b, o, c, blk, Fs, h1, h2, h3, h4, h5, rfl, h6⟩
    · cases hk
    · cases hk with
      | head => exact hm.lt h3
      | tail _ hk =>
        obtain ⟨i, hi, hki⟩ := List.mem_flatMap.1 hk
        have hi := List.mem_range.1 hi
        exact Rep.own_lt (h6 i _ (List.getElem?_eq_getElem hi)) hm k hki
  own_keep := by
    rintro σ σ' c x F ⟨v, rfl, h, hl⟩ hs
    refine ⟨v, rfl, ?_, hl⟩
    rcases h with h | ⟨b, o, c, blk, Fs, h1, h2, h3, h4, h5, rfl, h6⟩
    · exact .inl h
    · refine .inr ⟨b, o, c, blk, Fs, h1, h2, by rw [hs b (.head _)]; exact h3, h4, h5, rfl, fun i y hy => Rep.own_keep (h6 i y hy) fun k hk => hs k (.tail _ (List.mem_flatMap.2 ⟨i, ?_, hk⟩))⟩
      exact List.mem_range.2 (List.getElem?_eq_some_iff.1 hy).1
  dflt := []
  zero := [.slice none 0 0]
  dflt_own _ := ⟨_, rfl, .inl ⟨rfl, .inl rfl, rfl⟩, by simp⟩
end Go.Lg
