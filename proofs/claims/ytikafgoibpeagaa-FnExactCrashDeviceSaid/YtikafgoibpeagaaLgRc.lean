/- Typed values in a logical heap: appending. -/
import Derived.Test.YtikafgoibpeagaaLgTs
namespace Go.Lg
set_option linter.unusedVariables false
set_option linter.unusedSimpArgs false
set_option linter.unusedSectionVars false

theorem cellsAt_take {l : List Value} {z m i : Nat} (hi : i < m) : cellsAt (l.take (m * z)) z i = cellsAt l z i := by
  apply List.ext_getElem?
  intro k
  rw [cellsAt_get, cellsAt_get]
  split
  · rename_i hk
    have : (i + 1) * z ≤ m * z := Nat.mul_le_mul_right z hi
    rw [Nat.succ_mul] at this
    rw [List.getElem?_take, if_pos (by omega)]
  · rfl
theorem cellsAt_left {l r : List Value} {z m i : Nat} (hl : l.length = m * z) (hi : i < m) : cellsAt (l ++ r) z i = cellsAt l z i := by
  apply List.ext_getElem?
  intro k
  rw [cellsAt_get, cellsAt_get]
  split
  · rename_i hk
    have : (i + 1) * z ≤ m * z := Nat.mul_le_mul_right z hi
    rw [Nat.succ_mul] at this
    rw [List.getElem?_append_left (by omega)]
  · rfl
theorem cellsAt_right {l r : List Value} {z m i : Nat} (hl : l.length = m * z) (hi : m ≤ i) : cellsAt (l ++ r) z i = cellsAt r z (i - m) := by
  apply List.ext_getElem?
  intro k
  rw [cellsAt_get, cellsAt_get]
  split
  · rename_i hk
    have h1 : m * z ≤ i * z := Nat.mul_le_mul_right z hi
    have h2 : i * z = m * z + (i - m) * z := by rw [← Nat.add_mul]; congr 1; omega
    rw [List.getElem?_append_right (by omega), hl]
    congr 1; omega
  · rfl

section
variable {α : Type} [Rep α] {σ : LH}

theorem RdS.lenV {v : Value} {xs : List α} (h : RdS σ v xs) : lenV v = some xs.length := by
  rcases h with ⟨rfl, rfl | ⟨a, c, rfl⟩⟩ | ⟨b, o, c, blk, rfl, _⟩ <;> rfl

/-- the first elements' cells -/
theorem RdS.cells {v : Value} {xs : List α} (h : RdS σ v xs) {z m : Nat} (hz : Rep.sz α = z) (hm : m ≤ xs.length) : ∃ cs, cellsOf σ z m v = some cs ∧ cs.length = m * z ∧
    ∀ (i : Nat) x, i < m → xs[i]? = some x → rd σ (cellsAt cs z i) x := by
  subst hz
  rcases Nat.eq_zero_or_pos m with h0 | h0
  · subst h0
    refine ⟨[], ?_, by simp, fun i x hi _ => by omega⟩
    rcases h with ⟨rfl, rfl | ⟨a, c, rfl⟩⟩ | ⟨b, o, c, blk, rfl, _⟩ <;> simp [cellsOf]
  · rcases h with ⟨rfl, _⟩ | ⟨b, o, c, blk, rfl, _, h1, h2, h3⟩
    · simp at hm; omega
    · have hle : m * Rep.sz α ≤ xs.length * Rep.sz α := Nat.mul_le_mul_right _ hm
      refine ⟨(blk.cells.drop o).take (m * Rep.sz α), ?_, ?_, fun i x hi hx => ?_⟩
      · simp only [cellsOf, h1]
        rw [if_neg (by omega), if_pos (by omega)]
      · rw [List.length_take, List.length_drop]; omega
      · rw [cellsAt_take hi]; exact h3 i x hx

/-- no room is left, and that is known just -/
def FullE (v : Value) : Prop := v = .slice none 0 0 ∨ ∃ a n, v = .slice (some a) n (capE n)

/-- rows of one list, and then of another -/
theorem rows_append {z : Nat} {xs ys : List α} {olds news : List Value} (h1 : olds.length = xs.length * z) (hx : ∀ (i : Nat) x, i < xs.length → xs[i]? = some x → rd σ (cellsAt olds z i) x)
    (hy : ∀ (i : Nat) x, i < ys.length → ys[i]? = some x → rd σ (cellsAt news z i) x) : ∀ (i : Nat) x, (xs ++ ys)[i]? = some x → rd σ (cellsAt (olds ++ news) z i) x := by
  intro i x hi
  rcases Nat.lt_or_ge i xs.length with h | h
  · rw [List.getElem?_append_left h] at hi
    rw [cellsAt_left h1 h]; exact hx i x h hi
  · rw [List.getElem?_append_right h] at hi
    rw [cellsAt_right h1 h]; exact hy _ x (List.getElem?_eq_some_iff.1 hi).1 hi

/-- an append to a slice that has no room left -/
theorem pAp_full {s x : Value} {xs ys : List α} {z bytes : Nat} (hz : Rep.sz α = z) (hs : RdS σ s xs) (hf : FullE s) (hx : RdS σ x ys) (hb : 0 < bytes) (hl : (xs.length + ys.length) * bytes ≤ 140737488355328) (hn : xs.length + ys.length ≤ 9223372036854775807) :
    (ys = [] ∧ pAp σ z bytes s x = some (s, σ)) ∨ (ys ≠ [] ∧ ∃ cs, pAp σ z bytes s x = some (.slice (some ⟨σ.next, 0, some z⟩) (xs.length + ys.length) (capL (xs.length + ys.length)), σ.push { cells := cs }) ∧ cs.length = (xs.length + ys.length) * z ∧
      ∀ (i : Nat) u, (xs ++ ys)[i]? = some u → rd σ (cellsAt cs z i) u) := by
  obtain ⟨news, n1, n2, n3⟩ := hx.cells hz (Nat.le_refl ys.length)
  obtain ⟨olds, o1, o2, o3⟩ := hs.cells hz (Nat.le_refl xs.length)
  have hlenx := hx.lenV
  have hplen := hs.plen
  unfold pAp
  rw [hlenx]
  simp only [Option.bind_some, n1]
  rcases hf with rfl | ⟨a, n, rfl⟩
  · have h0 : xs.length = 0 := by
      simp only [pLen, Option.some.injEq, Value.int.injEq, true_and] at hplen; omega
    have hxs : xs = [] := List.eq_nil_of_length_eq_zero h0
    subst hxs
    by_cases hy : ys = []
    · subst hy; left; exact ⟨rfl, by simp⟩
    · right
      have hy0 : ys.length ≠ 0 := fun h => hy (List.eq_nil_of_length_eq_zero h)
      refine ⟨hy, news, ?_, by simpa using n2, ?_⟩
      · simp only [List.length_nil, Nat.zero_add] at hl hn ⊢
        rw [if_neg hy0, if_pos ⟨hl, hb, hn⟩]
      · intro i u hu
        simp only [List.nil_append] at hu
        exact n3 i u (List.getElem?_eq_some_iff.1 hu).1 hu
  · have h0 : n = xs.length := by
      simp only [pLen, Option.some.injEq, Value.int.injEq, true_and] at hplen; omega
    subst h0
    have hc : capE xs.length / 2 = xs.length := by unfold capE; omega
    have hc2 : capE xs.length % 2 = 1 := by unfold capE; omega
    by_cases hy : ys = []
    · subst hy; left
      refine ⟨rfl, ?_⟩
      simp only [List.length_nil, Nat.add_zero, hc, Nat.le_refl, if_true]
    · right
      have hy0 : ys.length ≠ 0 := fun h => hy (List.eq_nil_of_length_eq_zero h)
      refine ⟨hy, olds ++ news, ?_, by rw [List.length_append, o2, n2, Nat.add_mul], rows_append o2 o3 n3⟩
      simp only [hc]
      rw [if_neg (by omega), o1]
      simp only [Option.bind_some]
      rw [if_pos ⟨hl, hb, hn⟩, if_pos hc2]
end

theorem OwS.fresh {α : Type} [Enc α] {σ : LH} {xs : List α} {cs : List Value} {z : Nat} (hz : Rep.sz α = z) (hl : cs.length = xs.length * z) (h : ∀ (i : Nat) u, xs[i]? = some u → Rep.rd σ (cellsAt cs z i) u) :
    OwS (σ.push { cells := cs }) (.slice (some ⟨σ.next, 0, some z⟩) xs.length (capL xs.length)) xs [σ.next] := by
  subst hz
  refine .inr ⟨σ.next, 0, capL xs.length, { cells := cs }, fun _ => [], rfl, by simp [capL], by simp [LH.push], rfl, by simp [hl], by simp, fun i u hu => ?_⟩
  simp only [List.drop_zero]
  exact ⟨h i u hu, rfl⟩

/-- a copy by append, of values that lead nowhere -/
theorem pAp_copy {α : Type} [Enc α] {σ : LH} {s x : Value} {ys : List α} {z bytes : Nat} (hz : Rep.sz α = z) (he : emp s) (hf : FullE s) (hx : RdS σ x ys) (hb : 0 < bytes) (hl : ys.length * bytes ≤ 140737488355328) (hn : ys.length ≤ 9223372036854775807) :
    ∃ v σ' F, pAp σ z bytes s x = some (v, σ') ∧ OwS σ' v ys F ∧ F.Nodup ∧ (∀ b ∈ F, σ.next ≤ b) ∧ Ext σ σ' := by
  rcases pAp_full (xs := ([] : List α)) hz (.inl ⟨rfl, he⟩) hf hx hb (by simpa using hl) (by simpa using hn) with ⟨rfl, h⟩ | ⟨hne, cs, h1, h2, h3⟩
  · exact ⟨s, σ, [], h, .inl ⟨rfl, he, rfl⟩, List.nodup_nil, fun b hb => by (cases hb), Mod.refl _ _⟩
  · simp only [List.length_nil, Nat.zero_add, List.nil_append] at h1 h2 h3
    exact ⟨_, _, [σ.next], h1, OwS.fresh hz h2 h3, by simp, fun b hb => by simp at hb; omega, Ext.push _ _⟩

/-- no room is known of -/
def FullL (v : Value) : Prop := v = .slice none 0 0 ∨ ∃ a n, 0 < n ∧ v = .slice (some a) n (capL n)

/-- an append to a slice of the call's own, that grew by appends -/
theorem pAp_grow {α : Type} [Enc α] {σ : LH} {s x : Value} {xs ys : List α} {F : List Nat} {z bytes : Nat} (hz : Rep.sz α = z) (ho : OwS σ s xs F) (hf : FullL s) (hx : RdS σ x ys) (hy : ys ≠ []) (hm : MD σ) (hb : 0 < bytes)
    (hl : (xs.length + ys.length) * bytes ≤ 140737488355328) (hn : xs.length + ys.length ≤ 9223372036854775807) :
    ∃ v σ', pAp σ z bytes s x = some (v, σ') ∧ OwS σ' v (xs ++ ys) [σ.next] ∧ FullL v ∧ Mod (· ∈ F) σ σ' ∧ σ'.next = σ.next + 1 := by
  have hy0 : ys.length ≠ 0 := fun h => hy (List.eq_nil_of_length_eq_zero h)
  rcases hf with rfl | ⟨a, n, hn0, rfl⟩
  · rcases pAp_full hz ho.rd (.inl rfl) hx hb hl hn with ⟨h, _⟩ | ⟨_, cs, h1, h2, h3⟩
    · exact absurd h hy
    · refine ⟨_, _, h1, ?_, .inr ⟨_, _, by omega, rfl⟩, (Ext.push _ _).mod, rfl⟩
      have := OwS.fresh (xs := xs ++ ys) hz (by rw [List.length_append]; exact h2) h3
      rw [List.length_append] at this; exact this
  · have hplen := ho.rd.plen
    have h0 : n = xs.length := by
      simp only [pLen, Option.some.injEq, Value.int.injEq, true_and] at hplen; omega
    subst h0
    obtain ⟨news, n1, n2, n3⟩ := hx.cells hz (Nat.le_refl ys.length)
    obtain ⟨olds, o1, o2, o3⟩ := ho.rd.cells hz (Nat.le_refl xs.length)
    have hc : capL xs.length / 2 = xs.length := by unfold capL; omega
    have hc2 : ¬ capL xs.length % 2 = 1 := by unfold capL; omega
    have hlenx := hx.lenV
    have hx0 : xs ≠ [] := fun h => by subst h; simp at hn0
    rcases ho with ⟨h, _⟩ | ⟨b, o, c, blk, Fs, e1, e2, e3, e4, e5, rfl, e6⟩
    · exact absurd h hx0
    · cases e1
      have hp : pAp σ z bytes (.slice (some ⟨b, o, some (Rep.sz α)⟩) xs.length (capL xs.length)) x = some (.slice (some ⟨σ.next, 0, some z⟩) (xs.length + ys.length) (capL (xs.length + ys.length)), (σ.set b none).push { cells := olds ++ news }) := by
        unfold pAp
        rw [hlenx]
        simp only [Option.bind_some, n1, hc]
        rw [if_neg (by omega), o1]
        simp only [Option.bind_some]
        rw [if_pos ⟨hl, hb, hn⟩, if_neg hc2]
        simp only [e3, e4, hz, and_self, if_true]
      have hmod : Mod (· ∈ b :: (List.range xs.length).flatMap Fs) σ ((σ.set b none).push { cells := olds ++ news }) := (Mod.setIn e3 (.head _) none).trans ((Ext.push _ _).mod)
      refine ⟨_, _, hp, ?_, .inr ⟨_, _, by omega, rfl⟩, hmod, rfl⟩
      have := OwS.fresh (σ := σ.set b none) (xs := xs ++ ys) (cs := olds ++ news) hz (by rw [List.length_append, List.length_append, o2, n2, Nat.add_mul]) (rows_append o2 o3 n3)
      rw [List.length_append] at this; exact this
end Go.Lg
