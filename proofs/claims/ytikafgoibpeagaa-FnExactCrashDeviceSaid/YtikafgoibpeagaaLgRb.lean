/- Typed values in a logical heap: reading and writing an element. -/
import Derived.Test.YtikafgoibpeagaaLgRa
namespace Go.Lg
set_option linter.unusedVariables false
set_option linter.unusedSimpArgs false
set_option linter.unusedSectionVars false

theorem cellsAt_get (l : List Value) (z i k : Nat) : (cellsAt l z i)[k]? = if k < z then l[i * z + k]? else none := by
  unfold cellsAt
  rw [List.getElem?_take]
  split
  · rw [List.getElem?_drop]
  · rfl

theorem cellsAt_len {l : List Value} {z i n : Nat} (h : n * z ≤ l.length) (hi : i < n) : (cellsAt l z i).length = z := by
  unfold cellsAt
  have : (i + 1) * z ≤ n * z := Nat.mul_le_mul_right z hi
  rw [Nat.succ_mul] at this
  rw [List.length_take, List.length_drop]; omega

theorem cellsAt_over {l vs : List Value} {o z i off j n : Nat} (hl : o + n * z ≤ l.length) (hi : i < n) (hv : off + vs.length ≤ z) :
    cellsAt ((over l (o + i * z + off) vs).drop o) z j = if j = i then over (cellsAt (l.drop o) z i) off vs else cellsAt (l.drop o) z j := by
  have hin : (i + 1) * z ≤ n * z := Nat.mul_le_mul_right z hi
  rw [Nat.succ_mul] at hin
  have hfit : o + i * z + off + vs.length ≤ l.length := by omega
  apply List.ext_getElem?
  intro k
  by_cases hji : j = i
  · subst hji
    rw [if_pos rfl, cellsAt_get, over_get (by rw [cellsAt_len (n := n) (by rw [List.length_drop]; omega) hi]; exact hv), cellsAt_get, List.getElem?_drop, over_get hfit, List.getElem?_drop]
    by_cases hk : k < z
    · rw [if_pos hk]
      by_cases h1 : off ≤ k ∧ k < off + vs.length
      · rw [if_pos h1, if_pos (by omega)]; congr 1; omega
      · rw [if_neg h1, if_neg (by omega), if_pos hk]
    · rw [if_neg hk, if_neg (by omega), if_neg hk]
  · rw [if_neg hji, cellsAt_get, cellsAt_get, List.getElem?_drop, List.getElem?_drop, over_get hfit]
    by_cases hk : k < z
    · rw [if_pos hk, if_pos hk, if_neg]
      rintro ⟨h1, h2⟩
      rcases Nat.lt_or_gt_of_ne hji with h | h
      · have : (j + 1) * z ≤ i * z := Nat.mul_le_mul_right z h
        rw [Nat.succ_mul] at this; omega
      · have : (i + 1) * z ≤ j * z := Nat.mul_le_mul_right z h
        rw [Nat.succ_mul] at this; omega
    · rw [if_neg hk, if_neg hk]

/-- these cells lie there -/
def At (σ : LH) (p : Value) (c : List Value) : Prop := ∃ b o blk, p = .pointer (some ⟨b, o, none⟩) ∧ σ.mem b = some blk ∧ o + c.length ≤ blk.cells.length ∧ (blk.cells.drop o).take c.length = c

theorem At.ld {σ : LH} {p : Value} {c : List Value} (h : At σ p c) : pLd σ c.length true p = some (.agg c.toArray) := by
  obtain ⟨b, o, blk, rfl, h1, h2, h3⟩ := h
  simp only [pLd, h1, if_true, if_pos h2, h3]
theorem At.ld1 {σ : LH} {p v : Value} (h : At σ p [v]) : pLd σ 1 false p = some v := by
  obtain ⟨b, o, blk, rfl, h1, h2, h3⟩ := h
  have := congrArg (·[0]?) h3
  simp only [List.length_singleton, List.getElem?_take, Nat.lt_one_iff, if_true, List.getElem?_drop, Nat.add_zero, List.getElem?_cons_zero] at this
  simp only [pLd, h1, Bool.false_eq_true, if_false, this]
theorem At.fa {σ : LH} {p : Value} {c1 c2 c3 : List Value} (h : At σ p (c1 ++ (c2 ++ c3))) : ∃ p', pFA p c1.length = some p' ∧ At σ p' c2 := by
  obtain ⟨b, o, blk, rfl, h1, h2, h3⟩ := h
  simp only [List.length_append] at h2 h3
  refine ⟨_, rfl, b, o + c1.length, blk, by rw [Addr.add_none], h1, by omega, ?_⟩
  apply List.ext_getElem?
  intro k
  have := congrArg (·[c1.length + k]?) h3
  simp only [List.getElem?_take, List.getElem?_drop] at this
  rw [List.getElem?_take, List.getElem?_drop]
  by_cases hk : k < c2.length
  · rw [if_pos (by omega)] at this
    rw [if_pos hk, show o + c1.length + k = o + (c1.length + k) by omega, this, List.getElem?_append_right (by omega), Nat.add_sub_cancel_left, List.getElem?_append_left hk]
  · rw [if_neg hk, List.getElem?_eq_none (by omega)]

theorem MD.set {σ : LH} (h : MD σ) {b : Nat} {blk : Blk} (hb : σ.mem b = some blk) (x : Option Blk) : MD (σ.set b x) := by
  intro k hk
  simp only [LH.set] at hk ⊢
  rw [if_neg (fun he => by rw [he] at hk; rw [h b hk] at hb; cases hb)]
  exact h k hk
theorem Mod.setIn {S : Nat → Prop} {σ : LH} {b : Nat} {blk : Blk} (hb : σ.mem b = some blk) (hs : S b) (x : Option Blk) : Mod S σ (σ.set b x) :=
  ⟨Nat.le_refl _, fun k hk hn => by simp only [LH.set]; rw [if_neg (fun he => hn (by rw [he]; exact hs))], fun hm => hm.set hb x⟩

section
variable {α : Type} [Rep α] {σ : LH} {v : Value} {xs : List α}

theorem RdS.plen (h : RdS σ v xs) : pLen v = some (.int .i64 (xs.length : Nat)) := by
  rcases h with ⟨rfl, rfl | ⟨a, c, rfl⟩⟩ | ⟨b, o, c, blk, rfl, _⟩ <;> rfl

theorem RdS.at (h : RdS σ v xs) {i : Nat} {x : α} (hx : xs[i]? = some x) : ∃ p c, pIA (Rep.sz α) v (.int .i64 (i : Nat)) = some p ∧ At σ p c ∧ rd σ c x := by
  have hi : i < xs.length := (List.getElem?_eq_some_iff.1 hx).1
  rcases h with ⟨rfl, _⟩ | ⟨b, o, c, blk, rfl, _, h1, h2, h3⟩
  · cases hx
  · have hin : (i + 1) * Rep.sz α ≤ xs.length * Rep.sz α := Nat.mul_le_mul_right _ hi
    rw [Nat.succ_mul] at hin
    have hr := h3 i x hx
    have hl := Rep.len hr
    refine ⟨.pointer (some ⟨b, o + i * Rep.sz α, none⟩), _, ?_, ⟨b, o + i * Rep.sz α, blk, rfl, h1, by rw [hl]; omega, ?_⟩, hr⟩
    · have h0 : (0 : Int) ≤ (i : Int) ∧ (i : Int) < (xs.length : Int) := by omega
      simp only [pIA, if_pos h0, Int.toNat_natCast]
    · rw [hl]; unfold cellsAt; rw [List.drop_drop]

theorem OwS.rd {F : List Nat} (h : OwS σ v xs F) : RdS σ v xs := by
  rcases h with ⟨h1, h2, _⟩ | ⟨b, o, c, blk, Fs, h1, h2, h3, _, h4, _, h5⟩
  · exact .inl ⟨h1, h2⟩
  · exact .inr ⟨b, o, c, blk, h1, h2, h3, h4, fun i y hy => Rep.own_rd (h5 i y hy)⟩

/-- a write into element number i, at a place in it -/
theorem OwS.st {F : List Nat} (h : OwS σ v xs F) (hn : F.Nodup) {i : Nat} {x : α} (hx : xs[i]? = some x) : ∃ p c Fi, pIA (Rep.sz α) v (.int .i64 (i : Nat)) = some p ∧ At σ p c ∧ own σ c x Fi ∧
    ∀ (off : Nat) (u : Value) (x' : α), off + u.cells.size ≤ Rep.sz α → (∀ σ', Mod (· ∈ F) σ σ' → (∀ b ∈ Fi, σ'.mem b = σ.mem b) → own σ' (over c off u.cells.toList) x' Fi) →
      ∃ p' σ', pFA p off = some p' ∧ pSt σ u.cells.size p' u = some σ' ∧ OwS σ' v (xs.set i x') F ∧ Mod (· ∈ F) σ σ' ∧ σ'.next = σ.next := by
  have hi : i < xs.length := (List.getElem?_eq_some_iff.1 hx).1
  rcases h with ⟨rfl, _⟩ | ⟨b, o, c, blk, Fs, rfl, h0, h1, hw, h2, rfl, h3⟩
  · cases hx
  · have hin : (i + 1) * Rep.sz α ≤ xs.length * Rep.sz α := Nat.mul_le_mul_right _ hi
    rw [Nat.succ_mul] at hin
    have hr := h3 i x hx
    have hl := Rep.len (Rep.own_rd hr)
    have hbn : ∀ k ∈ (List.range xs.length).flatMap Fs, k ≠ b := fun k hk he => by subst he; exact (List.nodup_cons.1 hn).1 hk
    refine ⟨.pointer (some ⟨b, o + i * Rep.sz α, none⟩), _, Fs i, ?_, ⟨b, o + i * Rep.sz α, blk, rfl, h1, by rw [hl]; omega, ?_⟩, hr, ?_⟩
    · have h0 : (0 : Int) ≤ (i : Int) ∧ (i : Int) < (xs.length : Int) := by omega
      simp only [pIA, if_pos h0, Int.toNat_natCast]
    · rw [hl]; unfold cellsAt; rw [List.drop_drop]
    · intro off u x' hoff hown
      have hfit : o + i * Rep.sz α + off + u.cells.toList.length ≤ blk.cells.length := by simp; omega
      refine ⟨.pointer (some ⟨b, o + i * Rep.sz α + off, none⟩), σ.set b (some { blk with cells := over blk.cells (o + i * Rep.sz α + off) u.cells.toList }), by simp only [pFA, Addr.add_none], ?_, ?_, ?_, rfl⟩
      · simp only [pSt, if_true, LH.write, h1]
        rw [if_pos ⟨hw, hfit⟩]
      · have hmod : Mod (· ∈ b :: (List.range xs.length).flatMap Fs) σ (σ.set b (some { blk with cells := over blk.cells (o + i * Rep.sz α + off) u.cells.toList })) := Mod.setIn h1 (.head _) _
        refine .inr ⟨b, o, c, { blk with cells := over blk.cells (o + i * Rep.sz α + off) u.cells.toList }, Fs, by rw [List.length_set], by rw [List.length_set]; exact h0, by simp [LH.set], hw, by rw [List.length_set]; simp only; rw [over_length hfit]; exact h2, by rw [List.length_set], fun j y hy => ?_⟩
        simp only
        rw [cellsAt_over h2 hi (by simpa using hoff)]
        by_cases hji : j = i
        · subst hji
          rw [if_pos rfl]
          rw [List.getElem?_set_self hi] at hy; cases hy
          exact hown _ hmod fun k hk => by
            have : k ≠ b := hbn k (List.mem_flatMap.2 ⟨j, List.mem_range.2 hi, hk⟩)
            simp only [LH.set]; rw [if_neg this]
        · rw [if_neg hji]
          rw [List.getElem?_set_ne (Ne.symm hji)] at hy
          have hj : j < xs.length := (List.getElem?_eq_some_iff.1 hy).1
          exact Rep.own_keep (h3 j y hy) fun k hk => by
            have : k ≠ b := hbn k (List.mem_flatMap.2 ⟨j, List.mem_range.2 hj, hk⟩)
            simp only [LH.set]; rw [if_neg this]
      · exact Mod.setIn h1 (.head _) _

theorem RdS.keep {σ' : LH} (h : RdS σ v xs) (hm : MD σ) (hs : Lo σ σ') : RdS σ' v xs := by
  rcases h with h | ⟨b, o, c, blk, h1, h2, h3, h4, h5⟩
  · exact .inl h
  · exact .inr ⟨b, o, c, blk, h1, h2, by rw [hs.2 b (hm.lt h3)]; exact h3, h4, fun i y hy => Rep.keep (h5 i y hy) hm hs.2⟩
theorem RdS.ext {σ' : LH} (h : RdS σ v xs) (hm : MD σ) (he : Ext σ σ') : RdS σ' v xs := h.keep hm he.lo
theorem OwS.lt {F : List Nat} (h : OwS σ v xs F) (hm : MD σ) : ∀ b ∈ F, b < σ.next := by
  rcases h with ⟨_, _, rfl⟩ | ⟨b, o, c, blk, Fs, h1, h2, h3, h4, h5, rfl, h6⟩
  · intro k hk; cases hk
  · intro k hk
    cases hk with
    | head => exact hm.lt h3
    | tail _ hk =>
      obtain ⟨i, hi, hki⟩ := List.mem_flatMap.1 hk
      exact Rep.own_lt (h6 i _ (List.getElem?_eq_getElem (List.mem_range.1 hi))) hm k hki
theorem OwS.keep {σ' : LH} {F : List Nat} (h : OwS σ v xs F) (hs : ∀ b ∈ F, σ'.mem b = σ.mem b) : OwS σ' v xs F := by
  rcases h with h | ⟨b, o, c, blk, Fs, h1, h2, h3, h4, h5, rfl, h6⟩
  · exact .inl h
  · refine .inr ⟨b, o, c, blk, Fs, h1, h2, by rw [hs b (.head _)]; exact h3, h4, h5, rfl, fun i y hy => Rep.own_keep (h6 i y hy) fun k hk => hs k (.tail _ (List.mem_flatMap.2 ⟨i, ?_, hk⟩))⟩
    exact List.mem_range.2 (List.getElem?_eq_some_iff.1 hy).1
theorem OwS.ext {σ' : LH} {F : List Nat} (h : OwS σ v xs F) (hm : MD σ) (he : Ext σ σ') : OwS σ' v xs F := h.keep fun b hb => he.eq b (h.lt hm b hb) id
end
end Go.Lg
