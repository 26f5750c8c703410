/- A region that draws its order: orders. -/
import Derived.Test.YtikafgoibpeagaaLgW
namespace Go.Lg
set_option linter.unusedVariables false
set_option linter.unusedSimpArgs false
set_option linter.unusedSectionVars false

/-! ## the text's order -/
theorem ordD_perm (all : List Oper) : (ordD all).Perm all.zipIdx := by
  unfold ordD
  exact List.filter_append_perm (fun p => hoist p.1) all.zipIdx

section
variable {ops : Array Oper}

theorem ordD_of {p : Nat} {o : Oper} {i : Nat} (h : (ordD ops.toList)[p]? = some (o, i)) : ops[i]? = some o := by
  have h1 := (ordD_perm ops.toList).mem_iff.1 (List.mem_of_getElem? h)
  have h3 := List.mem_zipIdx_iff_getElem?.1 h1
  simpa using h3

theorem ordD_to {o : Oper} {i : Nat} (h : ops[i]? = some o) : ∃ p : Nat, (ordD ops.toList)[p]? = some (o, i) := by
  have h1 : (o, i) ∈ ops.toList.zipIdx := List.mem_zipIdx_iff_getElem?.2 (by simpa using h)
  exact List.getElem?_of_mem ((ordD_perm ops.toList).mem_iff.2 h1)

theorem ordD_inj {p q : Nat} {o o' : Oper} {i : Nat} (h : (ordD ops.toList)[p]? = some (o, i)) (h' : (ordD ops.toList)[q]? = some (o', i)) : p = q := by
  have hn : ((ordD ops.toList).map (·.2)).Nodup := by
    refine ((ordD_perm ops.toList).map (·.2)).nodup_iff.2 ?_
    have : ops.toList.zipIdx.map (·.2) = List.range' 0 ops.toList.length := by simp [List.zipIdx_map_snd]
    rw [this]; exact List.nodup_range'
  have e1 : ((ordD ops.toList).map (·.2))[p]? = some i := by simp [h]
  have e2 : ((ordD ops.toList).map (·.2))[q]? = some i := by simp [h']
  have hp := (List.getElem?_eq_some_iff.1 e1)
  exact (List.getElem?_inj hp.1 hn).1 (e1.trans e2.symm)

theorem ordD_len : (ordD ops.toList).length = ops.size := by
  have := (ordD_perm ops.toList).length_eq
  simpa using this

theorem binds_any (e : Edge) : Region.binds .any e = (match e.ground with | .textOnly _ => false | .gcOnly _ => false | _ => true) := by
  unfold Region.binds
  cases e.ground <;> rfl

theorem ordOk_spec : ∀ {L : List (Oper × Nat)} {done : List Nat}, ordOk L done = true → ∀ {p : Nat} {o : Oper} {i : Nat}, L[p]? = some (o, i) → ∀ e ∈ o.after, Region.binds .any e = true →
    e.on ∈ done ∨ ∃ q, q < p ∧ ∃ o', L[q]? = some (o', e.on)
  | [], _, _, p, o, i, h, _, _, _ => by simp at h
  | (o0, i0) :: r, done, hk, p, o, i, h, e, he, hb => by
    simp only [ordOk, Bool.and_eq_true, List.all_eq_true] at hk
    cases p with
    | zero =>
      simp only [List.getElem?_cons_zero, Option.some.injEq, Prod.mk.injEq] at h
      obtain ⟨rfl, rfl⟩ := h
      have := hk.1 e (by simpa using he)
      rw [binds_any] at hb
      left
      have fin : done.any (Nat.beq e.on) = true → e.on ∈ done := fun h => by
        rw [List.any_eq_true] at h
        obtain ⟨x, hx, hxe⟩ := h
        rw [Nat.eq_of_beq_eq_true hxe]; exact hx
      cases hg : e.ground <;> rw [hg] at this hb <;> first | exact fin this | exact absurd hb Bool.false_ne_true
    | succ p =>
      rcases ordOk_spec hk.2 (p := p) (by simpa using h) e he hb with h1 | ⟨q, h1, o', h2⟩
      · cases h1 with
        | head => exact .inr ⟨0, by omega, o0, rfl⟩
        | tail _ h1 => exact .inl h1
      · exact .inr ⟨q + 1, by omega, o', by simpa using h2⟩

/-! ## what comes ahead -/
def flatB (acc : List (List Nat)) (o : Oper) : List Nat := o.after.toList.flatMap fun e => match e.ground with
      | .textOnly _ => []
      | .gcOnly _ => []
      | _ => e.on :: acc.getD e.on []

theorem befs_cons (o : Oper) (r : List Oper) (acc : List (List Nat)) : befs (o :: r) acc = befs r (acc ++ [flatB acc o]) := rfl

theorem befs_pre : ∀ (l : List Oper) (acc : List (List Nat)), (befs l acc).length = acc.length + l.length ∧ ∀ k, k < acc.length → (befs l acc)[k]? = acc[k]?
  | [], acc => ⟨rfl, fun k _ => rfl⟩
  | o :: r, acc => by
    obtain ⟨h1, h2⟩ := befs_pre r (acc ++ [flatB acc o])
    rw [befs_cons]
    refine ⟨by rw [h1]; simp; omega, fun k hk => ?_⟩
    rw [h2 k (by simp; omega), List.getElem?_append_left hk]

theorem befs_at : ∀ (l : List Oper) (acc : List (List Nat)) (k : Nat) (o : Oper), l[k]? = some o → ∃ P : List (List Nat), P.length = acc.length + k ∧ (befs l acc)[acc.length + k]? = some (flatB P o) ∧ ∀ j, j < acc.length + k → P[j]? = (befs l acc)[j]?
  | [], acc, k, o, h => by simp at h
  | o0 :: r, acc, 0, o, h => by
    simp at h; subst h
    refine ⟨acc, rfl, ?_, fun j hj => ?_⟩
    · rw [befs_cons, (befs_pre r _).2 _ (by simp)]; simp
    · rw [(befs_pre (o0 :: r) acc).2 j (by omega)]
  | o0 :: r, acc, k + 1, o, h => by
    obtain ⟨P, h1, h2, h3⟩ := befs_at r (acc ++ [flatB acc o0]) k o (by simpa using h)
    rw [befs_cons]
    have e : (acc ++ [flatB acc o0]).length = acc.length + 1 := by simp
    rw [e] at h1 h2 h3
    exact ⟨P, by omega, by rw [show acc.length + (k + 1) = acc.length + 1 + k by omega]; exact h2, fun j hj => h3 j (by omega)⟩

theorem ahead_edge (hk : edgesOk ops.toList = true) {i j : Nat} (h : ahead (befs ops.toList []) j i = true) :
    ∃ o, ops[i]? = some o ∧ ∃ e ∈ o.after, Region.binds .any e = true ∧ e.on < i ∧ (j = e.on ∨ ahead (befs ops.toList []) j e.on = true) := by
  unfold ahead at h
  rw [List.any_eq_true] at h
  obtain ⟨x, hx, hxe⟩ := h
  have hx' := Nat.eq_of_beq_eq_true hxe; subst hx'
  cases ho : ops[i]? with
  | none =>
    have hl : ops.size ≤ i := by
      rcases Nat.lt_or_ge i ops.size with h | h
      · rw [Array.getElem?_eq_getElem h] at ho; cases ho
      · exact h
    have := (befs_pre ops.toList []).1
    rw [List.getD_eq_getElem?_getD, List.getElem?_eq_none (by rw [this]; simpa using hl)] at hx
    cases hx
  | some o =>
    obtain ⟨P, h1, h2, h3⟩ := befs_at ops.toList [] i o (by simpa using ho)
    simp only [List.length_nil, Nat.zero_add] at h1 h2 h3
    rw [List.getD_eq_getElem?_getD, h2] at hx
    simp only [Option.getD_some, flatB, List.mem_flatMap] at hx
    obtain ⟨e, he, hx⟩ := hx
    refine ⟨o, rfl, e, by simpa using he, ?_⟩
    have hk2 : ∀ (hb : Region.binds .any e = true), e.on < i := by
      intro hb
      unfold edgesOk at hk
      rw [List.all_eq_true] at hk
      have := hk (o, i) (List.mem_zipIdx_iff_getElem?.2 (by simpa using ho))
      simp only [List.all_eq_true] at this
      have := this e he
      rw [binds_any] at hb
      cases hg : e.ground <;> rw [hg] at this hb <;> first | exact Nat.blt_eq.mp this | exact absurd hb Bool.false_ne_true
    have fin : ∀ (hb : Region.binds .any e = true), j ∈ e.on :: P.getD e.on [] → Region.binds .any e = true ∧ e.on < i ∧ (j = e.on ∨ ahead (befs ops.toList []) j e.on = true) := by
      intro hb hm
      refine ⟨hb, hk2 hb, ?_⟩
      cases hm with
      | head => exact .inl rfl
      | tail _ hm =>
        right
        unfold ahead
        rw [List.any_eq_true]
        refine ⟨j, ?_, by simp⟩
        rw [List.getD_eq_getElem?_getD, ← h3 e.on (hk2 hb), ← List.getD_eq_getElem?_getD]
        exact hm
    have hbb := binds_any e
    cases hg : e.ground <;> rw [hg] at hx hbb <;> first | (simp at hx; done) | exact fin hbb hx

theorem ahead_closed (hk : edgesOk ops.toList = true) {D : Nat → Prop} (hD : ∀ i o, D i → ops[i]? = some o → ∀ e ∈ o.after, Region.binds .any e = true → D e.on) :
    ∀ (i j : Nat), ahead (befs ops.toList []) j i = true → (∀ o, ops[i]? = some o → ∀ e ∈ o.after, Region.binds .any e = true → D e.on) → D j := by
  intro i
  induction i using Nat.strongRecOn with
  | _ i ih =>
    intro j h hi
    obtain ⟨o, ho, e, he, hb, hlt, h | h⟩ := ahead_edge hk h
    · subst h; exact hi o ho e he hb
    · exact ih e.on hlt j h fun o' ho' => hD e.on o' (hi o ho e he hb) ho'

theorem ahead_pos (hk : edgesOk ops.toList = true) (hL : ordOk (ordD ops.toList) [] = true) : ∀ (i j : Nat), ahead (befs ops.toList []) j i = true → ∀ (p q : Nat) (o o' : Oper), (ordD ops.toList)[p]? = some (o, i) → (ordD ops.toList)[q]? = some (o', j) → q < p := by
  intro i
  induction i using Nat.strongRecOn with
  | _ i ih =>
    intro j h p q o o' hp hq
    obtain ⟨o1, ho1, e, he, hb, hlt, h⟩ := ahead_edge hk h
    have := ordD_of hp
    rw [ho1] at this; cases this
    rcases ordOk_spec hL hp e he hb with hh | ⟨r, hr, o2, h2⟩
    · cases hh
    · rcases h with h | h
      · subst h
        rw [ordD_inj hq h2]; exact hr
      · exact Nat.lt_trans (ih e.on hlt j h r q o2 o' h2 hq) hr

/-! ## one writer at most -/
theorem tmpOk_spec (hk : tmpOk ops.toList (befs ops.toList []) = true) {i j d : Nat} {o q : Oper} (hj : ops[j]? = some o) (hi : ops[i]? = some q) (hd : o.dst = some d) (hne : i ≠ j) :
    q.dst ≠ some d ∧ (d ∈ q.looksAt ops → ahead (befs ops.toList []) i j = true ∨ ahead (befs ops.toList []) j i = true) := by
  unfold tmpOk at hk
  rw [List.all_eq_true] at hk
  have h1 := hk (o, j) (List.mem_zipIdx_iff_getElem?.2 (by simpa using hj))
  simp only [hd, List.all_eq_true] at h1
  have h2 := h1 (q, i) (List.mem_zipIdx_iff_getElem?.2 (by simpa using hi))
  simp only [Bool.or_eq_true, Bool.and_eq_true, Array.toArray_toList] at h2
  rcases h2 with h2 | ⟨h2, h3⟩
  · exact absurd (Nat.eq_of_beq_eq_true h2) hne
  · refine ⟨fun hq => ?_, fun hm => ?_⟩
    · rw [hq] at h2; simp at h2
    · rcases h3 with (h3 | h3) | h3
      · rw [Bool.not_eq_true', List.any_eq_false] at h3
        exact absurd (Nat.beq_refl d) (by simpa using h3 d hm)
      · exact .inl h3
      · exact .inr h3
end
end Go.Lg
