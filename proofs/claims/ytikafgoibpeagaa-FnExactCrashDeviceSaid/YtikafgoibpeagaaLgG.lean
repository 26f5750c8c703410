/- Operations: the model's own run of each one is alike to the logical one. Part 1: what memory is read and written by. -/
import Derived.Test.YtikafgoibpeagaaLgD
namespace Go.Lg
set_option linter.unusedVariables false
set_option linter.unusedSimpArgs false

theorem wp_value {P : Program} {o : Oper} {a : Act} {w w' : World} {v : Value} {next : Act → World → Prop} {Q : Exit → Act → World → Prop}
    (hrun : (execOp a.eval o).run P w = .ok (.value v) w') (h : next (a.put o.dst v) w') : o.wp P a w next Q := by
  unfold Oper.wp; rw [hrun]; exact h
theorem wp_skipped {P : Program} {o : Oper} {a : Act} {w w' : World} {next : Act → World → Prop} {Q : Exit → Act → World → Prop}
    (hrun : (execOp a.eval o).run P w = .ok .skip w') (h : next (a.put o.dst undef) w') : o.wp P a w next Q := by
  unfold Oper.wp; rw [hrun]; exact h

theorem grown_alloc (w : World) (arr : Array Value) (t : TypeId) : Grown1 w arr (w.alloc (.cells arr t)) :=
  ⟨rfl, rfl, rfl, by simp, ⟨t, 0, 0, by show (w.heap.push _)[w.heap.size]? = _; simp, fun o _ => by omega⟩, fun k hk => by show (w.heap.push _)[k]? = _; rw [Array.getElem?_push, if_neg (by omega)]⟩
theorem Grown1.drew {w w' : World} {arr : Array Value} (h : Grown1 w.drew arr w') : Grown1 w arr w' := ⟨h.os, h.tape, h.output, h.size, h.row, h.other⟩

theorem cm_push (regs : List (Nat × List Value)) (σ : LH) (b : Blk) : cm regs (σ.push b).mem = upd (cm regs σ.mem) (.hp σ.next) (some b) := by
  funext k
  cases k with
  | hp x =>
    by_cases h : x = σ.next
    · subst h; simp [cm, LH.push]
    · rw [upd_ne _ _ (by simpa using h)]; simp [cm, LH.push, h]
  | rg t => rw [upd_ne _ _ (by simp)]; rfl
theorem cm_set (regs : List (Nat × List Value)) (σ : LH) (k : Nat) (b : Option Blk) : cm regs (σ.set k b).mem = upd (cm regs σ.mem) (.hp k) b := by
  funext j
  cases j with
  | hp x =>
    by_cases h : x = k
    · subst h; simp [cm, LH.set]
    · rw [upd_ne _ _ (by simpa using h)]; simp [cm, LH.set, h]
  | rg t => rw [upd_ne _ _ (by simp)]; rfl
theorem look_cons_same {α : Type} (t : Nat) (v : α) (l : List (Nat × α)) : look ((t, v) :: l) t = some v := by simp [look]
theorem look_cons_ne {α : Type} {t u : Nat} (v : α) (l : List (Nat × α)) (h : t ≠ u) : look ((t, v) :: l) u = look l u := by
  have : Nat.beq t u = false := by
    cases hh : Nat.beq t u with
    | false => rfl
    | true => exact absurd (Nat.eq_of_beq_eq_true hh) h
  simp [look, this]
theorem cm_reg (regs : List (Nat × List Value)) (mem : Nat → Option Blk) (d : Nat) (cs : List Value) : cm ((d, cs) :: regs) mem = upd (cm regs mem) (.rg d) (some ⟨cs, true⟩) := by
  funext j
  cases j with
  | hp x => rw [upd_ne _ _ (by simp)]; rfl
  | rg t =>
    by_cases h : t = d
    · subst h; simp [cm, look_cons_same]
    · rw [upd_ne _ _ (by simpa using h)]; simp [cm, look_cons_ne _ _ (Ne.symm h)]

section
variable {fr : Fr} {σ : LH} {π : Pl} {a : Act} {w w' : World}

/-- the places with one more -/
abbrev plus (π : Pl) (k : Key) (w : World) (arr : Array Value) : Pl := upd π k (some ⟨w.heap.size, 0, arr.size, true⟩)

theorem more_plus {π : Pl} {k : Key} (h : π k = none) (w : World) (arr : Array Value) : More' π (plus π k w arr) := fun j e hj => by
  rw [plus, upd_ne]; exact hj
  intro he; rw [he, h] at hj; cases hj

theorem Rel.pushHp (h : Rel fr σ π a w) {arr : Array Value} (g : Grown1 w arr w') {vs : List Value} (ho : Ones vs)
    (hv : ∃ l', VRs π vs l' ∧ ∀ (j : Nat) v, l'[j]? = some v → arr[j]? = some v) :
    Rel fr (σ.push ⟨vs, true⟩) (plus π (.hp σ.next) w arr) a w' ∧
    Step (cm fr.regs σ.mem) σ.next π w (cm fr.regs (σ.push ⟨vs, true⟩).mem) (σ.push ⟨vs, true⟩).next (plus π (.hp σ.next) w arr) w' ∧ More' π (plus π (.hp σ.next) w arr) := by
  have hk := h.dom σ.next (Nat.le_refl _)
  have hm := more_plus hk w arr
  obtain ⟨l', hl, hg⟩ := hv
  refine ⟨⟨fun t x ht => (h.tm t x ht).mono hm, h.sz, h.df, ?_, ?_, ?_, ?_, ?_⟩, ⟨g.os, g.tape, g.output, by rw [g.size]; omega, Nat.le_succ _, ?_, fun r hr _ => g.other r hr, ?_, ?_, ?_⟩, hm⟩
  · rw [cm_push]; exact h.hr.push hk g ⟨l', hl.mono hm.hp, hg⟩ ho
  · intro b hb
    have : b ≠ σ.next := by simp [LH.push] at hb; omega
    rw [plus, upd_ne _ _ (by simpa using this)]
    exact h.dom b (by simp [LH.push] at hb; omega)
  · intro b hb
    have : b ≠ σ.next := by simp [LH.push] at hb; omega
    simp only [LH.push, if_neg this]
    exact h.mdom b (by simp [LH.push] at hb; omega)
  · intro t e ht
    rw [plus, upd_ne _ _ (by simp)] at ht; exact h.rg t e ht
  · intro t cs ht
    rw [plus, upd_ne _ _ (by simp)]; exact h.rg' t cs ht
  · intro b hb
    rw [plus, upd_ne _ _ (by simp; omega)]
  · intro b hb _
    rw [cm_push, upd_ne _ _ (by simp; omega)]
  · intro b blk hb hm2
    rw [cm_push, upd_ne _ _ (by simp; omega)] at hm2
    exact ⟨blk, hm2, rfl, fun _ => rfl⟩
  · intro k e hk2
    by_cases hkn : k = .hp σ.next
    · subst hkn; simp only [plus, upd_same, Option.some.injEq] at hk2; subst hk2; exact .inr (.inl (Nat.le_refl _))
    · rw [plus, upd_ne _ _ hkn] at hk2; exact .inl hk2

theorem Rel.pushRg (h : Rel fr σ π a w) {d : Nat} (hd : look fr.regs d = none) {arr : Array Value} (g : Grown1 w arr w') {vs : List Value} (ho : Ones vs)
    (hv : ∃ l', VRs π vs l' ∧ ∀ (j : Nat) v, l'[j]? = some v → arr[j]? = some v) :
    Rel ⟨fr.n, fr.tmps, (d, vs) :: fr.regs⟩ σ (plus π (.rg d) w arr) a w' ∧
    Step (cm fr.regs σ.mem) σ.next π w (cm ((d, vs) :: fr.regs) σ.mem) σ.next (plus π (.rg d) w arr) w' ∧ More' π (plus π (.rg d) w arr) := by
  have hk : π (.rg d) = none := by
    cases hh : π (.rg d) with
    | none => rfl
    | some e => obtain ⟨cs, hc⟩ := h.rg d e hh; rw [hd] at hc; cases hc
  have hm := more_plus hk w arr
  obtain ⟨l', hl, hg⟩ := hv
  refine ⟨⟨fun t x ht => (h.tm t x ht).mono hm, h.sz, h.df, ?_, ?_, h.mdom, ?_, ?_⟩, ⟨g.os, g.tape, g.output, by rw [g.size]; omega, Nat.le_refl _, ?_, fun r hr _ => g.other r hr, ?_, ?_, ?_⟩, hm⟩
  · rw [cm_reg]; exact h.hr.push hk g ⟨l', hl.mono hm.hp, hg⟩ ho
  · intro b hb; rw [plus, upd_ne _ _ (by simp)]; exact h.dom b hb
  · intro t e ht
    by_cases htd : t = d
    · subst htd; exact ⟨vs, look_cons_same _ _ _⟩
    · rw [plus, upd_ne _ _ (by simpa using htd)] at ht
      obtain ⟨cs, hc⟩ := h.rg t e ht
      exact ⟨cs, by rw [look_cons_ne _ _ (Ne.symm htd)]; exact hc⟩
  · intro t cs ht
    by_cases htd : t = d
    · subst htd; exact ⟨_, upd_same _ _ _⟩
    · rw [look_cons_ne _ _ (Ne.symm htd)] at ht
      rw [plus, upd_ne _ _ (by simpa using htd)]; exact h.rg' t cs ht
  · intro b hb; rw [plus, upd_ne _ _ (by simp)]
  · intro b hb _; rfl
  · intro b blk hb hm2; exact ⟨blk, hm2, rfl, fun _ => rfl⟩
  · intro k e hk2
    by_cases hkn : k = .rg d
    · subst hkn; simp only [plus, upd_same, Option.some.injEq] at hk2; subst hk2; exact .inr (.inl (Nat.le_refl _))
    · rw [plus, upd_ne _ _ hkn] at hk2; exact .inl hk2

/-- a write into one of the call's own blocks: the rest of the relation -/
theorem Rel.writeHp (h : Rel fr σ π a w) {b : Nat} {e : Tgt} {blk : Blk} (hk : π (.hp b) = some e) (hb : σ.mem b = some blk) (hw : blk.wr = true) {blk' : Blk} (hw' : blk'.wr = true)
    (hh : HR (upd (cm fr.regs σ.mem) (.hp b) (some blk')) π w') {arr : Array Value} (p : Put w e.r arr w') :
    Rel fr (σ.set b (some blk')) π a w' ∧ Step (cm fr.regs σ.mem) σ.next π w (cm fr.regs (σ.set b (some blk')).mem) (σ.set b (some blk')).next π w' := by
  have hbn : b < σ.next := by
    rcases Nat.lt_or_ge b σ.next with h' | h'
    · exact h'
    · rw [h.dom b h'] at hk; cases hk
  refine ⟨⟨h.tm, h.sz, h.df, by rw [cm_set]; exact hh, h.dom, ?_, h.rg, h.rg'⟩, ⟨p.os, p.tape, p.output, by rw [p.size]; exact Nat.le_refl _, Nat.le_refl _, fun _ _ => rfl, ?_, ?_, ?_, fun k e hk => .inl hk⟩⟩
  · intro x hx
    have hxb : x ≠ b := by have : σ.next ≤ x := hx; omega
    simp only [LH.set, if_neg hxb]; exact h.mdom x hx
  · intro r hr hu
    refine p.other r fun he => ?_
    subst he
    have := hu (.hp b) e blk hk hb rfl
    rw [hw] at this; cases this
  · intro x hx hn
    rw [cm_set, upd_ne]
    intro he; cases he; rw [hk] at hn; cases hn
  · intro x blk2 hx hm
    rw [cm_set] at hm
    by_cases hxb : x = b
    · subst hxb
      simp only [upd_same, Option.some.injEq] at hm; subst hm
      exact ⟨blk, hb, by rw [hw, hw'], fun hf => by rw [hw] at hf; cases hf⟩
    · rw [upd_ne _ _ (by simpa using hxb)] at hm; exact ⟨blk2, hm, rfl, fun _ => rfl⟩

theorem Rel.writeRg (h : Rel fr σ π a w) {t : Nat} {e : Tgt} {cs cs' : List Value} (hk : π (.rg t) = some e) (hc : look fr.regs t = some cs)
    (hh : HR (upd (cm fr.regs σ.mem) (.rg t) (some ⟨cs', true⟩)) π w') {arr : Array Value} (p : Put w e.r arr w') :
    Rel ⟨fr.n, fr.tmps, (t, cs') :: fr.regs⟩ σ π a w' ∧ Step (cm fr.regs σ.mem) σ.next π w (cm ((t, cs') :: fr.regs) σ.mem) σ.next π w' := by
  refine ⟨⟨h.tm, h.sz, h.df, by rw [cm_reg]; exact hh, h.dom, h.mdom, ?_, ?_⟩, ⟨p.os, p.tape, p.output, by rw [p.size]; exact Nat.le_refl _, Nat.le_refl _, fun _ _ => rfl, ?_, fun _ _ _ => rfl, fun x blk _ hm => ⟨blk, hm, rfl, fun _ => rfl⟩, fun k e hk => .inl hk⟩⟩
  · intro u e1 hu
    by_cases hut : u = t
    · subst hut; exact ⟨cs', look_cons_same _ _ _⟩
    · obtain ⟨c, hc⟩ := h.rg u e1 hu
      exact ⟨c, by rw [look_cons_ne _ _ (Ne.symm hut)]; exact hc⟩
  · intro u c hu
    by_cases hut : u = t
    · subst hut; exact ⟨e, hk⟩
    · rw [look_cons_ne _ _ (Ne.symm hut)] at hu; exact h.rg' u c hu
  · intro r hr hu
    refine p.other r fun he => ?_
    subst he
    have := hu (.rg t) e ⟨cs, true⟩ hk (by simp [cm, hc]) rfl
    cases this
end

/-! ## loads, stores -/
section
variable {P : Program} {T : TypeId} {ti : TI} {i : TypeInfo} {d : TypeDesc} {z : Value} (hT : TIok P T ti i d z)
include hT

theorem run_isAgg_ti (w : World) : (isAgg T).run P w = .ok ti.agg w := by
  have h := hT.agg
  simp only [isAgg, Sem.run_bind, run_underlying hT.und, Result.andThen_ok]
  cases d <;> simp_all [aggD]

theorem run_loadVar_agg {m : Mem} {π : Pl} {w : World} (h : HR m π w) {k : Key} {e : Tgt} {blk : Blk} (hk : π k = some e) (hb : m k = some blk) (ha : ti.agg = true) {o : Nat}
    (hfit : o + ti.size ≤ blk.cells.length) : ∃ v', (loadVar T ⟨e.r, o + e.s, none⟩).run P w = .ok v' w ∧ VR π (.agg ((blk.cells.drop o).take ti.size).toArray) v' := by
  obtain ⟨l', h1, h2, h3⟩ := h.list hk hb o ti.size hfit
  refine ⟨.agg l'.toArray, ?_, VR.of_list h1 fun v hv => h.ones k blk ⟨e, hk⟩ hb v (List.mem_of_mem_drop (List.mem_of_mem_take hv))⟩
  have hl := run_loadCells_list (P := P) w ⟨e.r, o + e.s, none⟩ l' fun j v hj => by
    have := h3 j v hj
    unfold Addr.add; split
    · subst_vars; simpa using this
    · simpa using this
  simp only [loadVar, Sem.run_bind, run_isAgg_ti hT, ha, if_true, Result.andThen_ok, sizeOf, typeInfo, run_program, hT.info, Sem.run_pure, hT.size, ← h2, hl]

theorem run_loadVar_one {m : Mem} {π : Pl} {w : World} (h : HR m π w) {k : Key} {e : Tgt} {blk : Blk} (hk : π k = some e) (hb : m k = some blk) (ha : ti.agg = false) {o : Nat} {v : Value}
    (hv : blk.cells[o]? = some v) : ∃ v', (loadVar T ⟨e.r, o + e.s, none⟩).run P w = .ok v' w ∧ VR π v v' := by
  obtain ⟨v', h1, h2⟩ := h.cell k e blk o v hk hb hv
  refine ⟨v', ?_, h2⟩
  simp [loadVar, run_isAgg_ti hT, ha, h1]

theorem run_storeVar_row {w : World} {r o : Nat} {v' : Value} {arr : Array Value} (hrow : RowAt w r arr) (hs : v'.cells.size = ti.size) (h1 : ∀ u ∈ v'.cells.toList, u.oneCell' = true)
    (hfit : o + ti.size ≤ arr.size) : ∃ w', (storeVar T ⟨r, o, none⟩ v').run P w = .ok () w' ∧ Put w r (overA arr o v'.cells.toList) w' := by
  obtain ⟨w', hr, hp⟩ := run_storeRow P r o v'.cells.toList 0 w arr hrow (by simp [hs]; exact hfit) h1
  refine ⟨w', ?_, by simpa using hp⟩
  simp only [storeVar, Sem.run_bind, sizeOf, typeInfo, run_program, hT.info, Result.andThen_ok, Sem.run_pure, hT.size, hs, ne_eq, not_true_eq_false, if_false, hr]
end
end Go.Lg
