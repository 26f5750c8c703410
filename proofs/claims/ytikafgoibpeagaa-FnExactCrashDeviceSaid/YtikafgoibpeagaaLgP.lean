/- Every operation: its logical run is alike to the model's: all of them. -/
import Derived.Test.YtikafgoibpeagaaLgO
namespace Go.Lg
set_option linter.unusedVariables false
set_option linter.unusedSimpArgs false

section
variable {P : Program} {E : Env} (hE : EnvOk P E) {call : Cal} (hc : CallOk P call) {f : Nat} {fr : Fr} {σ : LH} {π : Pl} {a : Act} {w : World} (hr : Rel fr σ π a w)
  {α : Type} {k : Option FV → List (Nat × List Value) → LH → Option α} {res : α} {o : Oper} {next : Act → World → Prop} {Q : Exit → Act → World → Prop} (hn : Goes fr σ π a w k res o next)
  (hq : ∀ T ks, E.eqT T = ks → ks ≠ [] → eqTOk P T ks = true)
include hE hr hn

theorem op_alloc {T : Nat} (ho : o.op = .alloc T) (h : opC E call f o fr σ k = some res) : o.wp P a w next Q := by
  simp only [opC, ho] at h
  split at h
  · rename_i ti d hti hd
    obtain ⟨i, ds, z, hT⟩ := hE.tiok hti
    have run : (execOp a.eval o).run P w = .ok (.value (.pointer (some ⟨w.heap.size, 0, none⟩))) (w.alloc (.cells z.cells T)) := by
      simp only [execOp, ho]
      refine lookv _ ?_
      simp [Instr.alloc, zeroValue, typeInfo, hT.info, hT.zero, newVar, newRow]
    have hv : ∃ l', VRs π ti.zero l' ∧ ∀ (j : Nat) v, l'[j]? = some v → z.cells[j]? = some v := ⟨ti.zero, const_VRs π hT.zconst, fun j v hj => by rw [← hT.cells] at hj; simpa using hj⟩
    have h1 : Ones ti.zero := fun v hv => constOk_one (hT.zconst v hv)
    cases hl : E.loc f d with
    | true =>
      rw [hl] at h
      obtain ⟨h2, h3⟩ := cond_some (show (cond (isNone' (look fr.regs d)) _ none) = some res from h)
      have hnone : look fr.regs d = none := by cases hh : look fr.regs d <;> simp_all [isNone']
      obtain ⟨k1, k2, k3⟩ := hr.pushRg hnone (grown_alloc w z.cells T) h1 hv
      exact goes_value hn run (.reg d 0 ⟨w.heap.size, 0, z.cells.size, true⟩ (upd_same _ _ _)) h3 ⟨k1, k2, k3⟩
    | false =>
      rw [hl] at h
      obtain ⟨k1, k2, k3⟩ := hr.pushHp (grown_alloc w z.cells T) h1 hv
      exact goes_value hn run (.val _ _ (.ptr σ.next 0 ⟨w.heap.size, 0, z.cells.size, true⟩ (upd_same _ _ _))) h ⟨k1, k2, k3⟩
  · cases h

omit hE in
theorem op_box {T : Nat} {x : Operand} (ho : o.op = .box T x) (h : opC E call f o fr σ k = some res) : o.wp P a w next Q := by
  simp only [opC, ho] at h
  split at h
  · rename_i ti d hti hd
    obtain ⟨v, h, hv⟩ := evV_rel hr h
    obtain ⟨h, _⟩ := unC_some h
    obtain ⟨c1, c2⟩ := hv.cells
    have run : (execOp a.eval o).run P w = .ok (.value (.pointer (some ⟨w.heap.size, 0, none⟩))) (w.alloc (.cells (a.eval x).cells T)) := by
      simp only [execOp, ho]
      refine lookv _ ?_
      simp [Instr.box, newVar, newRow]
    have hvv : ∃ l', VRs π v.cells.toList l' ∧ ∀ (j : Nat) u, l'[j]? = some u → (a.eval x).cells[j]? = some u := ⟨_, c1, fun j u hj => by simpa using hj⟩
    cases hl : E.loc f d with
    | true =>
      rw [hl] at h
      obtain ⟨h2, h3⟩ := cond_some (show (cond (isNone' (look fr.regs d)) _ none) = some res from h)
      have hnone : look fr.regs d = none := by cases hh : look fr.regs d <;> simp_all [isNone']
      obtain ⟨k1, k2, k3⟩ := hr.pushRg hnone (grown_alloc w (a.eval x).cells T) c2 hvv
      exact goes_value hn run (.reg d 0 ⟨w.heap.size, 0, (a.eval x).cells.size, true⟩ (upd_same _ _ _)) h3 ⟨k1, k2, k3⟩
    | false =>
      rw [hl] at h
      obtain ⟨k1, k2, k3⟩ := hr.pushHp (grown_alloc w (a.eval x).cells T) c2 hvv
      exact goes_value hn run (.val _ _ (.ptr σ.next 0 ⟨w.heap.size, 0, (a.eval x).cells.size, true⟩ (upd_same _ _ _))) h ⟨k1, k2, k3⟩
  · cases h

omit hE hr hn in
theorem rdReg_some {cs : List Value} {off size : Nat} {ag : Bool} {kk : Value → Option α} (h : rdReg cs off size ag kk = some res) :
    (ag = true ∧ off + size ≤ cs.length ∧ kk (.agg ((cs.drop off).take size).toArray) = some res) ∨ (ag = false ∧ ∃ v, cs[off]? = some v ∧ kk v = some res) := by
  cases ag with
  | true =>
    obtain ⟨h1, h2⟩ := cond_some (show (cond (Nat.ble (off + size) cs.length) _ none) = some res from h)
    exact .inl ⟨rfl, Nat.le_of_ble_eq_true h1, h2⟩
  | false =>
    simp only [rdReg, cond_false] at h
    split at h
    · rename_i v r hd
      refine .inr ⟨rfl, v, ?_, h⟩
      have := List.getElem?_drop (xs := cs) (i := off) (j := 0)
      rw [hd] at this; simpa using this.symm
    · cases h

theorem op_load {T : Nat} {x : Operand} (ho : o.op = .load T x) (h : opC E call f o fr σ k = some res) : o.wp P a w next Q := by
  simp only [opC, ho] at h
  split at h
  · rename_i ti hti
    obtain ⟨i, ds, z, hT⟩ := hE.tiok hti
    obtain ⟨y, h, hy⟩ := ev_rel hr h
    have go : ∀ {key : Key} {e : Tgt} {blk : Blk} {off : Nat} {v : Value}, π key = some e → cm fr.regs σ.mem key = some blk → a.eval x = .pointer (some ⟨e.r, off + e.s, none⟩) →
        (ti.agg = true ∧ off + ti.size ≤ blk.cells.length ∧ v = .agg ((blk.cells.drop off).take ti.size).toArray ∨ ti.agg = false ∧ blk.cells[off]? = some v) → k (some (.val v)) fr.regs σ = some res →
        o.wp P a w next Q := by
      intro key e blk off v hk hb hx hv hkk
      have : ∃ v', (loadVar T ⟨e.r, off + e.s, none⟩).run P w = .ok v' w ∧ VR π v v' := by
        rcases hv with ⟨g1, g2, rfl⟩ | ⟨g1, g2⟩
        · exact run_loadVar_agg hT hr.hr hk hb g1 g2
        · exact run_loadVar_one hT hr.hr hk hb g1 g2
      obtain ⟨v', r1, r2⟩ := this
      refine goes_plain hr hn (v := v') ?_ (.val _ _ r2) hkk
      simp only [execOp, ho]
      refine lookv _ ?_
      simp [Instr.loadAt, hx, Instr.sureAddr, r1]
    generalize hax : a.eval x = ax at hy
    cases hy with
    | reg t off e hk =>
      simp only at h
      split at h
      · rename_i cs hcs
        have hb : cm fr.regs σ.mem (.rg t) = some ⟨cs, true⟩ := by simp [cm, hcs]
        rcases rdReg_some h with ⟨g1, g2, g3⟩ | ⟨g1, v, g2, g3⟩
        · exact go hk hb hax (.inl ⟨g1, g2, rfl⟩) g3
        · exact go hk hb hax (.inr ⟨g1, g2⟩) g3
      · cases h
    | val p p' hp =>
      simp only at h
      obtain ⟨v, hv, hkk⟩ := bind_some h
      clear h
      unfold pLd at hv
      split at hv
      · rename_i ad
        cases hp with
        | ptr b off e hk =>
          split at hv
          · rename_i blk hb
            split at hv
            · rename_i hag
              split at hv
              · rename_i hfit; cases hv; exact go hk (show cm fr.regs σ.mem (.hp b) = some blk from hb) hax (.inl ⟨hag, hfit, rfl⟩) hkk
              · cases hv
            · rename_i hag; exact go hk (show cm fr.regs σ.mem (.hp b) = some blk from hb) hax (.inr ⟨by simpa using hag, hv⟩) hkk
          · cases hv
      · cases hv
    | tup => cases h
    | und => cases h
  · cases h

theorem op_store {T : Nat} {x y : Operand} (ho : o.op = .store T x y) (h : opC E call f o fr σ k = some res) : o.wp P a w next Q := by
  simp only [opC, ho] at h
  split at h
  · rename_i ti hti
    obtain ⟨i, ds, z, hT⟩ := hE.tiok hti
    obtain ⟨u, h, hu⟩ := ev_rel hr h
    have run : ∀ {r off : Nat} {arr : Array Value}, a.eval x = .pointer (some ⟨r, off, none⟩) → RowAt w r arr → (a.eval y).cells.size = ti.size → (∀ u ∈ (a.eval y).cells.toList, u.oneCell' = true) → off + ti.size ≤ arr.size →
        ∃ w', (execOp a.eval o).run P w = .ok .skip w' ∧ Put w r (overA arr off (a.eval y).cells.toList) w' := by
      intro r off arr hx hrow hs h1 hfit
      obtain ⟨w', r1, r2⟩ := run_storeVar_row (P := P) hT hrow hs h1 hfit
      refine ⟨w', ?_, r2⟩
      simp only [execOp, ho]
      refine looku _ ?_
      simp [Instr.storeAt, hx, Instr.sureAddr, r1]
    generalize hax : a.eval x = ax at hu
    cases hu with
    | reg t off e hk =>
      simp only at h
      split at h
      · rename_i cs hcs
        obtain ⟨v, h, hv⟩ := evV_rel hr h
        obtain ⟨h, hsz⟩ := unC_some h
        obtain ⟨hfit, h⟩ := cond_some h
        have hfit := Nat.le_of_ble_eq_true hfit
        have hb : cm fr.regs σ.mem (.rg t) = some ⟨cs, true⟩ := by simp [cm, hcs]
        obtain ⟨g1, arr, g2, g3, g4⟩ := hr.hr.own (.rg t) e ⟨cs, true⟩ hk hb rfl
        obtain ⟨c1, c2⟩ := hv.cells
        have hvs := hv.cells_size
        by_cases hsize : v.cells.size = ti.size
        · simp only at g4
          obtain ⟨w', r1, r2⟩ := run hax g2 (by rw [hvs]; exact hsize) hv.cells_one (by omega)
          have hh := hr.hr.write (k := .rg t) hk hb rfl (off := off) (vs := v.cells.toList) (by simp only [Array.length_toList, hsize]; exact hfit) c1 c2 g2 r2
          obtain ⟨k1, k2⟩ := hr.writeRg hk hcs hh r2
          exact wp_skipped r1 (hn none _ σ π undef w' h (fun _ hz => by cases hz) ⟨k1, k2, More'.refl _⟩)
        · -- a scalar type, a value of one cell
          exfalso
          cases hag : ti.agg with
          | true => exact hsize (hsz.1 hag)
          | false => exact hsize (by rw [hsz.2 hag, hT.scal hag])
      · cases h
    | val p p' hp =>
      simp only at h
      obtain ⟨v, h, hv⟩ := evV_rel hr h
      obtain ⟨σ', hw, h⟩ := bind_some h
      unfold pSt at hw
      split at hw
      · rename_i ad
        cases hp with
        | ptr b off e hk =>
          split at hw
          · rename_i hsz
            obtain ⟨c1, c2⟩ := hv.cells
            have hw0 := hw
            unfold LH.write at hw0
            split at hw0
            · rename_i blk hb
              split at hw0
              · rename_i hcond
                obtain ⟨g1, arr, g2, g3, g4⟩ := hr.hr.own (.hp b) e blk hk hb hcond.1
                have hvs := hv.cells_size
                simp only [Array.length_toList] at hcond
                obtain ⟨w', r1, r2⟩ := run hax g2 (by rw [hvs]; exact hsz) hv.cells_one (by omega)
                have hh := hr.hr.write (k := .hp b) hk hb hcond.1 (off := off) (vs := v.cells.toList) (by simpa using hcond.2) c1 c2 g2 r2
                obtain ⟨k1, k2⟩ := hr.writeHp hk hb hcond.1 (blk' := { blk with cells := over blk.cells off v.cells.toList }) hcond.1 hh r2
                cases hw0
                exact wp_skipped r1 (hn none _ _ π undef w' h (fun _ hz => by cases hz) ⟨k1, k2, More'.refl _⟩)
              · cases hw0
            · cases hw0
          · cases hw
      · cases hw
    | tup => cases h
    | und => cases h
  · cases h
end
end Go.Lg
