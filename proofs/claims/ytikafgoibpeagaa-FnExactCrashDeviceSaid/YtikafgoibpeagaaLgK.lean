/- Operations, part 5: those that make, write and read memory. -/
import Derived.Test.YtikafgoibpeagaaLgJ
namespace Go.Lg
set_option linter.unusedVariables false
set_option linter.unusedSimpArgs false

/-- what a step that leaves the temporaries alone keeps -/
abbrev Kept (fr : Fr) (σ : LH) (π : Pl) (a : Act) (w : World) (regs : List (Nat × List Value)) (σ' : LH) (π' : Pl) (w' : World) : Prop :=
  Rel ⟨fr.n, fr.tmps, regs⟩ σ' π' a w' ∧ Step (cm fr.regs σ.mem) σ.next π w (cm regs σ'.mem) σ'.next π' w' ∧ More' π π'

theorem More'.refl (π : Pl) : More' π π := fun _ _ h => h

section
variable {P : Program} {fr : Fr} {σ : LH} {π : Pl} {a : Act} {w : World}

theorem Kept.refl (h : Rel fr σ π a w) : Kept fr σ π a w fr.regs σ π w := ⟨h, Step.refl _ _ _ _, More'.refl _⟩

/-- a slice over a whole new row -/
theorem slice_new (n c c' size N : Nat) (h1 : c / 2 ≤ c') (h2 : c % 2 = 1 → c' = c / 2) (h3 : n ≤ c / 2) (h4 : 0 < c' → c' * size ≤ N) (π : Pl) (w : World) (b : Nat) {arr : Array Value} (hN : arr.size = N) :
    VR (plus π (.hp b) w arr) (.slice (some ⟨b, 0, some size⟩) n c) (.slice (some ⟨w.heap.size, 0, none⟩) n c') := by
  refine .slc b 0 n c size 0 c' ⟨w.heap.size, 0, arr.size, true⟩ (upd_same _ _ _) (fun _ => rfl) h1 h2 h3 (fun _ hp => ?_)
  have := h4 hp
  simp only [hN]; omega

theorem run_buildSlice_raw {T e n size : Nat} {ie : TypeInfo} {ze : Value} (hu : P.underlying T = some (.slice e)) (hi : P.info? e = some ie) (hz : ie.zero = some ze) (hs : ie.size = size) (hfit : n * size ≤ 16777216)
    {l' : Array (Nat × Value)} {r' : Array Value} (hf : Instr.fill (fun i => some (i * size, size)) ((Array.range (n * size)).map (ze.cells[· % ze.cells.size]!)) l'.toList = some r') :
    (Instr.buildSlice T n l').run P w = .ok (.slice (some ⟨w.heap.size, 0, none⟩) n n) (w.alloc (.cells r' e)) := by
  subst hs
  have hne : ¬ (16777216 < n * ie.size) := by omega
  by_cases h0 : n * ie.size = 0
  · rw [h0] at hf
    simp only [Array.range_zero', Array.map_empty] at hf
    simp [Instr.buildSlice, run_underlying hu, sizeOf, typeInfo, hi, h0, hf, newRow, Array.range_zero']
  · simp [Instr.buildSlice, run_underlying hu, sizeOf, typeInfo, hi, zeroValue, hz, hne, h0, hf, newRow]

theorem run_buildSlice_lg (h : Rel fr σ π a w) {T e : Nat} {ti te : TI} {i ie : TypeInfo} {d de : TypeDesc} {z ze : Value} (hT : TIok P T ti i d z) (hs : ti.shape = .slice e) (hE : TIok P e te ie de ze)
    {n : Nat} {l : List (Nat × Value)} {l' : Array (Nat × Value)} (hl : PVR π l l'.toList) {r : Value × LH} (hr : pBS σ te.zero te.size n l = some r) :
    ∃ v' w' π', (Instr.buildSlice T n l').run P w = .ok v' w' ∧ VR π' r.1 v' ∧ Kept fr σ π a w fr.regs r.2 π' w' := by
  have hd := shape_slice (hT.shape.trans hs)
  have hu : P.underlying T = some (.slice e) := by rw [hT.und, hd]
  unfold pBS at hr
  split at hr
  · rename_i hc
    obtain ⟨cells, hf, he⟩ := Option.map_eq_some_iff.mp hr
    subst he
    have hz0 : 0 < ze.cells.size := by
      have := hE.zlen; rw [← hE.cells] at this; have := hE.pos; simp at *; omega
    have hzs : ze.cells.size = te.size := by
      have := hE.zlen; rw [← hE.cells] at this; simpa using this
    have hmade : ((Array.range (n * te.size)).map (ze.cells[· % ze.cells.size]!)).toList = zeros te.zero n := by
      have := zeros_made ze.cells hz0 n
      rw [hE.cells] at this
      rw [← hzs]; exact this
    obtain ⟨z1, z2⟩ := zeros_const π hE.zconst n
    obtain ⟨r', f1, f2, f3⟩ := fill_rel _ hl (cells' := (Array.range (n * te.size)).map (ze.cells[· % ze.cells.size]!)) (by rw [hmade]; exact z1) z2 hf
    have hlen : r'.size = n * te.size := by
      have h1 := f2.len
      have h2 : cells.length = (zeros te.zero n).length := by
        have : ∀ {pl : Nat → Option (Nat × Nat)} {l : List (Nat × Value)} {a b : List Value}, fillL pl a l = some b → b.length = a.length := by
          intro pl l
          induction l with
          | nil => intro a b h; simp [fillL] at h; subst h; rfl
          | cons x xs ih =>
            intro a b h
            obtain ⟨i, v⟩ := x
            simp only [fillL] at h
            split at h
            · cases h
            · split at h
              · rename_i hfit; rw [ih h, over_length (by simp [hfit.1]; exact hfit.2)]
              · cases h
        exact this hf
      rw [zeros_length, hE.zlen] at h2
      simp at h1; omega
    obtain ⟨k1, k2, k3⟩ := h.pushHp (grown_alloc w r' e) f3 ⟨r'.toList, f2, fun j v hj => by simpa using hj⟩
    refine ⟨.slice (some ⟨w.heap.size, 0, none⟩) n n, w.alloc (.cells r' e), plus π (.hp σ.next) w r', ?_, ?_, k1, k2, k3⟩
    · exact run_buildSlice_raw hu hE.info hE.zero hE.size hc.1 f1
    · exact slice_new n (capE n) n te.size (n * te.size) (by simp [capE]; omega) (by simp [capE]; omega) (by simp [capE]; omega) (fun _ => Nat.le_refl _) π w σ.next hlen
  · cases hr

theorem run_makeSlice_lg (h : Rel fr σ π a w) {T e : Nat} {ti te : TI} {i ie : TypeInfo} {d de : TypeDesc} {z ze : Value} (hT : TIok P T ti i d z) (hs : ti.shape = .slice e) (hE : TIok P e te ie de ze)
    {l l' c c' : Value} (hl : VR π l l') (hc : VR π c c') {r : Value × LH} (hr : pMS σ te.zero te.size te.bytes l c = some r) :
    ∃ v' w' π', (Instr.makeSlice T l' c').run P w = .ok v' w' ∧ VR π' r.1 v' ∧ Kept fr σ π a w fr.regs r.2 π' w' := by
  have hd := shape_slice (hT.shape.trans hs)
  have hu : P.underlying T = some (.slice e) := by rw [hT.und, hd]
  unfold pMS at hr
  split at hr
  · rename_i l0 c0
    cases hl; cases hc
    split at hr
    · rename_i hcond
      obtain ⟨q1, q2, q3, q4, q5⟩ := hcond
      cases hr
      have hz0 : 0 < ze.cells.size := by
        have := hE.zlen; rw [← hE.cells] at this; have := hE.pos; simp at *; omega
      have hzs : ze.cells.size = te.size := by
        have := hE.zlen; rw [← hE.cells] at this; simpa using this
      have hmade : (madeCells ze.cells (c0.toNat * ie.size)).toList = zeros te.zero c0.toNat := by
        rw [hE.size, ← hzs, zeros_made ze.cells hz0, hE.cells]
      obtain ⟨z1, z2⟩ := zeros_const π hE.zconst c0.toNat
      obtain ⟨k1, k2, k3⟩ := h.pushHp (grown_alloc w (madeCells ze.cells (c0.toNat * ie.size)) e) z2 ⟨_, z1, fun j v hj => by rw [← hmade] at hj; simpa using hj⟩
      refine ⟨_, _, _, run_make w T e ie ze hu hE.info hE.zero .i64 .i64 l0 c0 q1 q2 (by rw [hE.bytes, Int.mul_comm]; omega) q4, ?_, k1, k2, k3⟩
      refine slice_new l0.toNat (capE c0.toNat) c0.toNat te.size (c0.toNat * te.size) (by simp [capE]; omega) (by simp [capE]; omega) (by simp [capE]; omega) (fun _ => Nat.le_refl _) π w σ.next ?_
      simp [madeCells, hE.size]
    · cases hr
  · cases hr

/-! ## the cells that are read -/
theorem bytes_VRs (π : Pl) : ∀ l : List UInt8, VRs π (l.map fun b => .int .u8 b.toNat) (l.map fun b => .int .u8 b.toNat) ∧ Ones (l.map fun b => Value.int .u8 b.toNat)
  | [] => ⟨.nil, fun v hv => by simp at hv⟩
  | b :: l => ⟨.cons (.int _ _) (bytes_VRs π l).1, fun v hv => by
      simp only [List.map_cons, List.mem_cons] at hv
      rcases hv with rfl | hv
      · rfl
      · exact (bytes_VRs π l).2 v hv⟩

theorem run_cellsOf (h : Rel fr σ π a w) {size n : Nat} {x x' : Value} (hx : VR π x x') {l : List Value} (hl : cellsOf σ size n x = some l) {m : Nat} (hm : lenV x = some m) (hn : n ≤ m) :
    ∃ l', VRs π l l' ∧ Ones l ∧ l.length = n * size ∧ (Builtin.firstCells size n x').run P w = .ok l'.toArray w := by
  unfold cellsOf at hl
  split at hl
  · split at hl
    · rename_i h0; subst h0; cases hl; cases hx
      exact ⟨[], .nil, fun v hv => by simp at hv, by simp, by simp [Builtin.firstCells]⟩
    · cases hl
  · rename_i ad ln cp hne
    cases hx with
    | slc b o ln cp z o' c' eT hk h1 h2 h3 h4 h5 =>
      simp only [lenV, Option.some.injEq] at hm
      subst hm
      split at hl
      · rename_i h0; subst h0; cases hl
        exact ⟨[], .nil, fun v hv => by simp at hv, by simp, by simp [Builtin.firstCells, loadCells, loadCellsFrom]⟩
      · rename_i h0
        split at hl
        · rename_i blk hb
          split at hl
          · rename_i hfit
            cases hl
            simp only at hb hfit
            obtain ⟨l', g1, g2, g3⟩ := h.hr.list (k := .hp b) hk hb o (n * size) hfit
            refine ⟨l', g1, fun v hv => h.hr.ones _ blk ⟨eT, hk⟩ hb v (List.mem_of_mem_drop (List.mem_of_mem_take hv)), by simp; omega, ?_⟩
            have := run_loadCells_list (P := P) w ⟨eT.r, o', none⟩ l' fun j v hj => by
              rw [Addr.add_none, h1 (by omega)]; exact g3 j v hj
            simp only [Builtin.firstCells, ← g2, this]
          · cases hl
        · cases hl
  · rename_i s
    split at hl
    · rename_i hc
      obtain ⟨hc1, rfl⟩ := hc
      cases hl
      cases hx
      refine ⟨_, (bytes_VRs π _).1, (bytes_VRs π _).2, ?_, ?_⟩
      · have hsz : s.data.toList.length = s.size := rfl
        rw [List.length_map, List.length_take, hsz]; omega
      · simp only [Builtin.firstCells, Sem.run_pure]
        congr 1
        apply Array.ext'
        simp [ByteArray.extract, ByteArray.copySlice]
    · cases hl
  · cases hl

theorem run_lenOf {x x' : Value} (hx : VR π x x') {m : Nat} (hm : lenV x = some m) : (Builtin.lenOf x').run P w = .ok m w := by
  unfold lenV at hm
  split at hm
  · cases hm; cases hx <;> rfl
  · cases hm; cases hx; rfl
  · cases hm
end
end Go.Lg
