/- Operations, part 4: slices cut, made, appended to, copied. -/
import Derived.Test.YtikafgoibpeagaaLgI
namespace Go.Lg
set_option linter.unusedVariables false
set_option linter.unusedSimpArgs false

/-! ## cut -/
section
variable {P : Program} {T : TypeId} {ti : TI} {i : TypeInfo} {d : TypeDesc} {z : Value} (hT : TIok P T ti i d z) {π : Pl} {w : World}

theorem run_sliceAt_slice {e : Nat} (hs : ti.shape = .slice e) {te : TI} {ie : TypeInfo} {de : TypeDesc} {ze : Value} (hE : TIok P e te ie de ze) {x x' v : Value} {lo hi mx lo' hi' mx' : Option Value}
    (hx : VR π x x') (hl : OVR π lo lo') (hh : OVR π hi hi') (hm : OVR π mx mx') (h : pSl te.size x lo hi mx = some v) (hT : TIok P T ti i d z) :
    ∃ v', (Instr.sliceAt T x' lo' hi' mx').run P w = .ok v' w ∧ VR π v v' := by
  have hd := shape_slice (hT.shape.trans hs)
  have hu : P.underlying T = some (.slice e) := by rw [hT.und, hd]
  unfold pSl at h
  split at h
  · obtain ⟨r, hr, h⟩ := Option.bind_eq_some_iff.mp h
    cases h
    cases hx
    obtain ⟨h1, h2, h3, h4, h5, h6⟩ := run_pBd (P := P) (w := w) true (Nat.le_refl 0) hl hh hm hr
    have r1 : r.2.1 = 0 := by have := h4 (Nat.le_refl _); omega
    have r0 : r.1 = 0 := by omega
    have r2 : r.2.2 = 0 := by omega
    refine ⟨.slice none 0 0, ?_, .slcN⟩
    simp only [Instr.sliceAt, Instr.slice, Sem.run_bind, run_underlying hu, Result.andThen_ok, h1, sizeOf, typeInfo, run_program, hE.info, Sem.run_pure]
    cases mx <;> simp [r0, r1, r2]
  · rename_i a n c hne
    obtain ⟨r, hr, h⟩ := Option.bind_eq_some_iff.mp h
    split at h
    · rename_i hsp
      cases h
      cases hx with
      | slc b o n c z' o' c' eT hk k1 k2 k3 k4 k5 =>
        obtain ⟨h1, h2, h3, h4, h5, h6⟩ := run_pBd (P := P) (w := w) true k2 hl hh hm hr
        have hz : z' = te.size := by simpa using hsp
        subst hz
        have hn := h4 k4
        obtain ⟨q, hq⟩ : ∃ q, q = if mx.isSome = true then r.2.2 else c' := ⟨_, rfl⟩
        obtain ⟨x1, hx1⟩ : ∃ x1, x1 = if mx.isSome = true then 1 else hne % 2 := ⟨_, rfl⟩
        have q1 : r.1 ≤ q ∧ q ≤ c' ∧ r.2.2 ≤ q ∧ x1 ≤ 1 ∧ (x1 = 1 → q = r.2.2) := by
          cases hms : mx.isSome with
          | true => simp [hms] at hq hx1; omega
          | false => simp [hms] at hq hx1; have := h2 hms; omega
        obtain ⟨q1, q2, q3, q4, q5⟩ := q1
        rw [← hq] at h1
        rw [← hx1]
        refine ⟨.slice (some ⟨eT.r, if q = r.1 then o' else o' + r.1 * te.size, none⟩) (r.2.1 - r.1) (q - r.1), ?_, ?_⟩
        · simp only [Instr.sliceAt, Instr.slice, Sem.run_bind, run_underlying hu, Result.andThen_ok, h1, sizeOf, typeInfo, run_program, hE.info, Sem.run_pure, hE.size]
          by_cases he : q = r.1
          · rw [if_pos he, if_pos he]
          · rw [if_neg he, if_neg he]; simp [Addr.add_none]
        have hdiv : (2 * (r.2.2 - r.1) + x1) / 2 = r.2.2 - r.1 := by omega
        refine .slc b _ _ _ _ _ _ eT hk ?_ ?_ ?_ ?_ ?_
        · intro hp
          rw [hdiv] at hp
          rw [if_neg (by omega), k1 (by omega)]; show o + eT.s + r.1 * te.size = o + r.1 * te.size + eT.s; omega
        · rw [hdiv]; omega
        · intro ho; rw [hdiv, q5 (by omega)]
        · rw [hdiv]; omega
        · intro hf hp
          have hk5 := k5 hf (by omega)
          have hle : r.1 * te.size + (q - r.1) * te.size ≤ c' * te.size := by
            rw [← Nat.add_mul]
            exact Nat.mul_le_mul_right _ (by omega)
          split <;> omega
    · cases h
  · cases h

theorem run_sliceAt_str (hs : ti.shape = .str) {x x' v : Value} {lo hi lo' hi' : Option Value} (hx : VR π x x') (hl : OVR π lo lo') (hh : OVR π hi hi') (h : pSs x lo hi = some v) (hT : TIok P T ti i d z) :
    ∃ v', (Instr.sliceAt T x' lo' hi' none).run P w = .ok v' w ∧ VR π v v' := by
  have hd := shape_str (hT.shape.trans hs)
  have hu : P.underlying T = some .string := by rw [hT.und, hd]
  unfold pSs at h
  split at h
  · rename_i s
    obtain ⟨r, hr, h⟩ := Option.bind_eq_some_iff.mp h
    cases h
    cases hx
    obtain ⟨h1, _⟩ := run_pBd (P := P) (w := w) false (Nat.le_refl s.size) hl hh .none hr
    refine ⟨.string (s.extract r.1 r.2.1), ?_, .string _⟩
    simp [Instr.sliceAt, Instr.slice, run_underlying hu, h1]
  · cases h
end

/-! ## composite literals -/
theorem foldl_set (off : Nat) : ∀ (vs : List Value) (j : Nat) (cs : Array Value), off + j + vs.length ≤ cs.size →
    (vs.zipIdx j).foldl (fun cs p => cs.setIfInBounds (off + p.2) p.1) cs = overA cs (off + j) vs
  | [], j, cs, _ => by simp [overA, over_nil]
  | v :: vs, j, cs, h => by
    rw [List.zipIdx_cons, List.foldl_cons]
    rw [foldl_set off vs (j + 1) _ (by simp at h ⊢; omega)]
    unfold overA
    rw [Array.toList_setIfInBounds, ← Nat.add_assoc, over_cons (by simp at h ⊢; omega)]

theorem fill_rel {π : Pl} (place : Nat → Option (Nat × Nat)) : ∀ {l l' : List (Nat × Value)}, PVR π l l' → ∀ {cells : List Value} {cells' : Array Value} {r : List Value},
    VRs π cells cells'.toList → Ones cells → fillL place cells l = some r → ∃ r', Instr.fill place cells' l' = some r' ∧ VRs π r r'.toList ∧ Ones r
  | _, _, .nil, cells, cells', r, hc, ho, h => by simp only [fillL, Option.some.injEq] at h; subst h; exact ⟨cells', rfl, hc, ho⟩
  | _, _, .cons i v v' l l' hv t, cells, cells', r, hc, ho, h => by
    simp only [fillL] at h
    split at h
    · cases h
    · rename_i off size hp
      split at h
      · rename_i hs
        obtain ⟨hvl, hvo⟩ := hv.cells
        have hvs := hv.cells_size
        have hlen := hc.len
        have hsz : cells'.size = cells.length := by simpa using hlen.symm
        obtain ⟨r', h1, h2, h3⟩ := fill_rel place t (cells := over cells off v.cells.toList) (cells' := overA cells' off v'.cells.toList) (r := r)
          (by unfold overA; simpa using hc.over hvl off)
          (fun u hu => by
            simp only [over, List.mem_append] at hu
            rcases hu with (hu | hu) | hu
            · exact ho u (List.mem_of_mem_take hu)
            · exact hvo u hu
            · exact ho u (List.mem_of_mem_drop hu)) h
        refine ⟨r', ?_, h2, h3⟩
        rw [Instr.fill]
        simp only [hp]
        rw [if_neg (by simp [hvs, hs.1]; omega)]
        rw [← h1]
        congr 1
        have := foldl_set off v'.cells.toList 0 cells' (by simp; omega)
        simp only [Nat.add_zero] at this
        rw [← this, ← Array.toList_zipIdx, ← Array.foldl_toList]
      · cases h

section
variable {P : Program} {T : TypeId} {ti : TI} {i : TypeInfo} {d : TypeDesc} {z : Value} {π : Pl} {w : World}

theorem mapM_fields {fields : List Field} (h : fields.all (fun f => (P.info? f.type).isSome && (P.underlying f.type).isSome) = true) :
    fields.mapM (fun f => (P.info? f.type).map fun i => (f.offset, i.size)) = some (fields.map fun f => (f.offset, match P.info? f.type with | some i => i.size | none => 0)) := by
  induction fields with
  | nil => rfl
  | cons f fs ih =>
    simp only [List.all_cons, Bool.and_eq_true, Option.isSome_iff_exists] at h
    obtain ⟨⟨⟨fi, hi⟩, _⟩, h2⟩ := h
    simp [List.mapM_cons, hi, ih h2]

theorem run_build_lg (hT : TIok P T ti i d z) {fs : List (Nat × Nat × Bool)} (hs : ti.shape = .struct fs) {l : List (Nat × Value)} {l' : Array (Nat × Value)} (hl : PVR π l l'.toList) {v : Value}
    (h : pBuild ti.zero fs l = some v) : ∃ v', (Instr.build T l').run P w = .ok v' w ∧ VR π v v' := by
  obtain ⟨fields, hd, hall, hfs⟩ := shape_struct (hT.shape.trans hs)
  unfold pBuild at h
  obtain ⟨r, hr, hv⟩ := Option.map_eq_some_iff.mp h
  subst hv
  have hpl : (fun j : Nat => (fs[j]?).map fun x : Nat × Nat × Bool => (x.1, x.2.1)) = fun j : Nat => ((fields.toList.map fun f => (f.offset, match P.info? f.type with | some i => i.size | none => 0)).toArray)[j]? := by
    funext j
    rw [hfs]
    simp only [List.getElem?_toArray, List.getElem?_map, Option.map_map]
    rfl
  rw [hpl] at hr
  obtain ⟨r', h1, h2, h3⟩ := fill_rel _ hl (cells' := z.cells) (by rw [hT.cells]; exact const_VRs π hT.zconst) (fun v hv => constOk_one (hT.zconst v hv)) hr
  refine ⟨.agg r', run_build w T l' r' ?_, ?_⟩
  · simp only [Program.built, hT.info, hT.und, hd, hT.zero, mapM_fields hall]
    exact h1
  · have := VR.of_list h2 h3
    simpa using this

theorem zeros_length (zero : List Value) : ∀ n, (zeros zero n).length = n * zero.length
  | 0 => by simp [zeros]
  | n + 1 => by simp [zeros, zeros_length zero n, Nat.succ_mul, Nat.add_comm]
theorem zeros_get (zero : List Value) (h0 : 0 < zero.length) : ∀ n j, j < n * zero.length → (zeros zero n)[j]? = zero[j % zero.length]?
  | 0, j, h => by simp at h
  | n + 1, j, h => by
    rw [zeros, List.getElem?_append]
    split
    · rename_i hlt; rw [Nat.mod_eq_of_lt hlt]
    · rename_i hge
      have h' : j < n * zero.length + zero.length := by rw [← Nat.succ_mul]; exact h
      rw [zeros_get zero h0 n _ (by omega)]
      congr 1
      exact (Nat.mod_eq_sub_mod (by omega)).symm
theorem zeros_made (zero : Array Value) (h0 : 0 < zero.size) (n : Nat) : (madeCells zero (n * zero.size)).toList = zeros zero.toList n := by
  apply List.ext_getElem?
  intro j
  by_cases hj : j < n * zero.size
  · rw [zeros_get zero.toList (by simpa using h0) n j (by simpa using hj)]
    have hm : j % zero.size < zero.size := Nat.mod_lt _ h0
    simp [madeCells, hj, hm]
  · rw [List.getElem?_eq_none (by simp [madeCells]; omega), List.getElem?_eq_none (by rw [zeros_length]; simp; omega)]
theorem zeros_const (π : Pl) {zero : List Value} (h : ∀ v ∈ zero, constOk v = true) : ∀ n, VRs π (zeros zero n) (zeros zero n) ∧ Ones (zeros zero n)
  | 0 => ⟨.nil, fun v hv => by simp [zeros] at hv⟩
  | n + 1 => ⟨(const_VRs π h).append (zeros_const π h n).1, fun v hv => by
      simp only [zeros, List.mem_append] at hv
      rcases hv with hv | hv
      · exact constOk_one (h v hv)
      · exact (zeros_const π h n).2 v hv⟩
end
end Go.Lg
