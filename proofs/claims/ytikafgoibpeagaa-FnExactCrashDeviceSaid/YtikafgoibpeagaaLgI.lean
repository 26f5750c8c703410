/- Operations, part 3: addresses, composite literals, slices. -/
import Derived.Test.YtikafgoibpeagaaLgH
import Derived.Laws.MakeOwn
import Derived.Laws.BytesString
namespace Go.Lg
set_option linter.unusedVariables false
set_option linter.unusedSimpArgs false

theorem Addr.add_none (r o n : Nat) : (⟨r, o, none⟩ : Addr).add n = ⟨r, o + n, none⟩ := by
  unfold Addr.add; split <;> simp_all

section
variable {P : Program} {T : TypeId} {ti : TI} {i : TypeInfo} {d : TypeDesc} {z : Value} (hT : TIok P T ti i d z) {w : World}
include hT

theorem field_info {fs : List (Nat × Nat × Bool)} (hs : ti.shape = .struct fs) {j off size : Nat} {ag : Bool} (hj : fs[j]? = some (off, size, ag)) :
    ∃ fields f fi fd, P.underlying T = some (.struct fields) ∧ fields[j]? = some f ∧ f.offset = off ∧ P.info? f.type = some fi ∧ fi.size = size ∧ P.underlying f.type = some fd ∧ aggD fd = ag := by
  obtain ⟨fields, hd, hall, hfs⟩ := shape_struct (hT.shape.trans hs)
  rw [hfs, List.getElem?_map] at hj
  obtain ⟨f, hf, he⟩ := Option.map_eq_some_iff.mp hj
  have := List.all_eq_true.mp hall f (List.mem_of_getElem? hf)
  simp only [Bool.and_eq_true, Option.isSome_iff_exists] at this
  obtain ⟨⟨fi, hi⟩, ⟨fd, hd'⟩⟩ := this
  simp only [hi, hd', Prod.mk.injEq] at he
  exact ⟨fields, f, fi, fd, by rw [hT.und, hd], by simpa using hf, he.1, hi, he.2.1, hd', he.2.2⟩

theorem run_fieldAt_lg {fs : List (Nat × Nat × Bool)} (hs : ti.shape = .struct fs) {j off size : Nat} {ag : Bool} (hj : fs[j]? = some (off, size, ag)) (h0 : size ≠ 0) (r o : Nat) :
    (Instr.fieldAt T (.pointer (some ⟨r, o, none⟩)) j).run P w = .ok (.pointer (some ⟨r, o + off, none⟩)) w := by
  obtain ⟨fields, f, fi, fd, hu, hf, ho, hi, hsz, _, _⟩ := field_info hT hs hj
  simp [Instr.fieldAt, run_underlying hu, hf, Instr.sureAddr, fieldPlace, sizeOf, typeInfo, hi, hsz, h0, ho, Addr.add_none]

omit hT in
theorem run_part {π : Pl} {f : TypeId} {fi : TypeInfo} {fd : TypeDesc} {off size : Nat} {ag : Bool} (hi : P.info? f = some fi) (hsz : fi.size = size) (hd : P.underlying f = some fd) (ha : aggD fd = ag)
    {x x' v : Value} (hx : VR π x x') (h : pFld off size ag x = some v) : ∃ cs', x' = .agg cs' ∧ ∃ v', (part f cs' off).run P w = .ok v' w ∧ VR π v v' := by
  unfold pFld at h
  split at h
  · rename_i cs
    obtain ⟨cs', rfl, hcs, ho⟩ := hx.agg_list
    refine ⟨cs', rfl, ?_⟩
    have hag : (isAgg f).run P w = .ok ag w := by
      simp only [isAgg, Sem.run_bind, run_underlying hd, Result.andThen_ok]
      cases fd <;> simp_all [aggD]
    split at h
    · rename_i hag'
      split at h
      · rename_i hfit
        cases h
        refine ⟨.agg (cs'.extract off (off + size)), by simp [part, hag, hag', sizeOf, typeInfo, hi, hsz], ?_⟩
        have := VR.of_list ((hcs.drop off).take size) fun v hv => ho v (List.mem_of_mem_drop (List.mem_of_mem_take hv))
        have he : (cs'.extract off (off + size)) = (List.take size (List.drop off cs'.toList)).toArray := by
          apply Array.ext'; simp [Array.toList_extract, List.extract_eq_take_drop]
        rw [he]; exact this
      · cases h
    · rename_i hag'
      obtain ⟨v', h1, h2⟩ := hcs.get (i := off) (v := v) (by simpa using h)
      have h1' : cs'[off]? = some v' := by simpa using h1
      exact ⟨v', by simp [part, hag, hag', h1'], h2⟩
  · cases h

theorem run_indexAt_lg {e : Nat} (hs : ti.shape = .slice e) {te : TI} {ie : TypeInfo} {de : TypeDesc} {ze : Value} (hE : TIok P e te ie de ze) {π : Pl} {x x' iv iv' v : Value} (hx : VR π x x') (hi : VR π iv iv')
    (h : pIA te.size x iv = some v) : ∃ v', (Instr.indexAt T x' iv').run P w = .ok v' w ∧ VR π v v' := by
  have hd := shape_slice (hT.shape.trans hs)
  have hu : P.underlying T = some (.slice e) := by rw [hT.und, hd]
  unfold pIA at h
  split at h
  · rename_i a n c k j
    cases hi
    cases hx with
    | slc b o n c z' o' c' eT hk h1 h2 h3 h4 h5 =>
      split at h
      · rename_i hj
        cases h
        have hpos : 0 < c / 2 := by omega
        refine ⟨.pointer (some ⟨eT.r, o' + j.toNat * te.size, none⟩), ?_, ?_⟩
        · simp [Instr.indexAt, asIntOf, run_underlying hu, hj, sizeOf, typeInfo, hE.info, hE.size, Addr.add_none]
        · rw [h1 hpos, Nat.add_right_comm]; exact .ptr b _ eT hk
      · cases h
  · cases h
end

theorem asI_VR {π : Pl} {v v' : Value} (h : VR π v v') {n : Int} (hn : asI v = some n) : ∃ k, v' = .int k n := by
  unfold asI at hn
  split at hn
  · cases hn; cases h; exact ⟨_, rfl⟩
  · cases hn

theorem run_pBd {P : Program} {π : Pl} {w : World} (sl : Bool) {n c c' : Nat} (hc : c ≤ c') {lo hi mx lo' hi' mx' : Option Value} (hl : OVR π lo lo') (hh : OVR π hi hi') (hm : OVR π mx mx') {r : Nat × Nat × Nat}
    (h : pBd n c lo hi mx = some r) : (Instr.sliceBounds sl n c' lo' hi' mx').run P w = .ok (r.1, r.2.1, if mx.isSome then r.2.2 else c') w ∧
      (mx.isSome = false → r.2.2 = c) ∧ r.2.2 ≤ c ∧ (n ≤ c → r.2.1 ≤ r.2.2) ∧ (lo.isSome ∨ r.1 = 0) ∧ (r.1 ≤ r.2.1) := by
  unfold pBd at h
  obtain ⟨m, h1, h⟩ := Option.bind_eq_some_iff.mp h
  obtain ⟨hg, h2, h⟩ := Option.bind_eq_some_iff.mp h
  obtain ⟨l, h3, h⟩ := Option.bind_eq_some_iff.mp h
  cases h
  have bnd : ∀ {v v' : Value} {y y' q : Nat} (code : BoundsCode), VR π v v' → (asI v).bind (fun i => if 0 ≤ i ∧ i ≤ (y : Int) then some i.toNat else none) = some q → y ≤ y' →
      (Instr.sliceBound v' y' code).run P w = .ok q w ∧ q ≤ y := by
    intro v v' y y' q code hv hq hy
    obtain ⟨i, hi, hq⟩ := Option.bind_eq_some_iff.mp hq
    obtain ⟨k, rfl⟩ := asI_VR hv hi
    split at hq
    · rename_i hb
      cases hq
      have : 0 ≤ i ∧ i ≤ (y' : Int) := by omega
      exact ⟨by simp [Instr.sliceBound, asIntOf, this], by omega⟩
    · cases hq
  have low : ∀ {code : BoundsCode} {hgv : Nat}, hgv = hg → (match lo' with | some v => Instr.sliceBound v hgv code | none => pure 0 : Sem Nat).run P w = .ok l w ∧ (lo.isSome ∨ l = 0) ∧ l ≤ hg := by
    intro code hgv he
    subst he
    cases hl with
    | none => simp only at h3; cases h3; exact ⟨rfl, .inr rfl, Nat.zero_le _⟩
    | some v v' hv => obtain ⟨b1, b2⟩ := bnd (y' := hgv) code hv h3 (Nat.le_refl _); exact ⟨b1, .inl rfl, b2⟩
  cases hm with
  | some v v' hv =>
    obtain ⟨m1, m2⟩ := bnd (y' := c') (if sl then .slice3Acap else .slice3Alen) hv h1 hc
    cases hh with
    | none => simp at h2
    | some u u' hu =>
      obtain ⟨u1, u2⟩ := bnd (y' := m) .slice3B hu h2 (Nat.le_refl _)
      obtain ⟨l1, l2, l3⟩ := low (code := .slice3C) rfl
      refine ⟨?_, by simp, m2, fun _ => u2, l2, l3⟩
      simp only [Instr.sliceBounds, Sem.run_bind, m1, Result.andThen_ok, u1, Option.isSome_some, if_true]
      have := l1
      cases lo' <;> simp_all
  | none =>
    simp only [Option.some.injEq] at h1
    subst h1
    cases hh with
    | none =>
      simp only [Option.some.injEq] at h2
      subst h2
      obtain ⟨l1, l2, l3⟩ := low (code := .sliceB) rfl
      refine ⟨?_, fun _ => rfl, Nat.le_refl _, fun h => h, l2, l3⟩
      simp only [Instr.sliceBounds, Sem.run_bind, Sem.run_pure, Result.andThen_ok, Option.isSome_none, Bool.false_eq_true, if_false]
      have := l1
      cases lo' <;> simp_all
    | some u u' hu =>
      obtain ⟨u1, u2⟩ := bnd (y' := c') (if sl then .sliceAcap else .sliceAlen) hu h2 hc
      obtain ⟨l1, l2, l3⟩ := low (code := .sliceB) rfl
      refine ⟨?_, fun _ => rfl, Nat.le_refl _, fun _ => u2, l2, l3⟩
      simp only [Instr.sliceBounds, Sem.run_bind, Sem.run_pure, Result.andThen_ok, u1, Option.isSome_none, Bool.false_eq_true, if_false]
      have := l1
      cases lo' <;> simp_all
end Go.Lg
