/- Operations, part 8: bytes and texts; and every operation at once. -/
import Derived.Test.YtikafgoibpeagaaLgM
namespace Go.Lg
set_option linter.unusedVariables false
set_option linter.unusedSimpArgs false

section
variable {P : Program} {fr : Fr} {σ : LH} {π : Pl} {a : Act} {w : World}

theorem bytesOf_some : ∀ {cs : List Value} {l : List UInt8}, bytesOf cs = some l → ∃ ns : List Int, cs = ns.map (Value.int .u8) ∧ l = ns.map fun n => UInt8.ofNat n.toNat
  | [], l, h => by simp [bytesOf] at h; subst h; exact ⟨[], rfl, rfl⟩
  | c :: cs, l, h => by
    unfold bytesOf at h
    split at h
    · rename_i e; cases e
    · rename_i n r e
      cases e
      obtain ⟨l', h1, h2⟩ := Option.map_eq_some_iff.mp h
      subst h2
      obtain ⟨ns, g1, g2⟩ := bytesOf_some h1
      exact ⟨n :: ns, by rw [g1]; rfl, by rw [g2]; rfl⟩
    · cases h

theorem ints_same {k : IntKind} : ∀ {ns : List Int} {l' : List Value}, VRs π (ns.map (Value.int k)) l' → l' = ns.map (Value.int k)
  | [], _, .nil => rfl
  | n :: ns, _, .cons h t => by
    cases h
    rw [ints_same t]; rfl

theorem push_bytes : ∀ (ns : List Int) (s : ByteArray), (ns.foldl (fun r n => r.push (UInt8.ofNat n.toNat)) s) = ⟨(s.data.toList ++ ns.map fun n => UInt8.ofNat n.toNat).toArray⟩
  | [], s => by simp
  | n :: ns, s => by
    rw [List.foldl_cons, push_bytes ns]
    simp [ByteArray.push]

theorem run_B2S_lg (h : Rel fr σ π a w) {S T e : Nat} {si ti te : TI} {i1 i2 i3 : TypeInfo} {d1 d2 d3 : TypeDesc} {z1 z2 z3 : Value} (hS : TIok P S si i1 d1 z1) (hss : si.shape = .slice e)
    (hE : TIok P e te i3 d3 z3) (hes : te.shape = .int .u8) (hT : TIok P T ti i2 d2 z2) (hts : ti.shape = .str) {x x' v : Value} (hx : VR π x x') (hv : pB2S σ x = some v) :
    ∃ v', (convert S T x').run P w = .ok v' w ∧ VR π v v' := by
  have hu1 : P.underlying S = some (.slice e) := by rw [hS.und, shape_slice (hS.shape.trans hss)]
  have hu2 : P.underlying T = some .string := by rw [hT.und, shape_str (hT.shape.trans hts)]
  have hu3 : P.underlying e = some (.int .u8) := by rw [hE.und, shape_int (hE.shape.trans hes)]
  unfold pB2S at hv
  split at hv
  · cases hv; cases hx
    exact ⟨.string .empty, by rw [run_convert_bytes_string w S T e _ _ _ hu1 hu3 hu2]; simp [Conv.bytesToString], .string _⟩
  · rename_i ad n c
    obtain ⟨b, o, sp⟩ := ad
    obtain ⟨eT, o', c', z', rfl, hk, rfl, h1, h2, h3, h4, h5⟩ := hx.slc_inv
    replace hv := Option.bind_eq_some_iff.mp hv
    obtain ⟨cs, hcs, hv⟩ := hv
    obtain ⟨l, hl, he⟩ := Option.map_eq_some_iff.mp hv
    subst he
    obtain ⟨ns, g1, g2⟩ := bytesOf_some hl
    obtain ⟨cs', n1, n2, n3, n4⟩ := run_cellsOf (P := P) h hx hcs rfl (Nat.le_refl _)
    rw [g1] at n1
    have hc' := ints_same n1
    refine ⟨.string ⟨l.toArray⟩, ?_, .string _⟩
    rw [run_convert_bytes_string w S T e _ _ _ hu1 hu3 hu2]
    have hld : (loadCells ⟨eT.r, o', none⟩ n).run P w = .ok (ns.map (Value.int .u8)).toArray w := by
      rw [← hc']
      simpa [Builtin.firstCells] using n4
    rw [run_bytesToString w _ n c' ns hld, push_bytes, g2]
    simp
  · cases hv

theorem run_S2B_lg (h : Rel fr σ π a w) {S T e : Nat} {si ti te : TI} {i1 i2 i3 : TypeInfo} {d1 d2 d3 : TypeDesc} {z1 z2 z3 : Value} (hS : TIok P S si i1 d1 z1) (hss : si.shape = .str)
    (hT : TIok P T ti i2 d2 z2) (hts : ti.shape = .slice e) (hE : TIok P e te i3 d3 z3) (hes : te.shape = .int .u8) {x x' : Value} (hx : VR π x x') {r : Value × LH} (hr : pS2B σ x = some r) :
    ∃ v' w' π', (convert S T x').run P w = .ok v' w' ∧ VR π' r.1 v' ∧ Kept fr σ π a w fr.regs r.2 π' w' := by
  have hu1 : P.underlying S = some .string := by rw [hS.und, shape_str (hS.shape.trans hss)]
  have hu2 : P.underlying T = some (.slice e) := by rw [hT.und, shape_slice (hT.shape.trans hts)]
  have hu3 : P.underlying e = some (.int .u8) := by rw [hE.und, shape_int (hE.shape.trans hes)]
  unfold pS2B at hr
  split at hr
  · rename_i s
    cases hr; cases hx
    obtain ⟨cap, hcap⟩ : ∃ cap, cap = grownCap w s.size 0 e := ⟨_, rfl⟩
    have hge : s.size ≤ cap := by rw [hcap]; exact grownCap_need w _ _ _
    let arr : Array Value := (s.data.map fun b => Value.int .u8 b.toNat) ++ Array.replicate (cap - s.size) (.int .u8 0)
    have hsz : arr.size = cap := by
      have : s.data.size = s.size := rfl
      simp [arr, this]; omega
    let w1 : World := w.drew.alloc (.cells arr e)
    have hw1 : w1.heap[w.heap.size]? = some (.cells arr e (0, 0)) := by
      show (w.heap.push _)[w.heap.size]? = _; simp
    let w2 : World := w1.freeze ⟨w.heap.size, arr.size, none⟩ 1
    have hw2 : w2.heap = w1.heap.modify w.heap.size fun | .cells c elem (lo, hi) => .cells c elem (if lo == hi then (arr.size, arr.size + 1) else (min lo arr.size, max hi (arr.size + 1))) | o => o := by
      show (World.freeze w1 ⟨w.heap.size, arr.size, none⟩ 1).heap = _
      unfold World.freeze; rfl
    have g : Grown1 w.drew arr w2 := by
      refine ⟨rfl, rfl, rfl, ?_, ⟨e, arr.size, arr.size + 1, ?_, fun o ho => by omega⟩, fun k hk => ?_⟩
      · rw [hw2]; simp [w1]
      · rw [hw2, Array.getElem?_modify]
        show (if w.heap.size = w.heap.size then Option.map _ w1.heap[w.heap.size]? else _) = _
        rw [if_pos rfl, hw1]; rfl
      · rw [hw2, Array.getElem?_modify]
        have hk' : k < w.heap.size := hk
        rw [if_neg (by omega)]
        show (w.heap.push _)[k]? = _
        rw [Array.getElem?_push, if_neg (by omega)]; rfl
    obtain ⟨k1, k2, k3⟩ := h.drew.pushHp g (vs := s.data.toList.map fun b => .int .u8 b.toNat) (bytes_VRs π _).2 ⟨_, (bytes_VRs π _).1, fun j v hj => by
      have hlt : j < s.data.size := by
        rcases Nat.lt_or_ge j s.data.size with h' | h'
        · exact h'
        · rw [List.getElem?_eq_none (by simpa using h')] at hj; cases hj
      show ((s.data.map fun b => Value.int .u8 b.toNat) ++ Array.replicate (cap - s.size) (.int .u8 0))[j]? = _
      rw [Array.getElem?_append_left (by simpa using hlt), ← hj, ← Array.getElem?_toList]
      simp⟩
    refine ⟨.slice (some ⟨w.heap.size, 0, none⟩) s.size cap, w2, plus π (.hp σ.next) w.drew arr, ?_, ?_, Kept.drew h ⟨k1, k2, k3⟩⟩
    · have hsh : w1.shape? w.heap.size = some (e, arr.size) := by simp [World.shape?, hw1]
      simp only [convert, Sem.run_bind, run_underlying hu1, run_underlying hu2, Result.andThen_ok, run_underlying hu3, Conv.stringToBytes, run_choose]
      simp only [Question.forced, Bool.false_eq_true, if_false, Result.andThen_ok, newRow, Sem.run_bind, run_newObj, Sem.run_pure, markStringish, run_shape]
      subst hcap
      change ((Sem.run P (match w1.shape? w.heap.size with | some (_, n) => freeze { block := w.heap.size, off := n } 1 | _ => pure ()) w1).andThen _) = _
      rw [hsh]; rfl
    · exact slice_new s.size (capL s.size) cap 1 cap (by simp [capL]; omega) (by simp [capL]) (by simp [capL]) (fun _ => by omega) π w.drew σ.next hsz
  · cases hr
end
end Go.Lg
