/- Operations, part 6: append, copy, clear, bytes and texts. -/
import Derived.Test.YtikafgoibpeagaaLgK
namespace Go.Lg
set_option linter.unusedVariables false
set_option linter.unusedSimpArgs false

section
variable {P : Program} {fr : Fr} {σ : LH} {π : Pl} {a : Act} {w : World}

/-- a second operand's type: no whole number -/
def NoInt (P : Program) (U : Nat) : Prop := ∃ d, P.underlying U = some d ∧ ∀ k, d ≠ .int k

theorem run_append_roomL {T U e ty : Nat} {ie : TypeInfo} (hu : P.underlying T = some (.slice e)) (hi : P.info? e = some ie) (hU : NoInt P U) {b : Option Addr} {n c m : Nat} {x' : Value} {news : Array Value}
    (hm : (Builtin.lenOf x').run P w = .ok m w) (hn : (Builtin.firstCells ie.size m x').run P w = .ok news w) (hroom : n + m ≤ c) :
    (Builtin.append_ #[T, U] ty #[.slice b n c, x']).run P w =
      (match b with | some a => ((storeCells (a.add (n * ie.size)) news.toList).run P w).andThen fun _ w' => .ok (.slice b (n + m) c) w' | none => .ok (.slice b (n + m) c) w) := by
  unfold Builtin.append_
  simp only [List.getElem?_toArray, List.getElem?_cons_zero, List.getElem?_cons_succ, Sem.run_bind, run_underlying hu, Result.andThen_ok, sizeOf, typeInfo, run_program, hi, Sem.run_pure]
  obtain ⟨d, h1, h2⟩ := hU
  simp only [run_underlying h1, Result.andThen_ok]
  have hd : ∀ {α : Type} (x y : α), (match d with | .int _ => x | _ => y) = y := by intro α x y; cases d <;> first | rfl | exact absurd rfl (h2 _)
  cases b with
  | none => simp [hd, hm, hroom, hn]
  | some ad => simp [hd, hm, hroom, hn]

theorem run_append_growL {T U e ty : Nat} {ie : TypeInfo} {ze : Value} (hu : P.underlying T = some (.slice e)) (hi : P.info? e = some ie) (hz : ie.zero = some ze) (hU : NoInt P U) {b : Option Addr} {n c m : Nat} {x' : Value} {olds news : Array Value}
    (hm : (Builtin.lenOf x').run P w = .ok m w) (ho : (Builtin.firstCells ie.size n (.slice b n c)).run P w.drew = .ok olds w.drew) (hn : (Builtin.firstCells ie.size m x').run P w.drew = .ok news w.drew)
    (hgrow : c < n + m) (h63 : n + m ≤ 9223372036854775807) (hb0 : 0 < ie.bytes) (hbytes : (n + m) * ie.bytes ≤ 140737488355328) :
    (Builtin.append_ #[T, U] ty #[.slice b n c, x']).run P w =
      .ok (.slice (some ⟨w.heap.size, 0, none⟩) (n + m) (grownCap w (n + m) c e)) (w.drew.alloc (.cells (olds ++ news ++ Builtin.zeroCells ze.cells (grownCap w (n + m) c e - (n + m))) e)) := by
  have hr : ¬ (n + m ≤ c) := by omega
  have h63' : ¬ (9223372036854775807 < ((n : Int) + (m : Int))) := by omega
  have hfit := growslice_fits hgrow hbytes
  have h48' : ¬ (281474976710656 < Builtin.nextslicecap (n + m) c * ie.bytes) := by omega
  have hb' : ie.bytes ≠ 0 := by omega
  unfold Builtin.append_
  simp only [List.getElem?_toArray, List.getElem?_cons_zero, List.getElem?_cons_succ, Sem.run_bind, run_underlying hu, Result.andThen_ok, sizeOf, typeInfo, run_program, hi, Sem.run_pure]
  obtain ⟨d, h1, h2⟩ := hU
  simp only [run_underlying h1, Result.andThen_ok]
  have hd : ∀ {α : Type} (x y : α), (match d with | .int _ => x | _ => y) = y := by intro α x y; cases d <;> first | rfl | exact absurd rfl (h2 _)
  simp [hd, hm, hr, h63', h48', hb', Question.forced, ho, hn, zeroValue, typeInfo, hi, hz, newRow, grownCap]

theorem grownCap_need (w : World) (need old e : Nat) : need ≤ grownCap w need old e := by
  simp only [grownCap, Question.cut]; omega

/-- a row that goes on: in its own place, or in a new one -/
theorem HR.regrow {m : Mem} {w w' : World} (h : HR m π w) {b : Key} {e : Tgt} {blk : Blk} (hk : π b = some e) (hb : m b = some blk) (hw : blk.wr = true) {k : Key} (hkn : π k = none)
    {o' : Nat} {arr : Array Value} (hrow : RowAt w e.r arr) {olds news olds' news' : List Value} (ho : VRs π olds olds') (hn : VRs π news news') (h1 : Ones olds) (h2 : Ones news)
    (hcell : ∀ (j : Nat) v, olds'[j]? = some v → arr[o' + j]? = some v) (hfit : o' + olds.length + news.length ≤ arr.size) (p : Put w e.r (overA arr (o' + olds.length) news') w') :
    HR (upd (upd m b none) k (some ⟨olds ++ news, true⟩)) (upd π k (some ⟨e.r, o', arr.size, true⟩)) w' := by
  have hbk : b ≠ k := fun he => by rw [he, hkn] at hk; cases hk
  have hmore : More π (upd π k (some ⟨e.r, o', arr.size, true⟩)) := fun x y hx => by
    rw [upd_ne]; exact hx
    intro he; rw [he, hkn] at hx; cases hx
  have hol := ho.len
  have hnl := hn.len
  have hoA : ∀ j : Nat, (overA arr (o' + olds.length) news')[j]? = if o' + olds.length ≤ j ∧ j < o' + olds.length + news'.length then news'[j - (o' + olds.length)]? else arr[j]? := fun j => by
    unfold overA
    rw [List.getElem?_toArray, over_get (by simp; omega)]
    simp
  have hosz : (overA arr (o' + olds.length) news').size = arr.size := by
    unfold overA; rw [List.size_toArray, over_length (by simp; omega)]; simp
  have hs : ∀ {j : Key} {y : Blk}, j ≠ k → upd (upd m b none) k (some ⟨olds ++ news, true⟩) j = some y → j ≠ b ∧ m j = some y := fun {j y} hjk hj => by
    rw [upd_ne _ _ hjk] at hj
    by_cases hjb : j = b
    · subst hjb; simp at hj
    · rw [upd_ne _ _ hjb] at hj; exact ⟨hjb, hj⟩
  have hfar : ∀ {j : Key} {e1 : Tgt} {y : Blk}, j ≠ b → π j = some e1 → m j = some y → e1.r ≠ e.r := fun {j e1 y} hjb hj hy he => by
    have := (h.inj j b e1 e y blk hj hk hy hb hjb he).2
    rw [hw] at this; cases this
  refine ⟨?_, ?_, ?_, ?_, ?_⟩
  · intro j e1 y i v hj hm hi
    by_cases hjk : j = k
    · subst hjk
      simp only [upd_same, Option.some.injEq] at hj hm
      subst hj hm
      simp only at hi
      rw [p.row.cell, hoA]
      rw [List.getElem?_append] at hi
      split at hi
      · obtain ⟨v', g1, g2⟩ := ho.get hi
        exact ⟨v', by rw [if_neg (by simp only; omega)]; simp only; rw [Nat.add_comm]; exact hcell _ _ g1, g2.mono hmore⟩
      · obtain ⟨v', g1, g2⟩ := hn.get hi
        have hlt : i - olds.length < news'.length := by
          rcases Nat.lt_or_ge (i - olds.length) news'.length with h' | h'
          · exact h'
          · rw [List.getElem?_eq_none h'] at g1; cases g1
        exact ⟨v', by rw [if_pos (by simp only; omega), ← g1]; congr 1; simp only; omega, g2.mono hmore⟩
    · obtain ⟨hjb, hm⟩ := hs hjk hm
      rw [upd_ne _ _ hjk] at hj
      obtain ⟨v', g1, g2⟩ := h.cell j e1 y i v hj hm hi
      exact ⟨v', by rw [cell_of_heap (p.other _ (hfar hjb hj hm))]; exact g1, g2.mono hmore⟩
  · intro j y he hm
    by_cases hjk : j = k
    · subst hjk; simp only [upd_same, Option.some.injEq] at hm; subst hm
      intro v hv
      simp only [List.mem_append] at hv
      exact hv.elim (h1 v) (h2 v)
    · obtain ⟨hjb, hm⟩ := hs hjk hm
      obtain ⟨e1, he⟩ := he
      rw [upd_ne _ _ hjk] at he
      exact h.ones j y ⟨e1, he⟩ hm
  · intro j e1 y hj hm hy
    by_cases hjk : j = k
    · subst hjk
      simp only [upd_same, Option.some.injEq] at hj hm
      subst hj hm
      exact ⟨rfl, _, p.row, by rw [hosz], by simp only [List.length_append]; omega⟩
    · obtain ⟨hjb, hm⟩ := hs hjk hm
      rw [upd_ne _ _ hjk] at hj
      obtain ⟨g1, ar, g2, g3⟩ := h.own j e1 y hj hm hy
      exact ⟨g1, ar, g2.of_heap (p.other _ (hfar hjb hj hm)), g3⟩
  · intro j j' e1 e2 y1 y2 hj hj' hm hm' hne hr
    by_cases hjk : j = k
    · have hjk' : j' ≠ k := fun he => hne (hjk.trans he.symm)
      obtain ⟨g1, g2⟩ := hs hjk' hm'
      rw [upd_ne _ _ hjk'] at hj'
      rw [hjk, upd_same] at hj
      cases hj
      exact absurd hr.symm (hfar g1 hj' g2)
    · obtain ⟨g1, g2⟩ := hs hjk hm
      rw [upd_ne _ _ hjk] at hj
      by_cases hjk' : j' = k
      · rw [hjk', upd_same] at hj'
        cases hj'
        exact absurd hr (hfar g1 hj g2)
      · obtain ⟨g3, g4⟩ := hs hjk' hm'
        rw [upd_ne _ _ hjk'] at hj'
        exact h.inj j j' e1 e2 y1 y2 hj hj' g2 g4 hne hr
  · intro j e1 hj
    rw [p.size]
    by_cases hjk : j = k
    · subst hjk; simp only [upd_same, Option.some.injEq] at hj; subst hj; show e.r < _; exact h.lt _ _ hk
    · rw [upd_ne _ _ hjk] at hj; exact h.lt _ _ hj
end
end Go.Lg
